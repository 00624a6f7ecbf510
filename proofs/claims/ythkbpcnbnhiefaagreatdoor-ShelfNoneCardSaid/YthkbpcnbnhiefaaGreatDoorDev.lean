/- The device: each of its methods. -/
import Derived.Test.YthkbpcnbnhiefaaGreatDoorProg
import Derived.Test.YthkbpcnbnhiefaaGreatDoorMem
import Derived.Test.YthkbpcnbnhiefaaGreatDoorDev0
import Derived.Test.YthkbpcnbnhiefaaGreatDoorClone
import Derived.WalkKit
import Derived.Deep.QuietTactic
import Derived.BigQuiet
import Derived.Handy
import Derived.Deep.OwnRows
namespace Go.Proofs.Sg
open Go.RowKit

theorem mul_div64 {a b : Nat} (h2 : a ≤ 65536) (h3 : 1 ≤ b) : wrap64 (((a : Int) * (b : Int)).tdiv (b : Int)) = a := by
  rw [Int.mul_tdiv_cancel _ (by omega)]; unfold wrap64; omega

theorem dev_blocks {w : World} {gd gi blocks bytes : Nat} {D : Nat → List UInt8} {r s : Nat} (h : IsDev w gd gi blocks bytes D r s) :
    Calls Tryz.prog 53 #[.pointer (some ⟨gd, 0, none⟩)] w fun e w' => e = .returned (.int .i64 blocks) ∧ ∃ q, w' = w.drewN q := by
  obtain ⟨hd, hg, h1, h2, h3, h4, hD⟩ := h
  have c0 : w.cell? ⟨gd, 0, none⟩ = some (.int .i64 bytes) := hd.cell 0
  have c1 : w.cell? ⟨gd, 1, none⟩ = some (.slice (some ⟨gi, 0, none⟩) (blocks * bytes) (blocks * bytes)) := hd.cell 1
  have hb : ((bytes : Int) == 0) = false := by simp; omega
  go_enter Tryz.func53, Tryz.ntmps53
  go_wp2
  go_quiet (fail)
  go_wp2
  go_ret
  exact ⟨ret_int (mul_div64 h2 h3), nq, rfl⟩

theorem dev_bytes {w : World} {gd gi blocks bytes : Nat} {D : Nat → List UInt8} {r s : Nat} (h : IsDev w gd gi blocks bytes D r s) :
    Calls Tryz.prog 54 #[.pointer (some ⟨gd, 0, none⟩)] w fun e w' => e = .returned (.int .i64 bytes) ∧ w = w' := by
  obtain ⟨hd, hg, h1, h2, h3, h4, hD⟩ := h
  have c0 : w.cell? ⟨gd, 0, none⟩ = some (.int .i64 bytes) := hd.cell 0
  go_enter Tryz.func54, Tryz.ntmps54
  go_wp2
  go_ret
  exact ⟨rfl, rfl⟩

theorem IsDev.drewN {w : World} {gd gi blocks bytes : Nat} {D : Nat → List UInt8} {r s : Nat} (h : IsDev w gd gi blocks bytes D r s) (q : Nat) : IsDev (w.drewN q) gd gi blocks bytes D r s := h

theorem dev_at {w : World} {gd gi blocks bytes : Nat} {D : Nat → List UInt8} {r s : Nat} (h : IsDev w gd gi blocks bytes D r s) (i : Nat) (hi : i < blocks) :
    Calls Tryz.prog 85 #[.pointer (some ⟨gd, 0, none⟩), .int .u32 i] w fun e w' => e = .returned (.tuple #[.slice (some ⟨gi, i * bytes, none⟩) bytes (blocks * bytes - i * bytes), .int .i64 0]) ∧ ∃ q, w' = w.drewN q := by
  have h0 := h
  obtain ⟨hd, hg, h1, h2, h3, h4, hD⟩ := h
  have c0 : w.cell? ⟨gd, 0, none⟩ = some (.int .i64 bytes) := hd.cell 0
  have c1 : w.cell? ⟨gd, 1, none⟩ = some (.slice (some ⟨gi, 0, none⟩) (blocks * bytes) (blocks * bytes)) := hd.cell 1
  have m1 : 0 ≤ (i : Int) * (bytes : Int) := Int.mul_nonneg (by omega) (by omega)
  have m2 : (i : Int) * (bytes : Int) + bytes ≤ (blocks : Int) * (bytes : Int) := by
    have : ((i + 1 : Nat) : Int) * (bytes : Int) ≤ (blocks : Int) * (bytes : Int) := Int.mul_le_mul_of_nonneg_right (by omega) (by omega)
    rw [Int.natCast_add, Int.add_mul] at this; omega
  have m3 : (blocks : Int) * (bytes : Int) ≤ 4294967296 := by
    have : (blocks : Int) * (bytes : Int) ≤ 65536 * 65536 := Int.mul_le_mul (by omega) (by omega) (by omega) (by omega)
    omega
  go_enter Tryz.func85, Tryz.ntmps85
  go_wp2_with fail
  refine (dev_blocks h0).mono ?_
  rintro e w' ⟨rfl, q, rfl⟩
  go_wp2_with fail
  refine (dev_blocks (h0.drewN q)).mono ?_
  rintro e w' ⟨rfl, q2, rfl⟩
  go_wp2_with fail
  go_quiet (fail)
  go_wp2
  go_ret2
  exact ⟨by simp, _, World.drewN_drewN ..⟩


theorem IsDev.keep {w w' : World} {S : Nat → Prop} {gd gi blocks bytes : Nat} {D : Nat → List UInt8} {r s : Nat} (h : IsDev w gd gi blocks bytes D r s) (hk : Keeps S w w') (h1 : ¬ S gd) (h2 : ¬ S gi) : IsDev w' gd gi blocks bytes D r s := by
  obtain ⟨hd, hg, h3⟩ := h
  exact ⟨hd.keep hk h1, hg.keep hk h2, h3⟩
theorem IsDev.ne {w : World} {gd gi blocks bytes : Nat} {D : Nat → List UInt8} {r s : Nat} (h : IsDev w gd gi blocks bytes D r s) : gd ≠ gi := h.1.ne_ h.2.1 (by decide)

theorem dev_read {w : World} {gd gi blocks bytes : Nat} {D : Nat → List UInt8} {r s : Nat} (h : IsDev w gd gi blocks bytes D r s) (i : Nat) (hi : i < blocks) :
    Calls Tryz.prog 34 #[.pointer (some ⟨gd, 0, none⟩), .int .u32 i] w fun e w' => ∃ g c, e = .returned (.tuple #[.slice (some ⟨g, 0, none⟩) bytes c, .int .i64 0]) ∧
      w.heap.size ≤ g ∧ g < w'.heap.size ∧ (∃ cs, Blk w' g 5 cs) ∧ BytesAt w' g 0 (D i) ∧ IsDev w' gd gi blocks bytes D (r + 1) s ∧ Keeps (fun k => k = gd) w w' := by
  have h0 := h
  have hne := h.ne
  obtain ⟨hd, hg, h1, h2, h3, h4, hD⟩ := h
  have c2 : w.cell? ⟨gd, 2, none⟩ = some (.int .u64 (u64 r)) := hd.cell 2
  have f2 := hd.frozen 2
  have hst := u64_step r
  go_enter Tryz.func34, Tryz.ntmps34
  go_wp2_with fail
  refine (dev_at h0 i hi).mono ?_
  rintro e w' ⟨rfl, q, rfl⟩
  go_wp2_with fail
  have hB : BytesAt ((w.drewN q).setCell ⟨gd, 2, none⟩ (.int .u64 (u64 (r + 1)))) gi (i * bytes) (D i) := (h0.bytes_at hi).keep (Below.heap_setCell _ _ _ _ hne.symm)
  have hC := clone_bytes hB (blocks * bytes - i * bytes) (by rw [hD i hi]; omega)
  rw [hD i hi] at hC
  refine hC.mono ?_
  rintro e w1 ⟨g, c, rfl, hg1, hg2, _, hg3, hg4, hb1⟩
  have hgd : gd < w.heap.size := hd.lt
  have hgi : gi < w.heap.size := hg.lt
  go_wp2_with fail
  go_ret2
  have hk : Keeps (fun k => k = gd) w w1 := (((Keeps.refl (fun k => k = gd) w).drewN q).setCell (p := ⟨gd, 2, none⟩) (fun _ => rfl) (.int .u64 (u64 (r + 1)))).trans (T := fun _ => False) (Keeps.of_below hb1) (fun _ _ h => h) (fun _ _ h => h.elim)
  refine ⟨g, c, rfl, by simpa using hg1, hg2, hg3, hg4, ⟨?_, hg.keep hk (fun e => hne e.symm), h1, h2, h3, h4, hD⟩, hk⟩
  have hd2 := ((hd.drewN q).set_ 2 (.int .u64 (u64 (r + 1)))).below hb1 (by simpa using hgd)
  simpa using hd2


theorem size_u8 : (Tryz.prog.info? 5).map (·.size) = some 1 := by kernel_rfl

theorem dev_write {w : World} {gd gi blocks bytes : Nat} {D : Nat → List UInt8} {r s : Nat} (h : IsDev w gd gi blocks bytes D r s) (i : Nat) (hi : i < blocks)
    (g off c : Nat) (bs : List UInt8) (hb : BytesAt w g off bs) (hl : bs.length = bytes) :
    Calls Tryz.prog 203 #[.pointer (some ⟨gd, 0, none⟩), .int .u32 i, .slice (some ⟨g, off, none⟩) bytes c] w fun e w' => e = .returned (.int .i64 0) ∧
      IsDev w' gd gi blocks bytes (updD D i bs) r (s + 1) ∧ Keeps (fun k => k = gd ∨ k = gi) w w' := by
  have h0 := h
  have hne := h.ne
  obtain ⟨hd, hg, h1, h2, h3, h4, hD⟩ := h
  have c0 : w.cell? ⟨gd, 0, none⟩ = some (.int .i64 bytes) := hd.cell 0
  have c3 : w.cell? ⟨gd, 3, none⟩ = some (.int .u64 (u64 s)) := hd.cell 3
  have f3 := hd.frozen 3
  have hst := u64_step s
  have B : Hd (BytesAt w g off bs) := ⟨hb⟩
  clear hb
  go_enter Tryz.func203, Tryz.ntmps203
  go_wp2_with fail
  refine (dev_at h0 i hi).mono ?_
  rintro e w' ⟨rfl, q, rfl⟩
  go_wp2_with (with_reducible refine wpList_copy_to rfl _ _ _ _ rfl 5 Tryz.underlying26 size_u8 gi (i * bytes) bytes (blocks * bytes - i * bytes) ⟨g, off, none⟩ bytes c rfl rfl _ 5 (hg.drewN q) (bs.map bv) ?c1 ?c2 ?c3 ?c4 _ (dgrid_row D hi bs hl) ?_)
  case c1 => simp [hl]
  case c2 =>
    intro j v hj
    rw [Addr.add_lit]
    have hjl : j < bs.length := by simpa using (List.getElem?_eq_some_iff.1 hj).1
    have e := B.out j hjl
    rw [List.getElem?_map, List.getElem?_eq_getElem hjl] at hj
    simp only [Option.map_some, Option.some.injEq] at hj
    subst hj
    refine e.trans ?_
    simp [hjl]
  case c3 =>
    have : (i + 1) * bytes ≤ blocks * bytes := Nat.mul_le_mul_right bytes hi
    rw [Nat.add_mul] at this
    rw [dgrid, grid_size, List.length_map, hl]; omega
  case c4 =>
    intro v hv
    obtain ⟨x, _, rfl⟩ := List.mem_map.1 hv; rfl
  intro w1 hg1 hk1
  have c3' : w1.cell? ⟨gd, 3, none⟩ = some (.int .u64 (u64 s)) := (World.cell?_of_block (hk1.block gd hd.lt hne)).trans c3
  have f3' : w1.frozen? ⟨gd, 3, none⟩ = false := ((hd.drewN q).keep hk1 hne).frozen 3
  go_wp2
  go_ret
  have hk : Keeps (fun k => k = gd ∨ k = gi) w (w1.setCell ⟨gd, 3, none⟩ (.int .u64 (u64 (s + 1)))) :=
    (((Keeps.refl (fun k => k = gd ∨ k = gi) w).drewN q).trans hk1 (fun _ _ h => h) (fun _ _ h => .inr h)).setCell (p := ⟨gd, 3, none⟩) (fun _ => .inl rfl) _
  refine ⟨rfl, ⟨?_, hg1.far (p := ⟨gd, 3, none⟩) hne.symm _, h1, h2, h3, h4, fun j hj => ?_⟩, hk⟩
  · have hd2 := ((hd.drewN q).keep hk1 hne).set_ 3 (.int .u64 (u64 (s + 1)))
    simpa using hd2
  · unfold updD; split
    · exact hl
    · exact hD j hj

theorem dev_stats {w : World} {gd gi blocks bytes : Nat} {D : Nat → List UInt8} {r s : Nat} (h : IsDev w gd gi blocks bytes D r s) :
    Calls Tryz.prog 43 #[.pointer (some ⟨gd, 0, none⟩)] w fun e w' => e = .returned (.agg #[.int .u64 (u64 r), .int .u64 (u64 s)]) ∧ Below w.heap.size w w' := by
  obtain ⟨hd, hg, h1, h2, h3, h4, hD⟩ := h
  have c2 : w.cell? ⟨gd, 2, none⟩ = some (.int .u64 (u64 r)) := hd.cell 2
  have c3 : w.cell? ⟨gd, 3, none⟩ = some (.int .u64 (u64 s)) := hd.cell 3
  have hgd := hd.lt
  go_enter Tryz.func43, Tryz.ntmps43
  go_wp2
  exact bodyPost_ret (v := .agg #[.int .u64 (u64 r), .int .u64 (u64 s)]) (by simp [results, Tryz.results43, go_sem]) rfl ⟨rfl, by go_grown⟩

theorem dev_right {w : World} (blocks bytes : Nat) (h1 : 5 ≤ blocks) (h2 : blocks ≤ 65536) (h3 : 1 ≤ bytes) (h4 : bytes ≤ 65536) :
    Calls Tryz.prog 102 #[.int .i64 blocks, .int .i64 bytes] w fun e w' => e = .returned (.bool true) ∧ w = w' := by
  go_enter Tryz.func102, Tryz.ntmps102
  go_wp2
  go_ret
  exact ⟨by simp; omega, rfl⟩

theorem made_zeros (bytes blocks : Nat) : madeCells #[.int .u8 0] (blocks * bytes) = dgrid bytes blocks (fun _ => List.replicate bytes 0) := by
  unfold dgrid
  apply Array.ext_getElem?
  intro k
  by_cases hk : k < blocks * bytes
  · have hs : 0 < bytes := by
      rcases Nat.eq_zero_or_pos bytes with h0 | h0
      · subst h0; simp at hk
      · exact h0
    have hm := Nat.mod_lt k hs
    simp [grid, madeCells, hk, hm, Nat.mod_one]
  · simp [grid, madeCells, hk]

theorem dev_new {w : World} (blocks bytes : Nat) (h1 : 5 ≤ blocks) (h2 : blocks ≤ 65536) (h3 : 1 ≤ bytes) (h4 : bytes ≤ 65536) :
    Calls Tryz.prog 50 #[.int .i64 blocks, .int .i64 bytes] w fun e w' => ∃ gd gi, e = .returned (.tuple #[.pointer (some ⟨gd, 0, none⟩), .int .i64 0]) ∧
      IsDev w' gd gi blocks bytes (fun _ => List.replicate bytes 0) 0 0 ∧ Below w.heap.size w w' ∧ w.heap.size ≤ gd ∧ w.heap.size ≤ gi := by
  have m0 : 0 ≤ (blocks : Int) * (bytes : Int) := Int.mul_nonneg (by omega) (by omega)
  have m3 : (blocks : Int) * (bytes : Int) ≤ 4294967296 := by
    have : (blocks : Int) * (bytes : Int) ≤ 65536 * 65536 := Int.mul_le_mul (by omega) (by omega) (by omega) (by omega)
    omega
  have m4 : blocks * bytes ≤ 4294967296 := by
    have : ((blocks * bytes : Nat) : Int) ≤ 4294967296 := by rw [Int.natCast_mul]; exact m3
    omega
  have hmk : ∀ W : World, (Instr.makeSlice 26 (.int .i64 ((blocks : Int) * (bytes : Int))) (.int .i64 ((blocks : Int) * (bytes : Int)))).run Tryz.prog W = .ok (.slice (some ⟨W.heap.size, 0, none⟩) (blocks * bytes) (blocks * bytes)) (W.alloc (.cells (dgrid bytes blocks (fun _ => List.replicate bytes 0)) 5)) := by
    intro W
    rw [← Int.natCast_mul, ← made_zeros]
    exact run_make_row' 26 5 (.int .u8 0) 1 Tryz.underlying26 Tryz.infoU8 rfl .i64 .i64 (blocks * bytes) (by omega) (by omega) W
  clear m4
  go_enter Tryz.func50, Tryz.ntmps50
  go_wp2_with (go_at_call 102; refine (dev_right blocks bytes h1 h2 h3 h4).mono ?_; rintro e w' ⟨rfl, rfl⟩)
  go_ret2
  refine ⟨w.heap.size + 1, w.heap.size, rfl, ⟨?_, (Blk.new w _ _).alloc _, h1, h2, h3, h4, fun i _ => by simp⟩, by go_grown, by omega, Nat.le_refl _⟩
  have := Blk.new (w.alloc (.cells (dgrid bytes blocks fun x => List.replicate bytes 0) 5)) 147 #[.int .i64 bytes, .slice (some ⟨w.heap.size, 0, none⟩) (blocks * bytes) (blocks * bytes), .int .u64 (u64 0), .int .u64 (u64 0)]
  have e0 : u64 0 = 0 := rfl
  simpa [e0] using this

end Go.Proofs.Sg
