/- A reader of bytes: Raw, Num, Zeros. -/
import Derived.LoopTactic
import Derived.Test.YthkbpcnbnhiefaaGreatDoorKCache
import Derived.Test.YthkbpcnbnhiefaaGreatDoorKBytes
namespace Go.Proofs.Sg
set_option linter.unusedSimpArgs false
set_option linter.unusedVariables false
open Go.RowKit Go.Lib

/-- A reader, and what is left. -/
def IsRd (w : World) (gr : Nat) (xs : List UInt8) : Prop :=
  ∃ b off cap, Blk w gr 215 #[.slice (some ⟨b, off, none⟩) xs.length cap, .int .i64 0] ∧ BytesAt w b off xs ∧ xs.length ≤ cap ∧ b ≠ gr ∧ b < w.heap.size

theorem IsRd.keep {w w' : World} {S : Nat → Prop} {gr : Nat} {xs : List UInt8} (h : IsRd w gr xs) (hk : Keeps S w w') (hS : ∀ k, k < w.heap.size → ¬ S k) : IsRd w' gr xs := by
  obtain ⟨b, off, cap, h1, h2, h3, h4, h5⟩ := h
  exact ⟨b, off, cap, h1.keep hk (hS _ h1.lt), h2.keep (hk.block b h5 (hS _ h5)), h3, h4, Nat.lt_of_lt_of_le h5 hk.size⟩

theorem made_all {n : Nat} {ys : List UInt8} (h : ys.length = n) : ((madeCells #[.int .u8 0] n).toList.take 0 ++ (ys.map bv ++ (madeCells #[.int .u8 0] n).toList.drop (0 + (ys.map bv).length))).toArray = (ys.map bv).toArray := by
  simp [madeCells, h]

theorem bytes_of_blk {w : World} {g : Nat} {t : TypeId} {ys : List UInt8} (h : Blk w g t (ys.map bv).toArray) : BytesAt w g 0 ys := by
  intro j hj
  rw [Nat.zero_add, h.cell j]
  simp [hj]

set_option maxHeartbeats 1000000 in
theorem rd_raw {w : World} {gr n : Nat} {ys zs : List UInt8} (h : IsRd w gr (ys ++ zs)) (hn : ys.length = n) (hm : n ≤ 65536) :
    Calls Tryz.prog 153 #[.pointer (some ⟨gr, 0, none⟩), .int .i64 n] w fun e w' => ∃ g c, e = .returned (.slice (some ⟨g, 0, none⟩) n c) ∧ BytesAt w' g 0 ys ∧ IsRd w' gr zs ∧ Keeps (fun k => k = gr) w w' := by
  obtain ⟨b, off, cap, h1, h2, h3, h4, h5⟩ := h
  have hl : (ys ++ zs).length = n + zs.length := by rw [List.length_append, hn]
  rw [hl] at h1 h3
  have c0 : w.cell? ⟨gr, 0, none⟩ = some (.slice (some ⟨b, off, none⟩) (n + zs.length) cap) := h1.cell 0
  have c1 : w.cell? ⟨gr, 1, none⟩ = some (.int .i64 0) := h1.cell 1
  have hmk := make_bytes n hm
  have H1 := Hd.mk h1
  have H2 := Hd.mk h2
  have H3 := Hd.mk hn
  clear h1 h2 hn hl
  generalize hA : madeCells #[Value.int .u8 0] n = A at hmk
  have hA' := Hd.mk hA
  clear hA
  have c0' : (w.alloc (.cells A 5)).cell? ⟨gr, 0, none⟩ = some (.slice (some ⟨b, off, none⟩) (n + zs.length) cap) := Lib.cell?_alloc_some _ c0
  go_enter Tryz.func153, Tryz.ntmps153
  go_wp2_with (with_reducible refine wpList_copy_to rfl _ _ _ _ rfl 5 Tryz.underlying26 size_u8 w.heap.size 0 n n ⟨b, off, none⟩ (n + zs.length) cap rfl rfl _ 5 (Blk.new w _ A) (ys.map bv) ?c1 ?c2 ?c3 bv_one (ys.map bv).toArray ?c5 ?_)
  case c1 => rw [List.length_map, H3.out]; show n = min (n + zs.length) n; omega
  case c2 =>
    intro j v hj
    rw [Addr.add_lit]
    have hjl : j < ys.length := by simpa using (List.getElem?_eq_some_iff.1 hj).1
    have e := H2.out j (by simp; omega)
    rw [List.getElem?_map, List.getElem?_eq_getElem hjl] at hj
    simp only [Option.map_some, Option.some.injEq] at hj
    subst hj
    refine (Lib.cell?_alloc_some _ e).trans ?_
    simp [List.getElem?_append_left hjl, hjl]
  case c3 => rw [← hA'.out]; simp [madeCells, H3.out]
  case c5 => rw [← hA'.out]; exact made_all H3.out
  intro w1 hg1 hk1
  have hw1 : w.heap.size < w1.heap.size := hg1.lt
  have hgr := H1.out.lt
  have b1 : Blk w1 gr 215 #[.slice (some ⟨b, off, none⟩) (n + zs.length) cap, .int .i64 0] := (H1.out.alloc _).keep hk1 (by omega)
  have c2 : w1.cell? ⟨gr, 0, none⟩ = some (.slice (some ⟨b, off, none⟩) (n + zs.length) cap) := b1.cell 0
  have f2 := b1.frozen 0
  have B1 := Hd.mk b1
  have G1 := Hd.mk hg1
  have K1 := Hd.mk hk1
  clear b1 hg1 hk1 c0 c0'
  go_wp2_with fail
  all_goals go_ret
  all_goals refine ⟨w.heap.size, ⟨_, rfl⟩, bytes_of_blk (G1.out.far (p := ⟨gr, 0, none⟩) (by show w.heap.size ≠ gr; omega) _), ?_, ?_⟩
  all_goals first
    | exact (((Keeps.refl (fun k => k = gr) w).alloc _).trans K1.out (U := fun k => k = gr) (fun _ _ e => e) (fun i hi e => by omega)).setCell (p := ⟨gr, 0, none⟩) (fun _ => rfl) _
    | skip
  all_goals have hk0 : w1.heap[b]? = w.heap[b]? := (K1.out.block b (by simp; omega) (by omega)).trans (Below.heap_alloc _ _ _ h5)
  · have hz : zs = [] := List.eq_nil_of_length_eq_zero (by omega)
    subst hz
    refine ⟨b, off, 0, ?_, fun j hj => by simp at hj, by simp, h4, by simp; omega⟩
    simpa using B1.out.set_ 0 (.slice (some ⟨b, off, none⟩) 0 0)
  · refine ⟨b, off + n, cap - n, ?_, fun j hj => ?_, by omega, h4, by simp; omega⟩
    · simpa using B1.out.set_ 0 (.slice (some ⟨b, off + n, none⟩) zs.length (cap - n))
    · have e := H2.out (n + j) (by rw [List.length_append, H3.out]; omega)
      have e1 : (w1.setCell ⟨gr, 0, none⟩ (.slice (some ⟨b, off + n, none⟩) zs.length (cap - n))).cell? ⟨b, off + n + j, none⟩ = w.cell? ⟨b, off + n + j, none⟩ :=
        World.cell?_of_block ((Below.heap_setCell _ _ _ _ h4).trans hk0)
      rw [e1, Nat.add_assoc, e]
      congr 2
      simp only [List.getD_eq_getElem?_getD]
      rw [List.getElem?_append_right (by rw [H3.out]; omega), H3.out, Nat.add_sub_cancel_left]

theorem num_step {x W j : Nat} (hx : x < 256 ^ W) (hW8 : W ≤ 8) (hj : j < W) :
    bits BinOp.or IntKind.u64 (IntKind.u64.wrap ((x : Int) / 256 ^ (W - j) * 256)) ((x : Int) / 256 ^ (W - 1 - j) % 256) = ((x / 256 ^ (W - (j + 1)) : Nat) : Int) := by
  have h8 : x < 18446744073709551616 := Nat.lt_of_lt_of_le hx (Nat.le_trans (Nat.pow_le_pow_right (by omega) hW8) (by decide))
  have e1 : (x : Int) / 256 ^ (W - j) = ((x / 256 ^ (W - j) : Nat) : Int) := by rw [Int.natCast_ediv, Int.natCast_pow]; rfl
  have e2 : (x : Int) / 256 ^ (W - 1 - j) = ((x / 256 ^ (W - 1 - j) : Nat) : Int) := by rw [Int.natCast_ediv, Int.natCast_pow]; rfl
  have e3 : x / 256 ^ (W - j) = x / 256 ^ (W - 1 - j) / 256 := by
    rw [Nat.div_div_eq_div_mul, ← Nat.pow_succ, show (W - 1 - j).succ = W - j by omega]
  rw [e1, e2, e3, show W - (j + 1) = W - 1 - j by omega]
  have hy : x / 256 ^ (W - 1 - j) ≤ x := Nat.div_le_self _ _
  generalize x / 256 ^ (W - 1 - j) = y at hy
  have e4 : IntKind.u64.wrap (((y / 256 : Nat) : Int) * 256) = ((256 * (y / 256) : Nat) : Int) := by rw [IntKind.wrap_u64]; omega
  have e5 : ((y : Int) % 256) = ((y % 256 : Nat) : Int) := by omega
  rw [e4, e5, u64_or_nat _ _ (by omega) (by omega)]
  congr 1
  have := Nat.two_pow_add_eq_or_of_lt (i := 8) (b := y % 256) (by omega) (y / 256)
  rw [show (2 : Nat) ^ 8 = 256 from rfl] at this
  omega

set_option maxHeartbeats 1000000 in
theorem rd_num {w : World} {gr : Nat} {zs : List UInt8} (W x : Nat) (hW : W = 1 ∨ W = 2 ∨ W = 4 ∨ W = 8) (hx : x < 256 ^ W) (h : IsRd w gr (be W x ++ zs)) :
    Calls Tryz.prog 89 #[.pointer (some ⟨gr, 0, none⟩), .int .i64 W] w fun e w' => e = .returned (.int .u64 x) ∧ IsRd w' gr zs ∧ Keeps (fun k => k = gr) w w' := by
  have hW8 : W ≤ 8 := by omega
  have H1 := Hd.mk hW
  have H2 := Hd.mk hx
  have H3 := Hd.mk h
  clear hW hx h
  go_enter Tryz.func89, Tryz.ntmps89
  go_wp2_with fail
  refine (word_right W H1.out).mono ?_
  rintro e w' ⟨rfl, rfl⟩
  go_wp2_with fail
  refine (rd_raw H3.out (be_length W x) (by omega)).mono ?_
  rintro e w1 ⟨g, c, rfl, hby, hrd, hk⟩
  have A1 := Hd.mk hby
  have A2 := Hd.mk hrd
  have A3 := Hd.mk hk
  clear hby hrd hk
  go_wp2_with fail
  go_loopw [5, 15] (fun vv vi wr => ∃ j : Nat, vi = .int .i64 j ∧ j ≤ W ∧ vv = .int .u64 ((x / 256 ^ (W - j) : Nat) : Int) ∧ w1 = wr) (fun _ vi _ => W - (RowKit.intOf vi).toNat)
  case atStart => exact ⟨0, by go_num, by omega, by simp only [Nat.sub_zero]; rw [Nat.div_eq_of_lt H2.out]; go_num, rfl⟩
  case round =>
    obtain ⟨j, rfl, hj, rfl, rfl⟩ := hrel
    by_cases hlt : j < W
    · have hc := A1.out j (by simp; omega)
      rw [Nat.zero_add] at hc
      have e1 : (be W x).getD j 0 = UInt8.ofNat (x / 256 ^ (W - 1 - j)) := by rw [List.getD_eq_getElem?_getD, be_get hlt]; rfl
      rw [e1, bv_ofNat] at hc
      go_wp2_with fail
      refine ⟨⟨j + 1, by go_num, by omega, ?_, trivial⟩, by simp [RowKit.intOf]; omega⟩
      rw [num_step H2.out hW8 hlt]
    · have hjw : j = W := by omega
      subst hjw
      go_wp2_with fail
      go_ret
      exact ⟨by simp, A2.out, A3.out⟩

theorem zeros_fn {w : World} : Calls Tryz.prog 155 #[.int .u8 0] w fun e w' => e = .returned (.bool false) ∧ w = w' := by
  go_enter Tryz.func155, Tryz.ntmps155
  go_wp2
  go_ret
  exact ⟨rfl, rfl⟩

theorem text_fn {w : World} : Calls Tryz.prog 207 #[.int .u8 0] w fun e w' => e = .returned (.bool false) ∧ w = w' := by
  go_enter Tryz.func207, Tryz.ntmps207
  go_wp2
  go_ret
  exact ⟨rfl, rfl⟩

set_option maxRecDepth 100000 in
theorem index_zeros {w : World} {b off n c : Nat} (k : Nat) (hk : k = 155 ∨ k = 207) (h : BytesAt w b off (List.replicate n 0)) (hn : n ≤ 65536) :
    Calls Tryz.prog 206 #[.slice (some ⟨b, off, none⟩) n c, .func (.func k) #[] #[]] w fun e w' => e = .returned (.int .i64 (-1)) ∧ w = w' := by
  have H := Hd.mk h
  clear h
  rcases hk with rfl | rfl
  · go_enter Tryz.func206, Tryz.ntmps206
    go_wp2_with fail
    go_loopw [8] (fun vi wr => ∃ j : Nat, vi = .int .i64 j ∧ j ≤ n ∧ w = wr) (fun vi _ => n - (RowKit.intOf vi).toNat)
    case atStart => exact ⟨0, by go_num, by omega, rfl⟩
    case round =>
      obtain ⟨j, rfl, hj, rfl⟩ := hrel
      by_cases hlt : j < n
      · have hc : w.cell? ⟨b, off + j, none⟩ = some (.int .u8 0) := by
          have := H.out j (by simpa using hlt)
          rw [this]; simp [List.getD_eq_getElem?_getD, hlt, bv]
        go_wp2_with fail
        refine zeros_fn.mono ?_
        rintro e w' ⟨rfl, rfl⟩
        go_wp2_with fail
        exact ⟨⟨j + 1, by go_num, by omega, trivial⟩, by simp [RowKit.intOf]; omega⟩
      · go_wp2_with fail
        go_ret
        exact ⟨rfl, rfl⟩
  · go_enter Tryz.func206, Tryz.ntmps206
    go_wp2_with fail
    go_loopw [8] (fun vi wr => ∃ j : Nat, vi = .int .i64 j ∧ j ≤ n ∧ w = wr) (fun vi _ => n - (RowKit.intOf vi).toNat)
    case atStart => exact ⟨0, by go_num, by omega, rfl⟩
    case round =>
      obtain ⟨j, rfl, hj, rfl⟩ := hrel
      by_cases hlt : j < n
      · have hc : w.cell? ⟨b, off + j, none⟩ = some (.int .u8 0) := by
          have := H.out j (by simpa using hlt)
          rw [this]; simp [List.getD_eq_getElem?_getD, hlt, bv]
        go_wp2_with fail
        refine text_fn.mono ?_
        rintro e w' ⟨rfl, rfl⟩
        go_wp2_with fail
        exact ⟨⟨j + 1, by go_num, by omega, trivial⟩, by simp [RowKit.intOf]; omega⟩
      · go_wp2_with fail
        go_ret
        exact ⟨rfl, rfl⟩

theorem contains_zeros {w : World} {b off n c : Nat} (k : Nat) (hk : k = 155 ∨ k = 207) (h : BytesAt w b off (List.replicate n 0)) (hn : n ≤ 65536) :
    Calls Tryz.prog 154 #[.slice (some ⟨b, off, none⟩) n c, .func (.func k) #[] #[]] w fun e w' => e = .returned (.bool false) ∧ w = w' := by
  have hi := index_zeros (c := c) k hk h hn
  go_enter Tryz.func154, Tryz.ntmps154
  go_wp2_with fail
  refine hi.mono ?_
  rintro e w' ⟨rfl, rfl⟩
  go_wp2
  go_ret
  exact ⟨rfl, rfl⟩

theorem rd_zeros {w : World} {gr n : Nat} {zs : List UInt8} (h : IsRd w gr (List.replicate n 0 ++ zs)) (hm : n ≤ 65536) :
    Calls Tryz.prog 90 #[.pointer (some ⟨gr, 0, none⟩), .int .i64 n] w fun e w' => e = .returned (.tuple #[]) ∧ IsRd w' gr zs ∧ Keeps (fun k => k = gr) w w' := by
  have hr := rd_raw h (List.length_replicate ..) hm
  go_enter Tryz.func90, Tryz.ntmps90
  go_wp2_with fail
  refine hr.mono ?_
  rintro e w1 ⟨g, c, rfl, hby, hrd, hk⟩
  have A1 := Hd.mk hby
  have A2 := Hd.mk hrd
  have A3 := Hd.mk hk
  clear hby hrd hk hr
  go_wp2_with fail
  refine (contains_zeros (c := c) 155 (.inl rfl) A1.out hm).mono ?_
  rintro e w' ⟨rfl, rfl⟩
  go_wp2_with fail
  exact bodyPost_end (results_none rfl _ _ _) rfl ⟨rfl, A2.out, A3.out⟩

theorem rd_err {w : World} {gr : Nat} {xs : List UInt8} (h : IsRd w gr xs) :
    Calls Tryz.prog 93 #[.pointer (some ⟨gr, 0, none⟩)] w fun e w' => e = .returned (.int .i64 0) ∧ w = w' := by
  obtain ⟨b, off, cap, h1, _⟩ := h
  have c1 : w.cell? ⟨gr, 1, none⟩ = some (.int .i64 0) := h1.cell 1
  go_enter Tryz.func93, Tryz.ntmps93
  go_wp2
  go_ret
  exact ⟨rfl, rfl⟩

theorem rd_open {w : World} {b off c : Nat} {xs : List UInt8} (h : BytesAt w b off xs) (hm : xs.length ≤ 65536) :
    Calls Tryz.prog 88 #[.slice (some ⟨b, off, none⟩) xs.length c] w fun e w' => ∃ gr, e = .returned (.pointer (some ⟨gr, 0, none⟩)) ∧ IsRd w' gr xs ∧ w.heap.size ≤ gr ∧ Keeps (fun _ => False) w w' := by
  have hcl := clone_bytes h c (by omega)
  generalize hn : xs.length = n at *
  have hn' := Hd.mk hn
  clear hn
  go_enter Tryz.func88, Tryz.ntmps88
  go_wp2_with fail
  refine hcl.mono ?_
  rintro e w1 ⟨g, c', rfl, hg1, hg2, hc, hgb, hby, hb⟩
  have A1 := Hd.mk hby
  have A2 := Hd.mk hb
  clear hby hb hcl hgb
  go_wp2_with fail
  go_ret
  refine ⟨w1.heap.size, rfl, ⟨g, 0, c', ?_, ?_, by rw [hn'.out]; exact hc, by omega, by simp; omega⟩, A2.out.size, (Keeps.of_below A2.out).alloc _⟩
  · rw [hn'.out]; exact Blk.new w1 _ _
  · exact A1.out.keep (Below.heap_alloc _ _ _ hg2)

end Go.Proofs.Sg
