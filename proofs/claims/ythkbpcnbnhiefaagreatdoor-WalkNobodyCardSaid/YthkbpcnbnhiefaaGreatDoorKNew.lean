/- New0 · New1 · Shelf0 · Shelf1, in one. -/
import Derived.Test.YthkbpcnbnhiefaaGreatDoorProg
import Derived.WalkKit
import Derived.Handy
import Derived.Test.YthkbpcnbnhiefaaGreatDoorKBase
import Derived.Test.YthkbpcnbnhiefaaGreatDoorKCache
import Derived.Test.YthkbpcnbnhiefaaGreatDoorKPool
/-! What New gives: a chain, a row, a pool. -/
namespace Go.Proofs.Sg
open Go.RowKit

theorem made_grid {z : Value} {sz n : Nat} (f : Nat → Value) (hs : z.cells.size = sz) (h0 : 0 < sz) (hf : ∀ r, r < sz → z.cells[r]! = f r) : madeCells z.cells (n * sz) = grid sz n (fun _ r => f r) := by
  unfold grid
  apply Array.ext_getElem?
  intro k
  by_cases hk : k < n * sz
  · have hm := Nat.mod_lt k h0
    simp [madeCells, hk, hs, hf _ hm]
  · simp [madeCells, hk]

/-- 'make([]T, n)' as a grid. -/
theorem run_make_grid {P : Program} (t e : TypeId) (z : Value) (sz bytes : Nat) (f : Nat → Value) (ht : P.underlying t = some (.slice e)) (hinfo : (P.info? e).map (fun i => (i.zero, i.size, i.bytes)) = some (some z, sz, bytes))
    (hs : z.cells.size = sz) (h0 : 0 < sz) (hf : ∀ r, r < sz → z.cells[r]! = f r)
    (kl kc : IntKind) (n : Nat) (hbytes : bytes * n ≤ 281474976710656) (h63 : n ≤ 9223372036854775807) (w : World) :
    (Instr.makeSlice t (.int kl (n : Int)) (.int kc (n : Int))).run P w = .ok (.slice (some ⟨w.heap.size, 0, none⟩) n n) (w.alloc (.cells (grid sz n fun _ r => f r) e)) := by
  obtain ⟨i, hi, hzz⟩ := Option.map_eq_some_iff.1 hinfo
  simp only [Prod.mk.injEq] at hzz
  obtain ⟨hz, hsz, hb⟩ := hzz
  have hb' : (i.bytes : Int) * (n : Int) ≤ 281474976710656 := by
    rw [hb]
    have h : ((bytes * n : Nat) : Int) ≤ 281474976710656 := by omega
    rwa [Int.natCast_mul] at h
  have hr := run_make (P := P) (w := w) t e i z ht hi hz kl kc n n (by omega) (Int.le_refl _) hb' (by omega)
  simp only [Int.toNat_natCast, hsz] at hr
  rw [made_grid f hs h0 hf] at hr
  exact hr

theorem Tryz.infoLink : (Tryz.prog.info? 240).map (fun i => (i.zero, i.size, i.bytes)) = some (some (.agg #[.int .i64 0, .int .i64 0, .bool false]), 3, 24) := by kernel_rfl
theorem Tryz.infoU64 : (Tryz.prog.info? 101).map (fun i => (i.zero, i.size, i.bytes)) = some (some (.int .u64 0), 1, 8) := by kernel_rfl

theorem ring_new (n : Nat) : Ring (fun j => if j = n then ⟨n, n, false⟩ else ⟨0, 0, false⟩) n [] := by
  refine ⟨List.nodup_nil, fun i hi => by simp at hi, fun i hi => ?_, ?_⟩
  · have : i ≠ n := by omega
    simp [this]
  · simp [Adj]

set_option maxRecDepth 100000 in
theorem chain_new {w : World} (n : Nat) (h1 : 1 ≤ n) (h2 : n ≤ 4096) :
    Calls Tryz.prog 162 #[.int .i64 n] w fun e w' => ∃ gc gl, e = .returned (.tuple #[.pointer (some ⟨gc, 0, none⟩), .int .i64 0]) ∧ IsChain w' gc gl n [] ∧ Below w.heap.size w w' ∧ w.heap.size ≤ gc ∧ w.heap.size ≤ gl ∧ gc ≠ gl := by
  have hmk : ∀ W : World, (Instr.makeSlice 241 (.int .i64 ((n : Int) + 1)) (.int .i64 ((n : Int) + 1))).run Tryz.prog W = .ok (.slice (some ⟨W.heap.size, 0, none⟩) (n + 1) (n + 1)) (W.alloc (.cells (grid 3 (n + 1) (lkF fun _ => ⟨0, 0, false⟩)) 240)) := by
    intro W
    have := run_make_grid 241 240 _ 3 24 (fun r => lkF (fun _ => ⟨0, 0, false⟩) 0 r) Tryz.underlying241 Tryz.infoLink rfl (by omega) (by intro r hr; rcases r with _ | _ | _ | r <;> first | rfl | omega) .i64 .i64 (n + 1) (by omega) (by omega) W
    exact this
  have g0 : (grid 3 (n + 1) (lkF fun _ => ⟨0, 0, false⟩))[n * 3]? = some (.int .i64 0) := grid_at (r := 0) (lkF fun _ => ⟨0, 0, false⟩) (by omega) (by omega)
  have g1 : (grid 3 (n + 1) (lkF fun _ => ⟨0, 0, false⟩))[n * 3 + 1]? = some (.int .i64 0) := grid_at (r := 1) (lkF fun _ => ⟨0, 0, false⟩) (by omega) (by omega)
  have g2 : (grid 3 (n + 1) (lkF fun _ => ⟨0, 0, false⟩))[n * 3 + 2]? = some (.bool false) := grid_at (r := 2) (lkF fun _ => ⟨0, 0, false⟩) (by omega) (by omega)
  generalize hA : grid 3 (n + 1) (lkF fun _ => ⟨0, 0, false⟩) = A at hmk g0 g1 g2
  have hA' := Hd.mk hA
  clear hA
  go_enter Tryz.func162, Tryz.ntmps162
  go_wp2_with fail
  go_ret2
  have e := lk_all (L := fun _ => ⟨0, 0, false⟩) (m := n + 1) (j := n) (by omega) ⟨n, n, false⟩
  rw [hA'.out] at e
  have e2 : (upd (fun _ => (⟨0, 0, false⟩ : Lk)) n ⟨n, n, false⟩) = fun j => if j = n then ⟨n, n, false⟩ else ⟨0, 0, false⟩ := by
    funext j; simp [upd]
  rw [e2] at e
  simp only at e
  refine ⟨w.heap.size + 1, w.heap.size, rfl, ⟨_, ?_, ?_, ring_new n, h1, h2, fun j => ?_⟩, by go_grown, by omega, Nat.le_refl _, by omega⟩
  · have hb := Blk.new (w.alloc (.cells (((A.setIfInBounds (n * 3) (.int .i64 n)).setIfInBounds (n * 3 + 1) (.int .i64 n)).setIfInBounds (n * 3 + 2) (.bool false)) 240)) 243 #[.slice (some ⟨w.heap.size, 0, none⟩) (n + 1) (n + 1), .int .i64 0]
    simpa using hb
  · have hb := (Blk.new w 240 (((A.setIfInBounds (n * 3) (.int .i64 n)).setIfInBounds (n * 3 + 1) (.int .i64 n)).setIfInBounds (n * 3 + 2) (.bool false))).alloc (.cells #[.slice (some ⟨w.heap.size, 0, none⟩) (n + 1) (n + 1), .int .i64 0] 243)
    rw [← e]; exact hb
  · by_cases hj : j = n
    · simp [hj]
    · simp [hj]

theorem digits_new (n : Nat) : Digits n (fun _ => false) (fun _ => 0) := ⟨by simp, by simp⟩
theorem heldCount_none (n : Nat) : heldCount n (fun _ => false) = 0 := by simp [heldCount]

set_option maxRecDepth 100000 in
theorem row_new {w : World} (n : Nat) (h1 : 5 ≤ n) (h2 : n ≤ 65536) :
    Calls Tryz.prog 163 #[.int .i64 n] w fun e w' => ∃ gr gw, e = .returned (.tuple #[.pointer (some ⟨gr, 0, none⟩), .int .i64 0]) ∧ IsRow w' gr gw n (fun _ => false) ∧ Below w.heap.size w w' ∧ w.heap.size ≤ gr ∧ w.heap.size ≤ gw := by
  have hd : ((n : Int) + 64 - 1) / 64 = (((n + 63) / 64 : Nat) : Int) := by omega
  have hd2 : ((n : Int) + 63) / 64 = (((n + 63) / 64 : Nat) : Int) := by omega
  have hm : (n + 63) / 64 ≤ 1024 := by omega
  generalize hM : (n + 63) / 64 = M at hd hd2 hm
  have hmk : ∀ W : World, (Instr.makeSlice 236 (.int .i64 (M : Nat)) (.int .i64 (M : Nat))).run Tryz.prog W = .ok (.slice (some ⟨W.heap.size, 0, none⟩) M M) (W.alloc (.cells (wgrid M fun _ => 0) 101)) := by
    intro W
    exact run_make_grid 236 101 _ 1 8 (fun r => .int .u64 0) Tryz.underlying236 Tryz.infoU64 rfl (by omega) (by intro r hr; rcases r with _ | r <;> first | rfl | omega) .i64 .i64 M (by omega) (by omega) W
  have hM' := Hd.mk hM
  clear hM
  go_enter Tryz.func163, Tryz.ntmps163
  go_wp2_with fail
  go_ret2
  refine ⟨w.heap.size + 1, w.heap.size, rfl, ⟨fun _ => 0, ?_, ?_, digits_new n, h1, h2⟩, by go_grown, by omega, Nat.le_refl _⟩
  · rw [hM'.out, heldCount_none]
    have hb := Blk.new (w.alloc (.cells (wgrid M fun _ => 0) 101)) 238 #[.int .i64 n, .int .i64 0, .slice (some ⟨w.heap.size, 0, none⟩) M M]
    simpa using hb
  · rw [hM'.out]
    exact (Blk.new w 101 (wgrid M fun _ => 0)).alloc _

theorem updH_zero : updH (fun _ => false) 0 true = fun j => decide (j = 0) := by
  funext j; simp only [updH]; split <;> simp_all

set_option maxRecDepth 100000 in
theorem pool_new {w : World} (n : Nat) (h1 : 5 ≤ n) (h2 : n ≤ 65536) (hT : Tab w) :
    Calls Tryz.prog 104 #[.int .i64 n] w fun e w' => ∃ gp gr gw, e = .returned (.tuple #[.pointer (some ⟨gp, 0, none⟩), .int .i64 0]) ∧ IsPool w' gp gr gw n (fun j => decide (j = 0)) ∧ Below w.heap.size w w' ∧ w.heap.size ≤ gp ∧ w.heap.size ≤ gr ∧ w.heap.size ≤ gw := by
  go_enter Tryz.func104, Tryz.ntmps104
  go_wp2_with fail
  refine (row_new n h1 h2).mono ?_
  rintro e w1 ⟨gr, gw, rfl, hr1, hb1, hg1, hg2⟩
  go_wp2_with fail
  refine (row_set_new hr1 0 (by omega) rfl).mono ?_
  rintro e w2 ⟨rfl, hr2, hk2⟩
  go_wp2_with fail
  go_ret2
  rw [updH_zero] at hr2
  have hk02 : Keeps (fun k => k = gr ∨ k = gw) w w2 := (Keeps.of_below (S := fun _ => False) hb1).trans hk2 (fun _ _ e => e.elim) (fun _ _ e => e)
  have hk03 := hk02.alloc (.cells #[.pointer (some ⟨gr, 0, none⟩)] 180)
  have hs : w.heap.size ≤ w2.heap.size := hk02.size
  have hTl := hT.lt
  refine ⟨w2.heap.size, gr, gw, rfl, ⟨Blk.new w2 _ _, ?_, hT.keeps hk03 (by omega)⟩, hk03.below (Nat.le_refl _) (by omega), hs, hg1, hg2⟩
  exact hr2.keep ((Keeps.refl (fun _ => False) w2).alloc _) (fun e => e) (fun e => e)

end Go.Proofs.Sg
/-! What New gives: a cache. -/
namespace Go.Proofs.Sg
open Go.RowKit

theorem own_base {w : World} {base e size n : Nat} {v : Value} {xs : List Value} (h : w.ownsRow base e size v n xs) : w.ownsRow 0 e size v n xs := by
  refine ⟨h.1, ?_⟩
  rcases h.2 with h1 | ⟨g', cap', cur, h1, hb, h3⟩
  · exact .inl h1
  · exact .inr ⟨g', cap', cur, h1, Nat.zero_le _, h3⟩

theorem map32_new (w : World) : IsMap32 (w.alloc (.map #[] 0)) w.heap.size (fun _ => none) := by
  refine ⟨.map [], (World.ownsMap_made w _ _ _).mono (Nat.zero_le _), fun i _ => ⟨?_, fun f hf => by cases hf⟩, fun k hk => ?_⟩
  · rfl
  · simp [Maps.has] at hk

theorem Tryz.infoFrame : (Tryz.prog.info? 190).map (fun i => (i.zero, i.size, i.bytes)) = some (some (.agg #[.int .u32 0, .slice none 0 0, .bool false, .int .i64 0]), 4, 48) := by kernel_rfl

def newC (F : Nat) (D : Nat → List UInt8) (r s : Nat) : Cs := ⟨fun _ => Fr.zero, fun _ => none, List.range F, [], D, r, s⟩

theorem newC_inv (F blocks bytes : Nat) (h1 : 1 ≤ F) (h2 : F ≤ 64) (D : Nat → List UInt8) (r s : Nat) : CInv F blocks bytes none (newC F D r s) := by
  refine ⟨⟨h1, h2⟩, fun i f => ?_, fun f => ?_, List.nodup_range, fun f => ?_, fun f hf => ?_, fun f _ => rfl⟩
  · simp [newC, Fr.zero]
  · simp [newC, Fr.zero]
  · simp [newC, Fr.zero]
  · simp [newC, Fr.zero] at hf

theorem own_set {w : World} {base e size n : Nat} {v : Value} {xs : List Value} (h : w.ownsRow base e size v n xs) {p : Addr} (hp : p.block < base) (u : Value) : (w.setCell p u).ownsRow base e size v n xs := by
  refine ⟨h.1, ?_⟩
  rcases h.2 with h1 | ⟨g', cap', cur, h1, hb, hh, h3⟩
  · exact .inl h1
  · exact .inr ⟨g', cap', cur, h1, hb, (Below.heap_setCell _ _ _ _ (by omega)).trans hh, h3⟩

set_option maxRecDepth 100000 in
set_option maxHeartbeats 1600000 in
theorem cache_new {w : World} {gd gi blocks bytes F r s : Nat} {D : Nat → List UInt8} (hd : IsDev w gd gi blocks bytes D r s) (h1 : 1 ≤ F) (h2 : F ≤ 64) :
    Calls Tryz.prog 103 #[.pointer (some ⟨gd, 0, none⟩), .int .i64 F] w fun e w' => ∃ G : Ids, e = .returned (.tuple #[.pointer (some ⟨G.gc, 0, none⟩), .int .i64 0]) ∧ G.gd = gd ∧ G.gi = gi ∧ IsCache w' G F blocks bytes none (newC F D r s) ∧ Below w.heap.size w w' ∧ (∀ k, CFoot G k → k = gd ∨ k = gi ∨ w.heap.size ≤ k) := by
  have hmk : ∀ W : World, (Instr.makeSlice 183 (.int .i64 (F : Nat)) (.int .i64 (F : Nat))).run Tryz.prog W = .ok (.slice (some ⟨W.heap.size, 0, none⟩) F F) (W.alloc (.cells (grid 4 F (frF bytes (fun _ => Fr.zero) (fun _ => 0) (fun _ => 0))) 190)) := by
    intro W
    have := run_make_grid 183 190 _ 4 48 (fun r => frF bytes (fun _ => Fr.zero) (fun _ => 0) (fun _ => 0) 0 r) Tryz.underlying183 Tryz.infoFrame rfl (by omega) (by intro r hr; rcases r with _ | _ | _ | _ | r <;> first | rfl | omega) .i64 .i64 F (by omega) (by omega) W
    exact this
  have hmm := @run_makeMap Tryz.prog
  have hb0 := hd.2.2.1
  generalize hA : grid 4 F (frF bytes (fun _ => Fr.zero) (fun _ => 0) (fun _ => 0)) = A at hmk
  have hA' := Hd.mk hA
  clear hA
  go_enter Tryz.func103, Tryz.ntmps103
  go_wp2_with fail
  refine (dev_blocks hd).mono ?_
  rintro e w' ⟨rfl, q, rfl⟩
  go_wp2_with fail
  refine (chain_new F h1 (by omega)).mono ?_
  rintro e w1 ⟨gch, gl, rfl, hc1, hbl, hg1, hg2, hg3⟩
  have A1 := Hd.mk hc1
  have A2 := Hd.mk hbl
  have A3 := Hd.mk hg1
  have A4 := Hd.mk hg2
  have A5 := Hd.mk hg3
  clear hc1 hbl hg1 hg2 hg3
  go_wp2_with fail
  generalize hW8 : ((w1.alloc (.cells A 190)).alloc (.map #[] 0)).alloc (.cells #[.pointer (some ⟨gd, 0, none⟩), .slice (some ⟨w1.heap.size, 0, none⟩) F F, .map (some (w1.heap.size + 1)), .slice none 0 0, .pointer (some ⟨gch, 0, none⟩)] 188) = w8
  have k8 : Keeps (fun _ => False) w1 w8 := by rw [← hW8]; exact (((Keeps.refl _ w1).alloc _).alloc _).alloc _
  have b8 : Blk w8 (w1.heap.size + 1 + 1) 188 #[.pointer (some ⟨gd, 0, none⟩), .slice (some ⟨w1.heap.size, 0, none⟩) F F, .map (some (w1.heap.size + 1)), .slice none 0 0, .pointer (some ⟨gch, 0, none⟩)] := by
    have := Blk.new ((w1.alloc (.cells A 190)).alloc (.map #[] 0)) 188 #[.pointer (some ⟨gd, 0, none⟩), .slice (some ⟨w1.heap.size, 0, none⟩) F F, .map (some (w1.heap.size + 1)), .slice none 0 0, .pointer (some ⟨gch, 0, none⟩)]
    rw [hW8] at this
    simpa using this
  have f8 : Blk w8 w1.heap.size 190 A := by rw [← hW8]; exact ((Blk.new w1 _ A).alloc _).alloc _
  have m8 : IsMap32 w8 (w1.heap.size + 1) (fun _ => none) := by
    have := map32_new (w1.alloc (.cells A 190))
    have h1 := (this.keep (w' := w8) (by rw [← hW8]; exact Below.heap_alloc _ _ _ (by simp)))
    simpa using h1
  have z8 : w8.heap.size = w1.heap.size + 3 := by rw [← hW8]; simp
  generalize hgc : w1.heap.size + 1 + 1 = gc at b8
  obtain ⟨i0, hi, hz0, hz1, hz2⟩ := info_parts' Tryz.infoInt
  have B1 := Hd.mk k8
  have B2 := Hd.mk f8
  have B3 := Hd.mk m8
  have B4 := Hd.mk z8
  have B5 := Hd.mk hgc
  clear hW8 k8 f8 m8 z8 hgc
  go_loopw [37] (fun v wr => ∃ k : Nat, v = .int .i64 k ∧ k ≤ F ∧ Keeps (fun x => x = gc) w8 wr ∧ ∃ u, wr.ownsRow w8.heap.size 3 1 u k (natv (List.range k)) ∧ Blk wr gc 188 #[.pointer (some ⟨gd, 0, none⟩), .slice (some ⟨w1.heap.size, 0, none⟩) F F, .map (some (w1.heap.size + 1)), u, .pointer (some ⟨gch, 0, none⟩)]) (fun v _ => F - (intOf v).toNat)
  case atStart => exact ⟨0, by go_num, by omega, Keeps.refl _ _, .slice none 0 0, own_none _ _ _ _, b8⟩
  case round =>
    obtain ⟨k, rfl, hk1, hkk, u, hown, hb⟩ := hrel
    by_cases hlt : k < F
    · have c3 : wr.cell? ⟨gc, 3, none⟩ = some u := hb.cell 3
      have z3 := hb.frozen 3
      have C1 := Hd.mk hkk
      have C2 := Hd.mk hown
      have C3 := Hd.mk b8
      clear hkk hown
      go_wp2_with (at_builtin; refine wpList_append_own _ rfl _ _ 185 rfl w8.heap.size 3 i0 (.int .i64 0) 1 8 Tryz.underlying185 hi hz0 hz1 hz2 rfl (by decide) _ _ _ rfl (C2.out.alloc _) ⟨wr.heap.size, 0, none⟩ 1 1 [.int .i64 k] rfl ?qc1 ?qc2 ?qc3 ?qc4 ?qc5 ?qc6 ?_)
      case qc1 => rfl
      case qc2 => exact cell_one_new _ _ _
      case qc3 => simp [Value.oneCell']
      case qc4 => unfold maxLen; omega
      case qc5 => omega
      case qc6 => have := C1.out.size; simp; omega
      intro v' w2 hown2 hgrow hnil
      obtain ⟨g2, cc2, rfl, _⟩ := own_at_ne hown2 (by simp)
      have hgcl := C3.out.lt
      have hlo : ∀ x, u.ownBlock = some x → w8.heap.size ≤ x := fun x hx => (C2.out.lt x hx).1
      have hb2 : Blk w2 gc 188 #[.pointer (some ⟨gd, 0, none⟩), .slice (some ⟨w1.heap.size, 0, none⟩) F F, .map (some (w1.heap.size + 1)), u, .pointer (some ⟨gch, 0, none⟩)] := (hb.alloc _).grown hgrow (by intro e; have := hlo gc e.symm; omega)
      have hk2 : Keeps (fun x => x = gc) w8 w2 := (C1.out.alloc _).grown hgrow (fun x e hx => by have := hlo x e; omega)
      have c3' : w2.cell? ⟨gc, 3, none⟩ = some u := hb2.cell 3
      have z3' := hb2.frozen 3
      have D1 := Hd.mk hk2
      have D2 := Hd.mk hown2
      have D3 := Hd.mk hlo
      have hg2 := hb2.lt
      clear hk2 hown2 hgrow hnil hlo c3 z3
      go_wp2_with fail
      have hb3 := hb2.set_ 3 (.slice (some ⟨g2, 0, none⟩) (k + 1) cc2)
      refine ⟨⟨k + 1, by go_num, hlt, D1.out.setCell (fun _ => rfl) _, _, ?_, by simpa using hb3⟩, by simp [intOf]; omega⟩
      have e : natv (List.range (k + 1)) = natv (List.range k) ++ [.int .i64 k] := by simp [natv, List.range_succ]
      rw [e]
      refine own_set D2.out ?_ _
      have := C3.out.lt
      exact this
    · have hkF : k = F := by omega
      subst hkF
      have C1 := Hd.mk hkk
      have C2 := Hd.mk hown
      have C3 := Hd.mk b8
      have C4 := Hd.mk hb
      clear hkk hown b8 hb
      go_wp2_with fail
      go_ret2
      have hne : natv (List.range k) ≠ [] := by
        intro e
        have := congrArg List.length e
        simp [natv] at this
        omega
      obtain ⟨g2, cc2, rfl, hl2, hl3, hcap, ⟨cs2, hcs2⟩, _⟩ := own_at_ne C2.out hne
      have hgcl := C3.out.lt
      have z8 := B4.out
      have hgc := B5.out
      have k0 : Keeps (fun _ => False) w w1 := ((Keeps.refl (fun _ => False) w).drewN q).trans (T := fun _ => False) (Keeps.of_below A2.out) (fun _ _ e => e) (fun _ _ e => e)
      have k08 : Keeps (fun _ => False) w w8 := k0.trans B1.out (fun _ _ e => e) (fun _ _ e => e)
      have k1r : Keeps (fun x => x = gc) w1 wr := B1.out.trans C1.out (fun _ _ e => e.elim) (fun _ _ e => e)
      have k0r : Keeps (fun x => x = gc) w wr := k0.trans k1r (fun _ _ e => e.elim) (fun _ _ e => e)
      have hs01 := k0.size
      have hgd := hd.1.lt
      have hgi := hd.2.1.lt
      have hch := A1.out
      have hch0 := hch
      obtain ⟨L, hca, hcb, _⟩ := hch0
      have l1 := hca.lt
      have l2 := hcb.lt
      have a3 : w.heap.size ≤ gch := A3.out
      have a4 : w.heap.size ≤ gl := A4.out
      refine ⟨⟨gd, gi, gc, w1.heap.size, w1.heap.size + 1, g2, gl, gch, cc2⟩, rfl, rfl, rfl, ⟨hd.keep k0r (by omega) (by omega), ?_, ⟨fun _ => 0, fun _ => 0, ?_, ?_, ?_, ?_⟩, ?_, ?_, ?_, hch.keep k1r (by omega) (by omega), newC_inv _ _ _ h1 h2 _ _ _⟩, k0r.below (Nat.le_refl _) (by omega), ?_⟩
      · have := C4.out
        simpa [cells, newC] using this
      · have := B2.out.keep C1.out (by omega)
        rw [← hA'.out] at this
        exact this
      · intro f _ hu; simp [newC, Fr.zero] at hu
      · intro f _ hu; simp [newC, Fr.zero] at hu
      · intro f _ hu; simp [newC, Fr.zero] at hu
      · exact B3.out.keep (C1.out.block _ (by omega) (by omega))
      · have := own_base C2.out
        simpa [newC] using this
      · exact hcap
      · rintro x (rfl | rfl | rfl | rfl | rfl | rfl | rfl | rfl) <;> first | omega | (simp; done) | (simp; omega)

end Go.Proofs.Sg
/-! What a cache's states mean: each block's bytes, and who is pinned; no walk. -/
namespace Go.Proofs.Sg
open Go.RowKit

/-- A block's bytes. -/
def Cont (c : Cs) (i : Nat) : List UInt8 := match c.at_ i with | some f => (c.fr f).bs | none => c.D i

theorem Cont_some {c : Cs} {i f : Nat} (h : c.at_ i = some f) : Cont c i = (c.fr f).bs := by unfold Cont; rw [h]
theorem Cont_none {c : Cs} {i : Nat} (h : c.at_ i = none) : Cont c i = c.D i := by unfold Cont; rw [h]

/-- What is clean is as on the device; pins are P's. -/
structure Fine (P : Nat → Nat) (c : Cs) : Prop where
  clean : ∀ i f, c.at_ i = some f → (c.fr f).dirty = false → (c.fr f).bs = c.D i
  pins : ∀ i f, c.at_ i = some f → (c.fr f).pins = P i
  held : ∀ i, P i ≠ 0 → c.at_ i ≠ none

section
variable {F blocks bytes : Nat} {hole : Option Nat} {c c' : Cs} {P : Nat → Nat}

theorem at_inj (h : CInv F blocks bytes hole c) {i j f : Nat} (h1 : c.at_ i = some f) (h2 : c.at_ j = some f) : i = j := by
  rw [← ((h.at_ i f).1 h1).2.2, ← ((h.at_ j f).1 h2).2.2]

theorem fine_put {f i : Nat} {x : Fr} (h1 : c'.fr = upd c.fr f x) (h2 : ∀ j, c'.at_ j = if j = i then some f else c.at_ j) (h3 : c'.D = c.D)
    (hf : ∀ j, c.at_ j = some f → j = i) (hc : x.dirty = false → x.bs = c.D i) (h : Fine P c) : Fine (upd P i x.pins) c' ∧ ∀ j, Cont c' j = updD (Cont c) i x.bs j := by
  have key : ∀ j g, c'.at_ j = some g → (j = i ∧ c'.fr g = x) ∨ (j ≠ i ∧ c.at_ j = some g ∧ c'.fr g = c.fr g) := by
    intro j g hj
    rw [h2] at hj
    by_cases e : j = i
    · rw [if_pos e] at hj
      injection hj with hj
      subst hj
      exact .inl ⟨e, by rw [h1]; simp [upd]⟩
    · rw [if_neg e] at hj
      have : g ≠ f := by rintro rfl; exact e (hf j hj)
      exact .inr ⟨e, hj, by rw [h1]; simp [upd, this]⟩
  refine ⟨⟨fun j g hj hd => ?_, fun j g hj => ?_, fun j hj => ?_⟩, fun j => ?_⟩
  · rcases key j g hj with ⟨rfl, e⟩ | ⟨_, e1, e2⟩
    · rw [e] at hd ⊢; rw [h3]; exact hc hd
    · rw [e2] at hd ⊢; rw [h3]; exact h.clean j g e1 hd
  · rcases key j g hj with ⟨rfl, e⟩ | ⟨e0, e1, e2⟩
    · rw [e]; simp [upd]
    · rw [e2]; simp only [upd, if_neg e0]; exact h.pins j g e1
  · rw [h2]
    by_cases e : j = i
    · rw [if_pos e]; simp
    · rw [if_neg e]; simp only [upd, if_neg e] at hj; exact h.held j hj
  · unfold updD
    by_cases e : j = i
    · subst e
      rw [if_pos rfl, Cont_some (f := f) (by rw [h2, if_pos rfl]), h1]
      simp [upd]
    · rw [if_neg e]
      cases hg : c.at_ j with
      | none => rw [Cont_none hg, Cont_none (by rw [h2, if_neg e, hg]), h3]
      | some g =>
        have : g ≠ f := by rintro rfl; exact e (hf j hg)
        rw [Cont_some hg, Cont_some (f := g) (by rw [h2, if_neg e, hg]), h1]
        simp [upd, this]

theorem fine_room {f : Nat} (h : CInv F blocks bytes none c) (hf : Fine P c) (hr : RoomOf c f c') :
    Fine P c' ∧ (∀ i, Cont c' i = Cont c i) ∧ c'.r = c.r ∧ c.s ≤ c'.s ∧ c'.s ≤ c.s + 1 ∧ (∀ i, c.at_ i = none → c'.at_ i = none) ∧ (∀ j, c'.at_ j ≠ some f) := by
  rcases hr with ⟨e, he, rfl⟩ | ⟨he, o, ho, rfl⟩
  · refine ⟨⟨hf.clean, hf.pins, hf.held⟩, fun i => rfl, rfl, Nat.le_refl _, Nat.le_succ _, fun i h => h, fun j hj => ?_⟩
    have h1 := (h.emp f).1 (by rw [he]; simp)
    have h2 := (h.at_ j f).1 hj
    rw [h1.2.1] at h2
    exact absurd h2.2.1 (by simp)
  · have hfo := (h.ord f).1 (by rw [ho]; simp)
    have hb := (h.at_ _ f).2 ⟨hfo.1, hfo.2.1, rfl⟩
    have hp := hf.pins _ f hb
    rw [hfo.2.2] at hp
    have hcl := hf.clean _ f hb
    generalize hbb : (c.fr f).block = b at hb hp hcl
    have pa := backC_parts c f
    have ea : ∀ j, ({ leaveC (backC c f) f with empty := [] } : Cs).at_ j = if j = b then none else c.at_ j := by
      intro j
      show setAt (backC c f).at_ ((backC c f).fr f).block none j = _
      rw [pa.2.2.2.2.2, pa.2.2.2.2.1, hbb]
      rfl
    have ef : ∀ g, g ≠ f → ({ leaveC (backC c f) f with empty := [] } : Cs).fr g = c.fr g := by
      intro g hg
      show upd (backC c f).fr f Fr.zero g = _
      rw [show upd (backC c f).fr f Fr.zero g = (backC c f).fr g by simp [upd, hg]]
      unfold backC
      split
      · show upd c.fr f _ g = _
        simp [upd, hg]
      · rfl
    have eD : ∀ j, j ≠ b → ({ leaveC (backC c f) f with empty := [] } : Cs).D j = c.D j := by
      intro j hj
      show (backC c f).D j = _
      unfold backC
      split
      · show updD c.D (c.fr f).block (c.fr f).bs j = _
        rw [hbb]; simp [updD, hj]
      · rfl
    have eb : ({ leaveC (backC c f) f with empty := [] } : Cs).D b = (c.fr f).bs := by
      show (backC c f).D b = _
      unfold backC
      split
      · show updD c.D (c.fr f).block (c.fr f).bs b = _
        rw [hbb]; simp [updD]
      · rename_i hd
        exact (hcl (by simpa using hd)).symm
    have er : ({ leaveC (backC c f) f with empty := [] } : Cs).r = c.r := by
      show (backC c f).r = _
      unfold backC; split <;> rfl
    have es : ({ leaveC (backC c f) f with empty := [] } : Cs).s = (backC c f).s := rfl
    have es2 : (backC c f).s = c.s ∨ (backC c f).s = c.s + 1 := by
      unfold backC; split
      · exact .inr rfl
      · exact .inl rfl
    have hj : ∀ j g, j ≠ b → c.at_ j = some g → g ≠ f := by
      rintro j g e1 e2 rfl
      exact e1 (at_inj h e2 hb)
    generalize ({ leaveC (backC c f) f with empty := [] } : Cs) = c2 at *
    refine ⟨⟨fun i g hi hd => ?_, fun i g hi => ?_, fun i hi => ?_⟩, fun i => ?_, er, by omega, by omega, fun i hi => ?_, fun j hjf => ?_⟩
    · rw [ea] at hi
      split at hi
      · cases hi
      · rename_i e
        have hg := hj i g e hi
        rw [ef g hg] at hd ⊢
        rw [eD i e]
        exact hf.clean i g hi hd
    · rw [ea] at hi
      split at hi
      · cases hi
      · rename_i e
        rw [ef g (hj i g e hi)]
        exact hf.pins i g hi
    · rw [ea]
      have : i ≠ b := by rintro rfl; omega
      rw [if_neg this]
      exact hf.held i hi
    · by_cases e : i = b
      · subst e
        rw [Cont_some hb, Cont_none (by rw [ea, if_pos rfl]), eb]
      · cases hg : c.at_ i with
        | none => rw [Cont_none hg, Cont_none (by rw [ea, if_neg e, hg]), eD i e]
        | some g => rw [Cont_some hg, Cont_some (f := g) (by rw [ea, if_neg e, hg]), ef g (hj i g e hg)]
    · rw [ea, hi]; simp
    · rw [ea] at hjf
      split at hjf
      · cases hjf
      · rename_i e
        exact hj j f e hjf rfl

/-- One block is pinned, or none (0). -/
def keptP (k : Nat) : Nat → Nat := fun j => if j = k ∧ k ≠ 0 then 1 else 0

theorem room_has {k : Nat} (h : CInv F blocks bytes none c) (hf : Fine (keptP k) c) (hF : 2 ≤ F) : c.empty ≠ [] ∨ c.order ≠ [] := by
  by_cases he : c.empty = []
  · right
    intro ho
    have hu : ∀ f, f < F → (c.fr f).used = true := by
      intro f hfF
      cases hh : (c.fr f).used with
      | true => rfl
      | false =>
        have := (h.emp f).2 ⟨hfF, hh, by simp⟩
        rw [he] at this; cases this
    have hp : ∀ f, f < F → c.at_ k = some f := by
      intro f hfF
      have hat := (h.at_ _ f).2 ⟨hfF, hu f hfF, rfl⟩
      have h1 := hf.pins _ f hat
      have h2 : (c.fr f).pins ≠ 0 := by
        intro e
        have := (h.ord f).2 ⟨hfF, hu f hfF, e⟩
        rw [ho] at this; cases this
      rw [h1] at h2
      unfold keptP at h2
      split at h2
      · rename_i e; rw [← e.1]; exact hat
      · exact absurd rfl h2
    have h0 := hp 0 (by omega)
    have h1 := hp 1 (by omega)
    rw [h0] at h1
    injection h1 with h1
    omega
  · exact .inl he

theorem newC_fine (F : Nat) (D : Nat → List UInt8) (r s : Nat) : Fine (keptP 0) (newC F D r s) ∧ ∀ i, Cont (newC F D r s) i = D i :=
  ⟨⟨(fun _ _ h => by simp [newC] at h), (fun _ _ h => by simp [newC] at h), (fun i h => by simp [keptP] at h)⟩, fun _ => rfl⟩

theorem fine_pinC {i f : Nat} (h : CInv F blocks bytes none c) (hf : Fine P c) (hi : c.at_ i = some f) : Fine (upd P i (P i + 1)) (pinC c f) ∧ ∀ j, Cont (pinC c f) j = Cont c j := by
  have h1 := fine_put (c' := pinC c f) (f := f) (i := i) (x := { c.fr f with pins := (c.fr f).pins + 1 }) rfl (fun j => by
    show c.at_ j = _
    split
    · rename_i e; rw [e, hi]
    · rfl) rfl (fun j hj => at_inj h hj hi) (fun hd => hf.clean i f hi hd) hf
  rw [show ({ c.fr f with pins := (c.fr f).pins + 1 } : Fr).pins = P i + 1 by rw [← hf.pins i f hi]] at h1
  refine ⟨h1.1, fun j => ?_⟩
  rw [h1.2]
  unfold updD
  split
  · rename_i e; subst e; rw [Cont_some hi]
  · rfl

theorem fine_unpinC {i f : Nat} (h : CInv F blocks bytes none c) (hf : Fine P c) (hi : c.at_ i = some f) : Fine (upd P i (P i - 1)) (unpinC c f) ∧ ∀ j, Cont (unpinC c f) j = Cont c j := by
  have h1 := fine_put (c' := unpinC c f) (f := f) (i := i) (x := { c.fr f with pins := (c.fr f).pins - 1 }) rfl (fun j => by
    show c.at_ j = _
    split
    · rename_i e; rw [e, hi]
    · rfl) rfl (fun j hj => at_inj h hj hi) (fun hd => hf.clean i f hi hd) hf
  rw [show ({ c.fr f with pins := (c.fr f).pins - 1 } : Fr).pins = P i - 1 by rw [← hf.pins i f hi]] at h1
  refine ⟨h1.1, fun j => ?_⟩
  rw [h1.2]
  unfold updD
  split
  · rename_i e; subst e; rw [Cont_some hi]
  · rfl

theorem fine_writeC {i f : Nat} {bs : List UInt8} (h : CInv F blocks bytes none c) (hf : Fine P c) (hi : c.at_ i = some f) : Fine P (writeC c f bs) ∧ ∀ j, Cont (writeC c f bs) j = updD (Cont c) i bs j := by
  have h1 := fine_put (c' := writeC c f bs) (f := f) (i := i) (x := { c.fr f with bs := bs, dirty := true }) rfl (fun j => by
    show c.at_ j = _
    split
    · rename_i e; rw [e, hi]
    · rfl) rfl (fun j hj => at_inj h hj hi) (fun hd => by cases hd) hf
  refine ⟨?_, h1.2⟩
  have h2 := h1.1
  rw [show ({ c.fr f with bs := bs, dirty := true } : Fr).pins = P i from hf.pins i f hi] at h2
  rwa [show upd P i (P i) = P by funext j; unfold upd; split <;> simp_all] at h2

theorem fine_readC {i f : Nat} (hf : Fine P c) (hi : c.at_ i = none) (hfr : ∀ j, c.at_ j ≠ some f) : Fine (upd P i 1) (readC c f i) ∧ ∀ j, Cont (readC c f i) j = Cont c j := by
  have h1 := fine_put (c' := readC c f i) (f := f) (i := i) (x := ⟨i, c.D i, false, 1, true⟩) rfl (fun j => rfl) rfl (fun j hj => absurd hj (hfr j)) (fun _ => rfl) (c := { c with r := c.r + 1 }) ⟨hf.clean, hf.pins, hf.held⟩
  refine ⟨h1.1, fun j => ?_⟩
  rw [h1.2]
  unfold updD
  split
  · rename_i e; subst e; rw [Cont_none hi]
  · rfl

theorem fine_freshC {i f : Nat} (bytes : Nat) (hf : Fine P c) (hfr : ∀ j, c.at_ j = some f → j = i) : Fine (upd P i 1) (freshC c f i bytes) ∧ ∀ j, Cont (freshC c f i bytes) j = updD (Cont c) i (List.replicate bytes 0) j :=
  fine_put (c' := freshC c f i bytes) (f := f) (i := i) (x := ⟨i, List.replicate bytes 0, true, 1, true⟩) rfl (fun j => rfl) rfl hfr (fun hd => by cases hd) hf

end
end Go.Proofs.Sg
/-! The cache's methods, by what each block's bytes are. -/
namespace Go.Proofs.Sg
open Go.RowKit

section
variable {w w' : World} {G : Ids} {F blocks bytes : Nat} {c : Cs} {P : Nat → Nat} {k : Nat}

theorem keptP_le (k i : Nat) : keptP k i ≤ 1 := by unfold keptP; split <;> omega
theorem upd_back {P : Nat → Nat} {i : Nat} (x : Nat) : upd (upd P i x) i (P i) = P := by
  funext j; unfold upd; split
  · rename_i e; rw [e]
  · rfl
theorem upd_at {P : Nat → Nat} (i x : Nat) : upd P i x i = x := by simp [upd]

theorem cache_pin_any (h : IsCache w G F blocks bytes none c) (hf : Fine (keptP k) c) (hF : 2 ≤ F) (i : Nat) (hi : i < blocks) :
    Calls Tryz.prog 66 #[.pointer (some ⟨G.gc, 0, none⟩), .int .u32 i] w fun e w' => e = .returned (.int .i64 0) ∧ ∃ c', IsCache w' G F blocks bytes none c' ∧ Fine (upd (keptP k) i (keptP k i + 1)) c' ∧
      (∀ j, Cont c' j = Cont c j) ∧ c.r ≤ c'.r ∧ c'.r ≤ c.r + 1 ∧ c.s ≤ c'.s ∧ c'.s ≤ c.s + 1 ∧ (c.at_ i ≠ none → c'.r = c.r ∧ c'.s = c.s) ∧ Keeps (CFoot G) w w' := by
  cases hat : c.at_ i with
  | some f =>
    have hp := hf.pins i f hat
    have hk := keptP_le k i
    refine (cache_pin_in h i f hi hat (by omega)).mono ?_
    rintro e w' ⟨rfl, hc, hk⟩
    obtain ⟨f1, f2⟩ := fine_pinC h.inv hf hat
    exact ⟨rfl, _, hc, f1, f2, Nat.le_refl _, Nat.le_succ _, Nat.le_refl _, Nat.le_succ _, fun _ => ⟨rfl, rfl⟩, hk⟩
  | none =>
    have hz : keptP k i = 0 := by
      rcases Nat.eq_zero_or_pos (keptP k i) with h0 | h0
      · exact h0
      · exact absurd hat (hf.held i (by omega))
    refine (cache_pin_new h i hi hat (room_has h.inv hf hF)).mono ?_
    rintro e w' ⟨rfl, f, c', hr, hc, hk⟩
    obtain ⟨r1, r2, r3, r4, r5, r6, r7⟩ := fine_room h.inv hf hr
    obtain ⟨f1, f2⟩ := fine_readC r1 (r6 i hat) r7
    rw [hz]
    exact ⟨rfl, _, hc, f1, fun j => (f2 j).trans (r2 j), by show c.r ≤ c'.r + 1; omega, by show c'.r + 1 ≤ c.r + 1; omega, r4, r5, fun hn => absurd rfl hn, hk⟩

theorem cache_unpin_any (h : IsCache w G F blocks bytes none c) (hf : Fine P c) (i : Nat) (hi : i < blocks) (h0 : 0 < P i) (h1 : P i ≤ 2) :
    Calls Tryz.prog 68 #[.pointer (some ⟨G.gc, 0, none⟩), .int .u32 i] w fun e w' => e = .returned (.int .i64 0) ∧ ∃ c', IsCache w' G F blocks bytes none c' ∧ Fine (upd P i (P i - 1)) c' ∧
      (∀ j, Cont c' j = Cont c j) ∧ c'.r = c.r ∧ c'.s = c.s ∧ Keeps (CFoot G) w w' := by
  cases hat : c.at_ i with
  | some f =>
    have hp := hf.pins i f hat
    refine (cache_unpin h i f hi hat (by omega) (by omega)).mono ?_
    rintro e w' ⟨rfl, hc, hk⟩
    obtain ⟨f1, f2⟩ := fine_unpinC h.inv hf hat
    exact ⟨rfl, _, hc, f1, f2, rfl, rfl, hk⟩
  | none => exact absurd hat (hf.held i (by omega))

theorem cont_len (h : IsCache w G F blocks bytes none c) {i : Nat} (hi : i < blocks) : (Cont c i).length = bytes := by
  cases hat : c.at_ i with
  | some f => rw [Cont_some hat]; exact (h.inv.blk f ((h.inv.at_ i f).1 hat).2.1).2
  | none => rw [Cont_none hat]; exact h.dev.2.2.2.2.2.2 i hi

theorem cache_read_any (h : IsCache w G F blocks bytes none c) (hf : Fine P c) (i : Nat) (hi : i < blocks) (h0 : 0 < P i) :
    Calls Tryz.prog 67 #[.pointer (some ⟨G.gc, 0, none⟩), .int .u32 i] w fun e w' => ∃ g cc, e = .returned (.tuple #[.slice (some ⟨g, 0, none⟩) bytes cc, .int .i64 0]) ∧
      w.heap.size ≤ g ∧ g < w'.heap.size ∧ (∃ cs, Blk w' g 5 cs) ∧ BytesAt w' g 0 (Cont c i) ∧ Below w.heap.size w w' := by
  have hb : blocks ≤ 65536 := h.dev.2.2.2.1
  cases hat : c.at_ i with
  | some f =>
    have hp := hf.pins i f hat
    have e : Cont c i = (c.fr f).bs := Cont_some hat
    rw [e]
    exact cache_read h i f (by omega) hat (by omega)
  | none => exact absurd hat (hf.held i (by omega))

theorem cache_write_any (h : IsCache w G F blocks bytes none c) (hf : Fine P c) (i : Nat) (hi : i < blocks) (h0 : 0 < P i) (g off cc : Nat) (bs : List UInt8) (hb : BytesAt w g off bs) (hl : bs.length = bytes) :
    Calls Tryz.prog 133 #[.pointer (some ⟨G.gc, 0, none⟩), .int .u32 i, .slice (some ⟨g, off, none⟩) bytes cc] w fun e w' => e = .returned (.int .i64 0) ∧ ∃ c', IsCache w' G F blocks bytes none c' ∧ Fine P c' ∧
      (∀ j, Cont c' j = updD (Cont c) i bs j) ∧ c'.r = c.r ∧ c'.s = c.s ∧ Keeps (CFoot G) w w' := by
  cases hat : c.at_ i with
  | some f =>
    have hp := hf.pins i f hat
    refine (cache_write h i f hi hat (by omega) g off cc bs hb hl).mono ?_
    rintro e w' ⟨rfl, hc, hk⟩
    obtain ⟨f1, f2⟩ := fine_writeC (bs := bs) h.inv hf hat
    exact ⟨rfl, _, hc, f1, f2, rfl, rfl, hk⟩
  | none => exact absurd hat (hf.held i (by omega))

theorem cache_fresh_any (h : IsCache w G F blocks bytes none c) (hf : Fine (keptP k) c) (hF : 2 ≤ F) (i : Nat) (hi : i < blocks) (h0 : keptP k i = 0) :
    Calls Tryz.prog 134 #[.pointer (some ⟨G.gc, 0, none⟩), .int .u32 i] w fun e w' => e = .returned (.int .i64 0) ∧ ∃ c', IsCache w' G F blocks bytes none c' ∧ Fine (upd (keptP k) i 1) c' ∧
      (∀ j, Cont c' j = updD (Cont c) i (List.replicate bytes 0) j) ∧ c'.r = c.r ∧ c.s ≤ c'.s ∧ c'.s ≤ c.s + 1 ∧ Keeps (CFoot G) w w' := by
  cases hat : c.at_ i with
  | some f =>
    have hp := hf.pins i f hat
    refine (cache_fresh_old h i f hi hat (by omega)).mono ?_
    rintro e w' ⟨rfl, hc, hk⟩
    obtain ⟨f1, f2⟩ := fine_freshC (i := i) (f := f) bytes hf (fun j hj => at_inj h.inv hj hat)
    exact ⟨rfl, _, hc, f1, f2, rfl, Nat.le_refl _, Nat.le_succ _, hk⟩
  | none =>
    refine (cache_fresh_new h i hi hat (room_has h.inv hf hF)).mono ?_
    rintro e w' ⟨rfl, f, c', hr, hc, hk⟩
    obtain ⟨r1, r2, r3, r4, r5, r6, r7⟩ := fine_room h.inv hf hr
    obtain ⟨f1, f2⟩ := fine_freshC (i := i) (f := f) bytes r1 (fun j hj => absurd hj (r7 j))
    refine ⟨rfl, _, hc, f1, fun j => ?_, r3, r4, r5, hk⟩
    rw [f2]
    unfold updD
    split
    · rfl
    · exact r2 j

end
end Go.Proofs.Sg
