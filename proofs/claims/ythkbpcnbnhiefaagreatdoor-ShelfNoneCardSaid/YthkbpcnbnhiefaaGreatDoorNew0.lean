/- What New gives: a chain, a row, a pool. -/
import Derived.Test.YthkbpcnbnhiefaaGreatDoorProg
import Derived.Test.YthkbpcnbnhiefaaGreatDoorMem
import Derived.Test.YthkbpcnbnhiefaaGreatDoorChain
import Derived.Test.YthkbpcnbnhiefaaGreatDoorBits
import Derived.Test.YthkbpcnbnhiefaaGreatDoorPool
import Derived.WalkKit
import Derived.Handy
namespace Go.Proofs.Sg
open Go.RowKit

theorem made_grid {z : Value} {sz n : Nat} (f : Nat → Value) (hs : z.cells.size = sz) (h0 : 0 < sz) (hf : ∀ r, r < sz → z.cells[r]! = f r) : madeCells z.cells (n * sz) = grid sz n (fun _ r => f r) := by
  unfold grid
  apply Array.ext_getElem?
  intro k
  by_cases hk : k < n * sz
  · have hm := Nat.mod_lt k h0
    simp [madeCells, hk, hs, hf _ hm]
  · simp [madeCells, hk]

/-- 'make([]T, n)' as a grid. -/
theorem run_make_grid {P : Program} (t e : TypeId) (z : Value) (sz bytes : Nat) (f : Nat → Value) (ht : P.underlying t = some (.slice e)) (hinfo : (P.info? e).map (fun i => (i.zero, i.size, i.bytes)) = some (some z, sz, bytes))
    (hs : z.cells.size = sz) (h0 : 0 < sz) (hf : ∀ r, r < sz → z.cells[r]! = f r)
    (kl kc : IntKind) (n : Nat) (hbytes : bytes * n ≤ 281474976710656) (h63 : n ≤ 9223372036854775807) (w : World) :
    (Instr.makeSlice t (.int kl (n : Int)) (.int kc (n : Int))).run P w = .ok (.slice (some ⟨w.heap.size, 0, none⟩) n n) (w.alloc (.cells (grid sz n fun _ r => f r) e)) := by
  obtain ⟨i, hi, hzz⟩ := Option.map_eq_some_iff.1 hinfo
  simp only [Prod.mk.injEq] at hzz
  obtain ⟨hz, hsz, hb⟩ := hzz
  have hb' : (i.bytes : Int) * (n : Int) ≤ 281474976710656 := by
    rw [hb]
    have h : ((bytes * n : Nat) : Int) ≤ 281474976710656 := by omega
    rwa [Int.natCast_mul] at h
  have hr := run_make (P := P) (w := w) t e i z ht hi hz kl kc n n (by omega) (Int.le_refl _) hb' (by omega)
  simp only [Int.toNat_natCast, hsz] at hr
  rw [made_grid f hs h0 hf] at hr
  exact hr

theorem Tryz.infoLink : (Tryz.prog.info? 240).map (fun i => (i.zero, i.size, i.bytes)) = some (some (.agg #[.int .i64 0, .int .i64 0, .bool false]), 3, 24) := by kernel_rfl
theorem Tryz.infoU64 : (Tryz.prog.info? 101).map (fun i => (i.zero, i.size, i.bytes)) = some (some (.int .u64 0), 1, 8) := by kernel_rfl

theorem ring_new (n : Nat) : Ring (fun j => if j = n then ⟨n, n, false⟩ else ⟨0, 0, false⟩) n [] := by
  refine ⟨List.nodup_nil, fun i hi => by simp at hi, fun i hi => ?_, ?_⟩
  · have : i ≠ n := by omega
    simp [this]
  · simp [Adj]

set_option maxRecDepth 100000 in
theorem chain_new {w : World} (n : Nat) (h1 : 1 ≤ n) (h2 : n ≤ 4096) :
    Calls Tryz.prog 162 #[.int .i64 n] w fun e w' => ∃ gc gl, e = .returned (.tuple #[.pointer (some ⟨gc, 0, none⟩), .int .i64 0]) ∧ IsChain w' gc gl n [] ∧ Below w.heap.size w w' ∧ w.heap.size ≤ gc ∧ w.heap.size ≤ gl ∧ gc ≠ gl := by
  have hmk : ∀ W : World, (Instr.makeSlice 241 (.int .i64 ((n : Int) + 1)) (.int .i64 ((n : Int) + 1))).run Tryz.prog W = .ok (.slice (some ⟨W.heap.size, 0, none⟩) (n + 1) (n + 1)) (W.alloc (.cells (grid 3 (n + 1) (lkF fun _ => ⟨0, 0, false⟩)) 240)) := by
    intro W
    have := run_make_grid 241 240 _ 3 24 (fun r => lkF (fun _ => ⟨0, 0, false⟩) 0 r) Tryz.underlying241 Tryz.infoLink rfl (by omega) (by intro r hr; rcases r with _ | _ | _ | r <;> first | rfl | omega) .i64 .i64 (n + 1) (by omega) (by omega) W
    exact this
  have g0 : (grid 3 (n + 1) (lkF fun _ => ⟨0, 0, false⟩))[n * 3]? = some (.int .i64 0) := grid_at (r := 0) (lkF fun _ => ⟨0, 0, false⟩) (by omega) (by omega)
  have g1 : (grid 3 (n + 1) (lkF fun _ => ⟨0, 0, false⟩))[n * 3 + 1]? = some (.int .i64 0) := grid_at (r := 1) (lkF fun _ => ⟨0, 0, false⟩) (by omega) (by omega)
  have g2 : (grid 3 (n + 1) (lkF fun _ => ⟨0, 0, false⟩))[n * 3 + 2]? = some (.bool false) := grid_at (r := 2) (lkF fun _ => ⟨0, 0, false⟩) (by omega) (by omega)
  generalize hA : grid 3 (n + 1) (lkF fun _ => ⟨0, 0, false⟩) = A at hmk g0 g1 g2
  have hA' := Hd.mk hA
  clear hA
  go_enter Tryz.func162, Tryz.ntmps162
  go_wp2_with fail
  go_ret2
  have e := lk_all (L := fun _ => ⟨0, 0, false⟩) (m := n + 1) (j := n) (by omega) ⟨n, n, false⟩
  rw [hA'.out] at e
  have e2 : (upd (fun _ => (⟨0, 0, false⟩ : Lk)) n ⟨n, n, false⟩) = fun j => if j = n then ⟨n, n, false⟩ else ⟨0, 0, false⟩ := by
    funext j; simp [upd]
  rw [e2] at e
  simp only at e
  refine ⟨w.heap.size + 1, w.heap.size, rfl, ⟨_, ?_, ?_, ring_new n, h1, h2, fun j => ?_⟩, by go_grown, by omega, Nat.le_refl _, by omega⟩
  · have hb := Blk.new (w.alloc (.cells (((A.setIfInBounds (n * 3) (.int .i64 n)).setIfInBounds (n * 3 + 1) (.int .i64 n)).setIfInBounds (n * 3 + 2) (.bool false)) 240)) 243 #[.slice (some ⟨w.heap.size, 0, none⟩) (n + 1) (n + 1), .int .i64 0]
    simpa using hb
  · have hb := (Blk.new w 240 (((A.setIfInBounds (n * 3) (.int .i64 n)).setIfInBounds (n * 3 + 1) (.int .i64 n)).setIfInBounds (n * 3 + 2) (.bool false))).alloc (.cells #[.slice (some ⟨w.heap.size, 0, none⟩) (n + 1) (n + 1), .int .i64 0] 243)
    rw [← e]; exact hb
  · by_cases hj : j = n
    · simp [hj]
    · simp [hj]

theorem digits_new (n : Nat) : Digits n (fun _ => false) (fun _ => 0) := ⟨by simp, by simp⟩
theorem heldCount_none (n : Nat) : heldCount n (fun _ => false) = 0 := by simp [heldCount]

set_option maxRecDepth 100000 in
theorem row_new {w : World} (n : Nat) (h1 : 5 ≤ n) (h2 : n ≤ 65536) :
    Calls Tryz.prog 163 #[.int .i64 n] w fun e w' => ∃ gr gw, e = .returned (.tuple #[.pointer (some ⟨gr, 0, none⟩), .int .i64 0]) ∧ IsRow w' gr gw n (fun _ => false) ∧ Below w.heap.size w w' ∧ w.heap.size ≤ gr ∧ w.heap.size ≤ gw := by
  have hd : ((n : Int) + 64 - 1) / 64 = (((n + 63) / 64 : Nat) : Int) := by omega
  have hd2 : ((n : Int) + 63) / 64 = (((n + 63) / 64 : Nat) : Int) := by omega
  have hm : (n + 63) / 64 ≤ 1024 := by omega
  generalize hM : (n + 63) / 64 = M at hd hd2 hm
  have hmk : ∀ W : World, (Instr.makeSlice 236 (.int .i64 (M : Nat)) (.int .i64 (M : Nat))).run Tryz.prog W = .ok (.slice (some ⟨W.heap.size, 0, none⟩) M M) (W.alloc (.cells (wgrid M fun _ => 0) 101)) := by
    intro W
    exact run_make_grid 236 101 _ 1 8 (fun r => .int .u64 0) Tryz.underlying236 Tryz.infoU64 rfl (by omega) (by intro r hr; rcases r with _ | r <;> first | rfl | omega) .i64 .i64 M (by omega) (by omega) W
  have hM' := Hd.mk hM
  clear hM
  go_enter Tryz.func163, Tryz.ntmps163
  go_wp2_with fail
  go_ret2
  refine ⟨w.heap.size + 1, w.heap.size, rfl, ⟨fun _ => 0, ?_, ?_, digits_new n, h1, h2⟩, by go_grown, by omega, Nat.le_refl _⟩
  · rw [hM'.out, heldCount_none]
    have hb := Blk.new (w.alloc (.cells (wgrid M fun _ => 0) 101)) 238 #[.int .i64 n, .int .i64 0, .slice (some ⟨w.heap.size, 0, none⟩) M M]
    simpa using hb
  · rw [hM'.out]
    exact (Blk.new w 101 (wgrid M fun _ => 0)).alloc _

theorem updH_zero : updH (fun _ => false) 0 true = fun j => decide (j = 0) := by
  funext j; simp only [updH]; split <;> simp_all

set_option maxRecDepth 100000 in
theorem pool_new {w : World} (n : Nat) (h1 : 5 ≤ n) (h2 : n ≤ 65536) (hT : Tab w) :
    Calls Tryz.prog 104 #[.int .i64 n] w fun e w' => ∃ gp gr gw, e = .returned (.tuple #[.pointer (some ⟨gp, 0, none⟩), .int .i64 0]) ∧ IsPool w' gp gr gw n (fun j => decide (j = 0)) ∧ Below w.heap.size w w' ∧ w.heap.size ≤ gp ∧ w.heap.size ≤ gr ∧ w.heap.size ≤ gw := by
  go_enter Tryz.func104, Tryz.ntmps104
  go_wp2_with fail
  refine (row_new n h1 h2).mono ?_
  rintro e w1 ⟨gr, gw, rfl, hr1, hb1, hg1, hg2⟩
  go_wp2_with fail
  refine (row_set_new hr1 0 (by omega) rfl).mono ?_
  rintro e w2 ⟨rfl, hr2, hk2⟩
  go_wp2_with fail
  go_ret2
  rw [updH_zero] at hr2
  have hk02 : Keeps (fun k => k = gr ∨ k = gw) w w2 := (Keeps.of_below (S := fun _ => False) hb1).trans hk2 (fun _ _ e => e.elim) (fun _ _ e => e)
  have hk03 := hk02.alloc (.cells #[.pointer (some ⟨gr, 0, none⟩)] 180)
  have hs : w.heap.size ≤ w2.heap.size := hk02.size
  have hTl := hT.lt
  refine ⟨w2.heap.size, gr, gw, rfl, ⟨Blk.new w2 _ _, ?_, hT.keeps hk03 (by omega)⟩, hk03.below (Nat.le_refl _) (by omega), hs, hg1, hg2⟩
  exact hr2.keep ((Keeps.refl (fun _ => False) w2).alloc _) (fun e => e) (fun e => e)

end Go.Proofs.Sg
