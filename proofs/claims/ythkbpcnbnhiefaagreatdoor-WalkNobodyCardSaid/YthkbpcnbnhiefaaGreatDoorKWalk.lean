/- Wk0 · Wk1 · Look0 · Seen · Visit0 · Walk0 · Walk1, in one. -/
import Derived.Test.YthkbpcnbnhiefaaGreatDoorKBase
import Derived.Test.YthkbpcnbnhiefaaGreatDoorKStood
/-! Clone of an empty node; Config of a shelf; Load of an empty leaf. -/
namespace Go.Proofs.Sg
set_option linter.unusedSimpArgs false
set_option linter.unusedVariables false
open Go.RowKit Go.Lib

section
variable {w w' : World} {c : Cfg}

set_option maxRecDepth 10000 in
theorem clone_u32_nil : Calls Tryz.prog 172 #[nilV] w fun e w' => e = .returned nilV ∧ w = w' := by
  have q22 : ∀ (w : World) (a : Option Addr) (n c n' c' : Nat), (binOp .eql 39 (.slice a n c) (.slice none n' c')).run Tryz.prog w = .ok (.bool a.isNone) w := fun w a n c n' c' => Lib.run_eql_slice_nil w _ _ a n c n' c' Tryz.underlying39
  go_enter Tryz.func172, Tryz.ntmps172
  go_wp2_with fail
  go_ret
  exact ⟨rfl, rfl⟩

set_option maxRecDepth 10000 in
theorem clone_str_nil : Calls Tryz.prog 173 #[nilV] w fun e w' => e = .returned nilV ∧ w = w' := by
  have q22 : ∀ (w : World) (a : Option Addr) (n c n' c' : Nat), (binOp .eql 40 (.slice a n c) (.slice none n' c')).run Tryz.prog w = .ok (.bool a.isNone) w := fun w a n c n' c' => Lib.run_eql_slice_nil w _ _ a n c n' c' Tryz.underlying40
  go_enter Tryz.func173, Tryz.ntmps173
  go_wp2_with fail
  go_ret
  exact ⟨rfl, rfl⟩

set_option maxRecDepth 10000 in
theorem clone_msg_nil : Calls Tryz.prog 174 #[nilV] w fun e w' => e = .returned nilV ∧ w = w' := by
  have q22 : ∀ (w : World) (a : Option Addr) (n c n' c' : Nat), (binOp .eql 25 (.slice a n c) (.slice none n' c')).run Tryz.prog w = .ok (.bool a.isNone) w := fun w a n c n' c' => Lib.run_eql_slice_nil w _ _ a n c n' c' Tryz.underlying25
  go_enter Tryz.func174, Tryz.ntmps174
  go_wp2_with fail
  go_ret
  exact ⟨rfl, rfl⟩

set_option maxRecDepth 10000 in
theorem clone_pair_nil : Calls Tryz.prog 175 #[nilV] w fun e w' => e = .returned nilV ∧ w = w' := by
  have q22 : ∀ (w : World) (a : Option Addr) (n c n' c' : Nat), (binOp .eql 24 (.slice a n c) (.slice none n' c')).run Tryz.prog w = .ok (.bool a.isNone) w := fun w a n c n' c' => Lib.run_eql_slice_nil w _ _ a n c n' c' Tryz.underlying24
  go_enter Tryz.func175, Tryz.ntmps175
  go_wp2_with fail
  go_ret
  exact ⟨rfl, rfl⟩

theorem five_set {g : Nat} {t : TypeId} {a b c d e : Value} (h : Blk w g t #[a, b, c, d, e]) (u0 u1 u2 u3 u4 : Value) :
    Blk (((((w.setCell ⟨g, 0, none⟩ u0).setCell ⟨g, 1, none⟩ u1).setCell ⟨g, 2, none⟩ u2).setCell ⟨g, 3, none⟩ u3).setCell ⟨g, 4, none⟩ u4).drew g t #[u0, u1, u2, u3, u4] ∧
    Keeps (fun x => x = g) w (((((w.setCell ⟨g, 0, none⟩ u0).setCell ⟨g, 1, none⟩ u1).setCell ⟨g, 2, none⟩ u2).setCell ⟨g, 3, none⟩ u3).setCell ⟨g, 4, none⟩ u4).drew := by
  refine ⟨?_, ?_⟩
  · have := (((((h.set_ 0 u0).set_ 1 u1).set_ 2 u2).set_ 3 u3).set_ 4 u4).drew
    simpa using this
  · exact ((((((Keeps.refl (fun x => x = g) w).setCell (fun _ => rfl) u0).setCell (fun _ => rfl) u1).setCell (fun _ => rfl) u2).setCell (fun _ => rfl) u3).setCell (fun _ => rfl) u4).drew

theorem node_kept {g x : Nat} {t : TypeId} {a b c d e : Value} (h : Blk w g t #[a, b, c, d, e]) (k : Keeps (fun y => y = x) w w') (hx : g ≠ x) :
    w'.cell? ⟨g, 0, none⟩ = some a ∧ w'.cell? ⟨g, 1, none⟩ = some b ∧ w'.cell? ⟨g, 2, none⟩ = some c ∧ w'.cell? ⟨g, 3, none⟩ = some d ∧ w'.cell? ⟨g, 4, none⟩ = some e ∧ Keeps (fun y => y = x) w w' := by
  obtain ⟨a0, a1, a2, a3, a4⟩ := (h.keep k hx).five
  exact ⟨a0, a1, a2, a3, a4, k⟩

set_option maxRecDepth 100000 in
set_option maxHeartbeats 2000000 in
theorem node_clone_none (l : Int) : Calls Tryz.prog 119 #[nodeV l nilV nilV nilV nilV] w fun e w' => e = .returned (nodeV l nilV nilV nilV nilV) ∧ Keeps (fun _ => False) w w' := by
  have bn := Blk.new w 42 #[.int .i64 l, nilV, nilV, nilV, nilV]
  have k0 := (Keeps.refl (fun _ => False) w).alloc (.cells #[.int .i64 l, nilV, nilV, nilV, nilV] 42)
  unfold nodeV
  go_enter Tryz.func119, Tryz.ntmps119
  go_wp2_with fail
  have k1 := k0.alloc (.cells #[.int .i64 0, nilV, nilV, nilV, nilV] 42)
  have b1 := bn.alloc (.cells #[.int .i64 0, nilV, nilV, nilV, nilV] 42)
  have o1 : Blk ((w.alloc (.cells #[.int .i64 l, nilV, nilV, nilV, nilV] 42)).alloc (.cells #[.int .i64 0, nilV, nilV, nilV, nilV] 42)) (w.heap.size + 1) 42 #[.int .i64 0, nilV, nilV, nilV, nilV] := by
    simpa using Blk.new (w.alloc (.cells #[.int .i64 l, nilV, nilV, nilV, nilV] 42)) 42 #[.int .i64 0, nilV, nilV, nilV, nilV]
  generalize hW : ((w.alloc (.cells #[.int .i64 l, nilV, nilV, nilV, nilV] 42)).alloc (.cells #[.int .i64 0, nilV, nilV, nilV, nilV] 42)) = w1 at *
  clear hW
  obtain ⟨n0, n1, n2, n3, n4⟩ := b1.five
  obtain ⟨q0, q1, q2, q3, q4⟩ := o1.five
  have f0 := o1.frozen 0
  have f1 := o1.frozen 1
  have f2 := o1.frozen 2
  have f3 := o1.frozen 3
  have f4 := o1.frozen 4
  have hk0 : Keeps (fun x => x = w.heap.size + 1) w1 w1.drew := (Keeps.refl _ w1).drew
  have O1 := Hd.mk o1
  have B1 := Hd.mk b1
  have K1 := Hd.mk k1
  clear bn k0 k1 o1 b1
  have kk := five_set O1.out (.int .i64 l) nilV nilV nilV nilV
  refine wp_region_held_drew (S := (fun w' => w'.cell? ⟨w.heap.size, 0, none⟩ = some (.int .i64 l) ∧ w'.cell? ⟨w.heap.size, 1, none⟩ = some nilV ∧ w'.cell? ⟨w.heap.size, 2, none⟩ = some nilV ∧ w'.cell? ⟨w.heap.size, 3, none⟩ = some nilV ∧ w'.cell? ⟨w.heap.size, 4, none⟩ = some nilV ∧ Keeps (fun x => x = w.heap.size + 1) w1 w')) (by kernel_rfl) (by go_keep) (fun hHeld => ?_)
  refine wpAnyH_take (i := 0) (oi := ⟨_, _, _, _, _, _⟩) (v := _) rfl (by kernel_rfl) (by kernel_rfl) (by kernel_rfl) (fun _ _ _ h => h) (Or.inl ⟨by rfl, fun _ _ => rfl⟩) hHeld ?_
  (try simp only [Act.put, Act.eval, List.setIfInBounds_toArray, List.set_cons_zero, List.set_cons_succ, List.getElem?_toArray, List.getElem?_cons_succ, List.getElem?_cons_zero, Array.getD_eq_getD_getElem?, Option.getD_some])
  refine wpAnyH_take (i := 1) (oi := ⟨_, _, _, _, _, _⟩) (v := ?v1) rfl (by kernel_rfl) (by kernel_rfl) (by kernel_rfl) (fun _ _ _ h => h) (Or.inl ⟨by rfl, ?hy1⟩) hHeld ?rest1
  case hy1 => ((intro w hSw; (try dsimp only at hSw); go_simp) <;> try with_reducible rfl)
  (try simp only [Act.put, Act.eval, List.setIfInBounds_toArray, List.set_cons_zero, List.set_cons_succ, List.getElem?_toArray, List.getElem?_cons_succ, List.getElem?_cons_zero, Array.getD_eq_getD_getElem?, Option.getD_some])
  refine wpAnyH_take (i := 2) (oi := ⟨_, _, _, _, _, _⟩) (v := _) rfl (by kernel_rfl) (by kernel_rfl) (by kernel_rfl) (fun _ _ _ h => h) (Or.inl ⟨by rfl, fun _ _ => rfl⟩) hHeld ?_
  (try simp only [Act.put, Act.eval, List.setIfInBounds_toArray, List.set_cons_zero, List.set_cons_succ, List.getElem?_toArray, List.getElem?_cons_succ, List.getElem?_cons_zero, Array.getD_eq_getD_getElem?, Option.getD_some])
  refine wpAnyH_take (i := 3) (oi := ⟨_, _, _, _, _, _⟩) (v := ?v3) rfl (by kernel_rfl) (by kernel_rfl) (by kernel_rfl) (fun _ _ _ h => h) (Or.inl ⟨by rfl, ?hy3⟩) hHeld ?rest3
  case hy3 => ((intro w hSw; (try dsimp only at hSw); go_simp) <;> try with_reducible rfl)
  (try simp only [Act.put, Act.eval, List.setIfInBounds_toArray, List.set_cons_zero, List.set_cons_succ, List.getElem?_toArray, List.getElem?_cons_succ, List.getElem?_cons_zero, Array.getD_eq_getD_getElem?, Option.getD_some])
  refine wpAnyH_take (i := 5) (oi := ⟨_, _, _, _, _, _⟩) (v := _) rfl (by kernel_rfl) (by kernel_rfl) (by kernel_rfl) (fun _ _ _ h => h) (Or.inl ⟨by rfl, fun _ _ => rfl⟩) hHeld ?_
  (try simp only [Act.put, Act.eval, List.setIfInBounds_toArray, List.set_cons_zero, List.set_cons_succ, List.getElem?_toArray, List.getElem?_cons_succ, List.getElem?_cons_zero, Array.getD_eq_getD_getElem?, Option.getD_some])
  refine wpAnyH_take (i := 6) (oi := ⟨_, _, _, _, _, _⟩) (v := ?v6) rfl (by kernel_rfl) (by kernel_rfl) (by kernel_rfl) (fun _ _ _ h => h) (Or.inl ⟨by rfl, ?hy6⟩) hHeld ?rest6
  case hy6 => ((intro w hSw; (try dsimp only at hSw); go_simp) <;> try with_reducible rfl)
  (try simp only [Act.put, Act.eval, List.setIfInBounds_toArray, List.set_cons_zero, List.set_cons_succ, List.getElem?_toArray, List.getElem?_cons_succ, List.getElem?_cons_zero, Array.getD_eq_getD_getElem?, Option.getD_some])
  refine wpAnyH_take (i := 8) (oi := ⟨_, _, _, _, _, _⟩) (v := _) rfl (by kernel_rfl) (by kernel_rfl) (by kernel_rfl) (fun _ _ _ h => h) (Or.inl ⟨by rfl, fun _ _ => rfl⟩) hHeld ?_
  (try simp only [Act.put, Act.eval, List.setIfInBounds_toArray, List.set_cons_zero, List.set_cons_succ, List.getElem?_toArray, List.getElem?_cons_succ, List.getElem?_cons_zero, Array.getD_eq_getD_getElem?, Option.getD_some])
  refine wpAnyH_take (i := 9) (oi := ⟨_, _, _, _, _, _⟩) (v := ?v9) rfl (by kernel_rfl) (by kernel_rfl) (by kernel_rfl) (fun _ _ _ h => h) (Or.inl ⟨by rfl, ?hy9⟩) hHeld ?rest9
  case hy9 => ((intro w hSw; (try dsimp only at hSw); go_simp) <;> try with_reducible rfl)
  (try simp only [Act.put, Act.eval, List.setIfInBounds_toArray, List.set_cons_zero, List.set_cons_succ, List.getElem?_toArray, List.getElem?_cons_succ, List.getElem?_cons_zero, Array.getD_eq_getD_getElem?, Option.getD_some])
  refine wpAnyH_take (i := 11) (oi := ⟨_, _, _, _, _, _⟩) (v := _) rfl (by kernel_rfl) (by kernel_rfl) (by kernel_rfl) (fun _ _ _ h => h) (Or.inl ⟨by rfl, fun _ _ => rfl⟩) hHeld ?_
  (try simp only [Act.put, Act.eval, List.setIfInBounds_toArray, List.set_cons_zero, List.set_cons_succ, List.getElem?_toArray, List.getElem?_cons_succ, List.getElem?_cons_zero, Array.getD_eq_getD_getElem?, Option.getD_some])
  refine wpAnyH_take (i := 12) (oi := ⟨_, _, _, _, _, _⟩) (v := ?v12) rfl (by kernel_rfl) (by kernel_rfl) (by kernel_rfl) (fun _ _ _ h => h) (Or.inl ⟨by rfl, ?hy12⟩) hHeld ?rest12
  case hy12 => ((intro w hSw; (try dsimp only at hSw); go_simp) <;> try with_reducible rfl)
  (try simp only [Act.put, Act.eval, List.setIfInBounds_toArray, List.set_cons_zero, List.set_cons_succ, List.getElem?_toArray, List.getElem?_cons_succ, List.getElem?_cons_zero, Array.getD_eq_getD_getElem?, Option.getD_some])
  refine wpAnyH_ready (rs := [4]) (by kernel_rfl) (by simp) ?_
  refine AllReadyH.cons (o := ⟨_, _, _, _, _, _⟩) rfl (fun K hK => ?_) AllReadyH.nil
  go_simp
  (go_at_call 172; refine (clone_u32_nil (w := _)).mono ?_; rintro e w' ⟨rfl, rfl⟩)
  go_wp2_with fail
  refine hK.out _ _ hHeld (fun hHeld => ?_)
  clear hK K
  (try simp only [Act.put, Act.eval, List.setIfInBounds_toArray, List.set_cons_zero, List.set_cons_succ, List.getElem?_toArray, List.getElem?_cons_succ, List.getElem?_cons_zero, Array.getD_eq_getD_getElem?, Option.getD_some])
  refine wpAnyH_ready (rs := [7]) (by kernel_rfl) (by simp) ?_
  refine AllReadyH.cons (o := ⟨_, _, _, _, _, _⟩) rfl (fun K hK => ?_) AllReadyH.nil
  go_simp
  (go_at_call 173; refine (clone_str_nil (w := _)).mono ?_; rintro e w' ⟨rfl, rfl⟩)
  go_wp2_with fail
  refine hK.out _ _ hHeld (fun hHeld => ?_)
  clear hK K
  (try simp only [Act.put, Act.eval, List.setIfInBounds_toArray, List.set_cons_zero, List.set_cons_succ, List.getElem?_toArray, List.getElem?_cons_succ, List.getElem?_cons_zero, Array.getD_eq_getD_getElem?, Option.getD_some])
  refine wpAnyH_ready (rs := [10]) (by kernel_rfl) (by simp) ?_
  refine AllReadyH.cons (o := ⟨_, _, _, _, _, _⟩) rfl (fun K hK => ?_) AllReadyH.nil
  go_simp
  (go_at_call 174; refine (clone_msg_nil (w := _)).mono ?_; rintro e w' ⟨rfl, rfl⟩)
  go_wp2_with fail
  refine hK.out _ _ hHeld (fun hHeld => ?_)
  clear hK K
  (try simp only [Act.put, Act.eval, List.setIfInBounds_toArray, List.set_cons_zero, List.set_cons_succ, List.getElem?_toArray, List.getElem?_cons_succ, List.getElem?_cons_zero, Array.getD_eq_getD_getElem?, Option.getD_some])
  refine wpAnyH_ready (rs := [13]) (by kernel_rfl) (by simp) ?_
  refine AllReadyH.cons (o := ⟨_, _, _, _, _, _⟩) rfl (fun K hK => ?_) AllReadyH.nil
  go_simp
  (go_at_call 175; refine (clone_pair_nil (w := _)).mono ?_; rintro e w' ⟨rfl, rfl⟩)
  go_wp2_with fail
  refine hK.out _ _ hHeld (fun hHeld => ?_)
  clear hK K
  (try simp only [Act.put, Act.eval, List.setIfInBounds_toArray, List.set_cons_zero, List.set_cons_succ, List.getElem?_toArray, List.getElem?_cons_succ, List.getElem?_cons_zero, Array.getD_eq_getD_getElem?, Option.getD_some])
  refine wpAnyH_take (i := 14) (oi := ⟨_, _, _, _, _, _⟩) (v := ?v14) rfl (by kernel_rfl) (by kernel_rfl) (by kernel_rfl) (fun _ _ _ h => h) (Or.inl ⟨by rfl, ?hy14⟩) hHeld ?rest14
  case hy14 => ((intro w hSw; (try dsimp only at hSw); go_simp) <;> try with_reducible rfl)
  (try simp only [Act.put, Act.eval, List.setIfInBounds_toArray, List.set_cons_zero, List.set_cons_succ, List.getElem?_toArray, List.getElem?_cons_succ, List.getElem?_cons_zero, Array.getD_eq_getD_getElem?, Option.getD_some])
  refine wpAnyH_ready (rs := [15]) (by kernel_rfl) (by simp) ?_
  refine AllReadyH.cons (o := ⟨_, _, _, _, _, _⟩) rfl (fun K hK => ?_) AllReadyH.nil
  go_simp
  skip
  go_wp2_with fail
  refine hK.out _ _ (node_kept B1.out kk.2 (fun e => by omega)) (fun hHeld => ?_)
  clear hK K
  (try simp only [Act.put, Act.eval, List.setIfInBounds_toArray, List.set_cons_zero, List.set_cons_succ, List.getElem?_toArray, List.getElem?_cons_succ, List.getElem?_cons_zero, Array.getD_eq_getD_getElem?, Option.getD_some])
  refine wpAnyH_done (by kernel_rfl) ?_ _
  have b2 := kk.1
  obtain ⟨r0, r1, r2, r3, r4⟩ := b2.five
  have K2 := Hd.mk (K1.out.trans kk.2 (U := fun _ => False) (fun _ _ e => e) (fun x hx e => by subst e; omega))
  clear hHeld hk0 n0 n1 n2 n3 n4 q0 q1 q2 q3 q4 f0 f1 f2 f3 f4 kk b2
  go_wp2_with fail
  refine bodyPost_ret (v := .agg #[.int .i64 l, nilV, nilV, nilV, nilV]) (by simp [results, Tryz.results119, go_sem, r0, r1, r2, r3, r4]) rfl ⟨rfl, K2.out⟩

end
end Go.Proofs.Sg
/-! Config of a shelf; Load of an empty leaf. -/
namespace Go.Proofs.Sg
set_option linter.unusedSimpArgs false
set_option linter.unusedVariables false
open Go.RowKit Go.Lib

section
variable {w w' : World} {c : Cfg}

set_option maxRecDepth 100000 in
theorem shelf_config {S : SIds} {k : Nat} {L : Nat → List UInt8} {H : Nat → Bool} {r s : Nat} (h : IsShelf w S c k L H r s) :
    Calls Tryz.prog 48 #[.pointer (some ⟨S.gs, 0, none⟩)] w fun e w' => e = .returned c.v ∧ Keeps (fun _ => False) w w' := by
  obtain ⟨⟨c0, c1, c2, c3, c4, c5, c6, c7⟩, _⟩ := (h.keep0 ((Keeps.refl (fun _ => False) w).alloc (.cells #[.int .i64 0, .int .i64 0, .int .i64 0, .int .i64 0, .int .i64 0, .int .i64 0, .int .i64 0, .int .i64 0] 23))).cells
  unfold Cfg.v
  go_enter Tryz.func48, Tryz.ntmps48
  go_wp2_with fail
  refine bodyPost_ret (v := .agg #[.int .i64 c.blocks, .int .i64 c.bytes, .int .i64 c.frames, .int .i64 c.fan, .int .i64 c.buffer, .int .i64 c.leaf, .int .i64 c.key, .int .i64 c.val]) (by simp [results, Tryz.results48, go_sem]) rfl ⟨rfl, ?_⟩
  repeat refine Keeps.setCell ?_ (fun h => absurd h (Nat.lt_irrefl _)) _
  exact (Keeps.refl (fun _ => False) w).alloc _

theorem shelf_load_leaf {S : SIds} {k : Nat} {L : Nat → List UInt8} {H : Nat → Bool} {r s : Nat} (h : IsShelf w S c k L H r s) (i : Nat) (h0 : 0 < i) (hi : i < c.blocks.toNat) (hz : L i = leafB c) :
    Calls Tryz.prog 21 #[.pointer (some ⟨S.gs, 0, none⟩), .int .u32 i] w fun e w' => e = .returned (.tuple #[nodeV 0 nilV nilV nilV nilV, .int .i64 0]) ∧ ∃ r' s', IsShelf w' S c k L H r' s' ∧ Keeps (SFoot S) w w' := by
  refine (shelf_load h i h0 hi (fun _ l a1 a2 a3 a4 x => l = 0 ∧ a1 = nilV ∧ a2 = nilV ∧ a3 = nilV ∧ a4 = nilV ∧ x = 0) (fun _ _ _ _ _ _ _ _ _ _ h => h) (fun w1 b off cap _ hb _ => ?_)).mono ?_
  · rw [hz] at hb
    refine (decode_leaf c h.inn h.right hb).mono ?_
    rintro e w2 ⟨rfl, hk⟩
    exact ⟨0, nilV, nilV, nilV, nilV, 0, rfl, ⟨⟨_, _, _, rfl⟩, ⟨_, _, _, rfl⟩, ⟨_, _, _, rfl⟩, ⟨_, _, _, rfl⟩⟩, ⟨rfl, rfl, rfl, rfl, rfl, rfl⟩, hk⟩
  · rintro e w2 ⟨l, a1, a2, a3, a4, x, rfl, _, ⟨rfl, rfl, rfl, rfl, rfl, rfl⟩, r', s', hS, _, _, _, _, _, hk⟩
    exact ⟨rfl, r', s', hS, hk⟩

end
end Go.Proofs.Sg
/-! walk.Look's own function: what it tells of a node. -/
namespace Go.Proofs.Sg
set_option linter.unusedSimpArgs false
set_option linter.unusedVariables false
open Go.RowKit Go.Lib

section
variable {w w' : World} {c : Cfg}

set_option maxRecDepth 100000 in
set_option maxHeartbeats 2000000 in
theorem look_tell_leaf (gt : Nat) (hb : Blk w gt 60 #[.int .i64 0, .int .i64 0, .int .i64 0, .int .i64 0, .int .i64 0]) (i : Nat) (lo hi : ByteArray) (top : Bool) :
    Calls Tryz.prog 71 #[.int .u32 i, nodeV 0 nilV nilV nilV nilV, spanV lo hi top, .pointer (some ⟨gt, 0, none⟩)] w fun e w' => e = .returned (.bool true) ∧ Blk w' gt 60 #[.int .i64 1, .int .i64 1, .int .i64 1, .int .i64 0, .int .i64 0] ∧ Keeps (fun x => x = gt) w w' := by
  have b0 := (hb.alloc (.cells #[.int .i64 0, nilV, nilV, nilV, nilV] 42)).alloc (.cells #[.string lo, .string hi, .bool top] 44)
  have n0 := (Blk.new w 42 #[.int .i64 0, nilV, nilV, nilV, nilV]).alloc (.cells #[.string lo, .string hi, .bool top] 44)
  have k0 := ((Keeps.refl (fun x => x = gt) w).alloc (.cells #[.int .i64 0, nilV, nilV, nilV, nilV] 42)).alloc (.cells #[.string lo, .string hi, .bool top] 44)
  unfold nodeV spanV
  have hne : gt ≠ w.heap.size := Nat.ne_of_lt hb.lt
  obtain ⟨n0, n1, n2, n3, n4⟩ := n0.five
  obtain ⟨r0, r1, r2, r3, r4⟩ := b0.five
  have f0 := b0.frozen 0
  have f1 := b0.frozen 1
  have f2 := b0.frozen 2
  have f3 := b0.frozen 3
  have f4 := b0.frozen 4
  have B0 := Hd.mk b0
  have K0 := Hd.mk k0
  clear b0 k0 hb
  go_enter Tryz.func71, Tryz.ntmps71
  go_wp2_with fail
  go_ret
  have hm : (max 0 1 : Int) = 1 := rfl
  rw [hm]
  have h := (((((B0.out.set_ 0 (.int .i64 1)).set_ 1 (.int .i64 1)).set_ 2 (.int .i64 1)).set_ 3 (.int .i64 0)).set_ 4 (.int .i64 0))
  exact ⟨rfl, by simpa using h, ((((K0.out.setCell (fun _ => rfl) _).setCell (fun _ => rfl) _).setCell (fun _ => rfl) _).setCell (fun _ => rfl) _).setCell (fun _ => rfl) _⟩

end
end Go.Proofs.Sg
/-! The walker's map of the blocks that it has seen. -/
namespace Go.Proofs.Sg
set_option linter.unusedSimpArgs false
set_option linter.unusedVariables false
open Go.RowKit Go.Maps

theorem Tryz.zeroBool (w : World) : (zeroValue 4).run Tryz.prog w = .ok (.bool false) w := by kernel_rfl
theorem wfk' (i : Nat) (hi : i < 4294967296) : (Lit.int .u32 (i : Nat)).wf = true := WalkArith.wf_u32 (by omega)
theorem keyk' (i : Nat) (hi : i < 4294967296) : keyOf Tryz.prog 30 (.int .u32 (i : Nat)) = some (kl i) := keyOf_int_mk Tryz.underlying30 (wfk' i hi)

theorem plainElem_bool_inv {H : Type} {P : Program} {e : TypeId} (he : P.underlying e = some .bool) {v : Value} {z : DataW H × List MemPlace} (h : plainElem P e v = some z) : ∃ a, v = .bool a ∧ z = (.lit (.bool a), []) := by
  unfold plainElem at h
  rw [he] at h
  cases v <;> simp at h
  exact ⟨_, rfl, h.symm⟩

/-- Block b is a map: block i is in it if sn says so. -/
def IsSeen (w : World) (b : Nat) (sn : Nat → Bool) : Prop :=
  ∃ D : DataW Unit, w.ownsMap Tryz.prog 30 (plainElem Tryz.prog 4) b 65536 D ∧ (∀ i, Maps.has D (kl i) = sn i ∧ (sn i = true → D.atKey (kl i) (.lit (.bool false)) = .lit (.bool true))) ∧ (∀ k, Maps.has D k = true → ∃ i, i < 65536 ∧ k = kl i)

theorem IsSeen.keep {w w' : World} {b : Nat} {sn : Nat → Bool} (h : IsSeen w b sn) (e : w'.heap[b]? = w.heap[b]?) : IsSeen w' b sn := by
  obtain ⟨D, ⟨es, clock, h1, h2⟩, h3⟩ := h
  exact ⟨D, ⟨es, clock, e.trans h1, h2⟩, h3⟩
theorem IsSeen.lt {w : World} {b : Nat} {sn : Nat → Bool} (h : IsSeen w b sn) : b < w.heap.size := by
  obtain ⟨D, ⟨es, clock, h1, _⟩, _⟩ := h
  exact (Array.getElem?_eq_some_iff.1 h1).1
theorem IsSeen.keeps {w w' : World} {T : Nat → Prop} {b : Nat} {sn : Nat → Bool} (h : IsSeen w b sn) (k : Keeps T w w') (hT : ¬ T b) : IsSeen w' b sn := h.keep (k.block b h.lt hT)
theorem IsSeen.ne_blk {w : World} {b g : Nat} {t : TypeId} {cs : Array Value} {sn : Nat → Bool} (h : IsSeen w b sn) (hg : Blk w g t cs) : b ≠ g := by
  obtain ⟨D, ⟨es, clock, h1, _⟩, _⟩ := h
  rintro rfl
  unfold Blk at hg
  rw [h1] at hg
  cases hg

theorem seen_new (w : World) : IsSeen (w.alloc (.map #[] 0)) w.heap.size (fun _ => false) := by
  refine ⟨.map [], (World.ownsMap_made w _ _ _).mono (Nat.zero_le _), fun i => ⟨rfl, fun h => by cases h⟩, fun k hk => ?_⟩
  simp [Maps.has] at hk

theorem retightS {w : World} {b n : Nat} {D : DataW Unit} (h : w.ownsMap Tryz.prog 30 (plainElem Tryz.prog 4) b n D) (hk : ∀ k, Maps.has D k = true → ∃ i, i < 65536 ∧ k = kl i) :
    w.ownsMap Tryz.prog 30 (plainElem Tryz.prog 4) b 65536 D := by
  have ht := tidy_length (h.entries Tryz.lawU32) hk
  obtain ⟨es, clock, h1, h2, _, rfl⟩ := h
  refine ⟨es, clock, h1, h2, ?_, rfl⟩
  rw [size_eq, length_read] at ht
  exact ht

set_option maxRecDepth 100000 in
theorem seen_look {w : World} {b : Nat} {sn : Nat → Bool} (h : IsSeen w b sn) {i : Nat} (hi : i < 4294967296) :
    (Instr.lookup 63 (.map (some b)) (.int .u32 (i : Nat)) false).run Tryz.prog w = .ok (.bool (sn i)) w := by
  obtain ⟨D, h1, h2, _⟩ := h
  obtain ⟨v, ps, hrun, hv⟩ := h1.lookup Tryz.lawU32 Tryz.underlying63 (Tryz.zeroBool w) (plainElem_bool Tryz.underlying4 false) (keyk' i hi)
  obtain ⟨a, rfl, ha⟩ := plainElem_bool_inv Tryz.underlying4 hv
  have ha' : D.atKey (kl i) (.lit (.bool false)) = .lit (.bool a) := congrArg Prod.fst ha
  have hs : a = sn i := by
    cases hsn : sn i with
    | true =>
      have := (h2 i).2 hsn
      rw [this] at ha'
      injection ha' with ha'
      injection ha' with ha'
      exact ha'.symm
    | false =>
      have hh : Maps.has D (kl i) = false := by rw [(h2 i).1, hsn]
      have := atKey_of_not_has hh (.lit (.bool false) : DataW Unit)
      rw [this] at ha'
      injection ha' with ha'
      injection ha' with ha'
      exact ha'.symm
  rw [← hs]
  exact hrun

def seeAt (sn : Nat → Bool) (i : Nat) : Nat → Bool := fun j => if j = i then true else sn j

section
variable {w : World} {ops : Array Oper} {rest : List Oper} {o : Oper} {a : Act} {Q : Exit → Act → World → Prop}

theorem wpList_seen_put (hg : o.guard = none) (m x v : Operand) (hop : o.op = Op.mapUpdate 63 m x v) (b : Nat) (sn : Nat → Bool) (hown : IsSeen w b sn) (i : Nat) (hi : i < 65536)
    (hm : a.eval m = .map (some b)) (hx : a.eval x = .int .u32 (i : Nat)) (hv : a.eval v = .bool true)
    (hK : ∀ w', IsSeen w' b (seeAt sn i) → Keeps (fun k => k = b) w w' → wpList Tryz.prog ops Q rest (a.put o.dst undef) w') : wpList Tryz.prog ops Q (o :: rest) a w := by
  obtain ⟨D, h1, h2, h3⟩ := hown
  have him := (h1.tidy Tryz.lawU32).isMap
  refine wpList_mapUpdate_in w hg m x v _ hop 30 4 Tryz.lawU32 Tryz.underlying63 _ b _ D hm h1 (by unfold maxLen; omega) _ _ (kl i) hx hv (keyk i hi) (.lit (.bool true)) [] (plainElem_bool Tryz.underlying4 true) ?_
  intro w' hown' hturn
  have hkl : WideAt.IsKeyLit (kl i) := by unfold kl; trivial
  have hkeys : ∀ k, Maps.has (D.put (kl i) (.lit (.bool true))) k = true → ∃ j, j < 65536 ∧ k = kl j := by
    intro k hk
    by_cases e : k = kl i
    · exact ⟨i, hi, e⟩
    · rw [has_put_other e] at hk; exact h3 k hk
  refine hK w' ⟨_, retightS hown' hkeys, fun j => ?_, hkeys⟩ (turned_keeps hturn)
  unfold seeAt
  by_cases e : j = i
  · subst e
    rw [if_pos rfl]
    exact ⟨has_put_same him hkl _, fun _ => atKey_put_same him hkl _ _⟩
  · have e' : kl j ≠ kl i := fun h => e (kl_inj h)
    rw [if_neg e, has_put_other e', atKey_put_other e']
    exact h2 j
end

end Go.Proofs.Sg
/-! walk: a walker's visit of a leaf with no pairs, for Look. -/
namespace Go.Proofs.Sg
set_option linter.unusedSimpArgs false
set_option linter.unusedVariables false
open Go.RowKit Go.Lib

section
variable {w w' : World} {c : Cfg}

def lookF (gt : Nat) : Value := .func (.func 71) #[] #[.pointer (some ⟨gt, 0, none⟩)]

theorem Keeps.atT {T : Nat → Prop} {a b : World} (h : Keeps T a b) {p : Addr} {v : Value} (hp : a.cell? p = some v) (hT : ¬ T p.block) : b.cell? p = some v :=
  (World.cell?_of_block (h.block p.block (World.block_lt_of_cell? a _ hp) hT)).trans hp
theorem IsSeen.tag {b : Nat} {sn : Nat → Bool} (h : IsSeen w b sn) : tag w b = some 0 := by
  obtain ⟨D, ⟨es, clock, h1, _⟩, _⟩ := h
  simp [Sg.tag, h1]
theorem IsSeen.ne_tab {b : Nat} {sn : Nat → Bool} (h : IsSeen w b sn) (hT : Tab w) : b ≠ 0 := by
  obtain ⟨D, ⟨es, clock, h1, _⟩, _⟩ := h
  rintro rfl
  have h2 := hT 0 (by omega)
  unfold World.cell? at h2
  simp [h1] at h2
theorem Blk.four {w : World} {g : Nat} {t : TypeId} {a b c d : Value} (h : Blk w g t #[a, b, c, d]) :
    w.cell? ⟨g, 0, none⟩ = some a ∧ w.cell? ⟨g, 1, none⟩ = some b ∧ w.cell? ⟨g, 2, none⟩ = some c ∧ w.cell? ⟨g, 3, none⟩ = some d := ⟨h.cell 0, h.cell 1, h.cell 2, h.cell 3⟩
theorem Blk.three {w : World} {g : Nat} {t : TypeId} {a b c : Value} (h : Blk w g t #[a, b, c]) :
    w.cell? ⟨g, 0, none⟩ = some a ∧ w.cell? ⟨g, 1, none⟩ = some b ∧ w.cell? ⟨g, 2, none⟩ = some c := ⟨h.cell 0, h.cell 1, h.cell 2⟩

set_option maxRecDepth 100000 in
set_option maxHeartbeats 4000000 in
theorem visit_leaf {S : SIds} {k : Nat} {L : Nat → List UInt8} {H : Nat → Bool} {r s : Nat} (h : IsShelf w S c k L H r s) (i : Nat) (h0 : 0 < i) (hi : i < c.blocks.toNat) (hz : L i = leafB c) (gw gm gt : Nat)
    (hw : Blk w gw 133 #[.pointer (some ⟨S.gs, 0, none⟩), .map (some gm), lookF gt, .bool false]) (hm : IsSeen w gm (fun _ => false)) (hb : Blk w gt 60 #[.int .i64 0, .int .i64 0, .int .i64 0, .int .i64 0, .int .i64 0])
    (hgw : ¬ SFoot S gw) (hgm : ¬ SFoot S gm) (hgt : ¬ SFoot S gt) (lo hi' : ByteArray) (top : Bool) :
    Calls Tryz.prog 61 #[.pointer (some ⟨gw, 0, none⟩), .int .u32 i, .int .i64 (-1), spanV lo hi' top] w fun e w' => e = .returned (.int .i64 0) ∧
      Blk w' gt 60 #[.int .i64 1, .int .i64 1, .int .i64 1, .int .i64 0, .int .i64 0] ∧ (∃ r' s', IsShelf w' S c k L H r' s') ∧ Keeps (fun x => SFoot S x ∨ x = gm ∨ x = gt) w w' := by
  have hbk := h.blocks
  have h0l : 0 ≤ c.leaf := by
    obtain ⟨⟨h1, h2, h3, h4, h5, h6, h7, h8, h9, h10⟩, _⟩ := h.right
    omega
  have HR := fun (w : World) lo hi top => node_right_none (w := w) c h.inn h0l lo hi top none none none none 0 0 0 0
  have k0 := (Keeps.refl (fun _ => False) w).alloc (.cells #[.string lo, .string hi', .bool top] 44)
  have p0 := Blk.new w 44 #[.string lo, .string hi', .bool top]
  have hld := shelf_load_leaf (h.keep0 k0) i h0 hi hz
  have w0 := hw.keep k0 (fun e => e)
  have v0 : World.cell? _ ⟨gw, 0, none⟩ = some (.pointer (some ⟨S.gs, 0, none⟩)) := w0.cell 0
  have F := fun x => h.foot_lt (x := x)
  have hpf : ¬ SFoot S w.heap.size := fun e => Nat.lt_irrefl _ (F _ e)
  have hib : i < 65536 := by omega
  have hn1 : gw ≠ w.heap.size := Nat.ne_of_lt hw.lt
  have hn2 : gm ≠ w.heap.size := Nat.ne_of_lt hm.lt
  have hn3 : gt ≠ w.heap.size := Nat.ne_of_lt hb.lt
  have hn4 : gm ≠ gw := hm.ne_blk hw
  have hn5 : gm ≠ gt := hm.ne_blk hb
  have hn6 : gw ≠ gt := hw.ne_ hb (by decide)
  have hn7 : gt < w.heap.size := hb.lt
  unfold lookF at *
  have K0 := Hd.mk k0
  have P0 := Hd.mk p0
  have W0 := Hd.mk w0
  have M0 := Hd.mk (hm.keeps k0 (fun e => e))
  have B0 := Hd.mk (hb.keep k0 (fun e => e))
  clear k0 p0 w0 hm hb hw h F
  unfold nodeV spanV Cfg.v at *
  go_enter Tryz.func61, Tryz.ntmps61
  go_wp2_with fail
  generalize hW0 : w.alloc (.cells #[.string lo, .string hi', .bool top] 44) = y0 at *
  generalize hgp : w.heap.size = gp at *
  clear hW0
  refine hld.mono ?_
  rintro e y1 ⟨rfl, r', s', hS1, hk1⟩
  have W1 := Hd.mk (W0.out.keep hk1 hgw)
  have P1 := Hd.mk (P0.out.keep hk1 hpf)
  have M1 := Hd.mk (M0.out.keeps hk1 hgm)
  have B1 := Hd.mk (B0.out.keep hk1 hgt)
  have K1 := Hd.mk (K0.out.trans hk1 (U := SFoot S) (fun _ _ e => e.elim) (fun _ _ e => e))
  have S1 := Hd.mk hS1
  clear hld hS1 hk1 W0 P0 M0 B0 K0 v0
  go_wp2_with fail
  have n2 := Blk.new y1 42 #[.int .i64 0, nilV, nilV, nilV, nilV]
  have kA := (Keeps.refl (fun _ => False) y1).alloc (.cells #[.int .i64 0, nilV, nilV, nilV, nilV] 42)
  have zn : gp < y1.heap.size := P1.out.lt
  have zt : gt < y1.heap.size := B1.out.lt
  have zm : gm < y1.heap.size := M1.out.lt
  have zw : gw < y1.heap.size := W1.out.lt
  have zS : ¬ SFoot S y1.heap.size := fun e => Nat.lt_irrefl _ (S1.out.foot_lt e)
  generalize hW2 : y1.alloc (.cells #[.int .i64 0, nilV, nilV, nilV, nilV] 42) = y2 at *
  generalize hgn : y1.heap.size = gn at *
  clear hW2 hgn
  have W2 := Hd.mk (W1.out.keep kA (fun e => e))
  have P2 := Hd.mk (P1.out.keep kA (fun e => e))
  have M2 := Hd.mk (M1.out.keeps kA (fun e => e))
  have B2 := Hd.mk (B1.out.keep kA (fun e => e))
  have K2 := Hd.mk (K1.out.trans kA (U := SFoot S) (fun _ _ e => e) (fun _ _ e => e.elim))
  have S2 := Hd.mk (S1.out.keep0 kA)
  have N2 := Hd.mk n2
  clear kA n2 W1 P1 M1 B1 K1 S1
  obtain ⟨v0, v1, v2, v3⟩ := W2.out.four
  obtain ⟨n0, n1, n2, n3, n4⟩ := N2.out.five
  obtain ⟨p0, p1, p2⟩ := P2.out.three
  have hm0 : IsSeen y2.drew gm (fun _ => false) := M2.out
  have hs0 : IsShelf y2.drew S c k L H r' s' := S2.out.keep0 (Keeps.refl _ y2).drew
  have hk0 : Keeps (fun _ => False) y2 y2.drew := (Keeps.refl _ y2).drew
  refine wp_region_held_drew (S := (fun w' => w'.cell? ⟨gw, 0, none⟩ = some (.pointer (some ⟨S.gs, 0, none⟩)) ∧ w'.cell? ⟨gw, 1, none⟩ = some (.map (some gm)) ∧ w'.cell? ⟨gw, 2, none⟩ = some (.func (.func 71) #[] #[.pointer (some ⟨gt, 0, none⟩)]) ∧ w'.cell? ⟨gw, 3, none⟩ = some (.bool false) ∧ w'.cell? ⟨gn, 0, none⟩ = some (.int .i64 0) ∧ w'.cell? ⟨gn, 1, none⟩ = some (nilV) ∧ w'.cell? ⟨gn, 2, none⟩ = some (nilV) ∧ w'.cell? ⟨gn, 3, none⟩ = some (nilV) ∧ w'.cell? ⟨gn, 4, none⟩ = some (nilV) ∧ w'.cell? ⟨gp, 0, none⟩ = some (.string lo) ∧ w'.cell? ⟨gp, 1, none⟩ = some (.string hi') ∧ w'.cell? ⟨gp, 2, none⟩ = some (.bool top) ∧ IsSeen w' gm (fun _ => false) ∧ IsShelf w' S c k L H r' s' ∧ Keeps (fun _ => False) y2 w')) (by kernel_rfl) (by go_keep) (fun hHeld => ?_)
  refine wpAnyH_take (i := 0) (oi := ⟨_, _, _, _, _, _⟩) (v := _) rfl (by kernel_rfl) (by kernel_rfl) (by kernel_rfl) (fun _ _ _ h => h) (Or.inl ⟨by rfl, fun _ _ => rfl⟩) hHeld ?_
  (try simp only [Act.put, Act.eval, List.setIfInBounds_toArray, List.set_cons_zero, List.set_cons_succ, List.getElem?_toArray, List.getElem?_cons_succ, List.getElem?_cons_zero, Array.getD_eq_getD_getElem?, Option.getD_some])
  refine wpAnyH_take (i := 1) (oi := ⟨_, _, _, _, _, _⟩) (v := _) rfl (by kernel_rfl) (by kernel_rfl) (by kernel_rfl) (fun _ _ _ h => h) (Or.inl ⟨by rfl, fun _ _ => rfl⟩) hHeld ?_
  (try simp only [Act.put, Act.eval, List.setIfInBounds_toArray, List.set_cons_zero, List.set_cons_succ, List.getElem?_toArray, List.getElem?_cons_succ, List.getElem?_cons_zero, Array.getD_eq_getD_getElem?, Option.getD_some])
  refine wpAnyH_take (i := 2) (oi := ⟨_, _, _, _, _, _⟩) (v := _) rfl (by kernel_rfl) (by kernel_rfl) (by kernel_rfl) (fun _ _ _ h => h) (Or.inl ⟨by rfl, fun _ _ => rfl⟩) hHeld ?_
  (try simp only [Act.put, Act.eval, List.setIfInBounds_toArray, List.set_cons_zero, List.set_cons_succ, List.getElem?_toArray, List.getElem?_cons_succ, List.getElem?_cons_zero, Array.getD_eq_getD_getElem?, Option.getD_some])
  refine wpAnyH_take (i := 3) (oi := ⟨_, _, _, _, _, _⟩) (v := ?v3) rfl (by kernel_rfl) (by kernel_rfl) (by kernel_rfl) (fun _ _ _ h => h) (Or.inl ⟨by rfl, ?hy3⟩) hHeld ?rest3
  case hy3 => ((intro w hSw; (try dsimp only at hSw); go_simp) <;> try with_reducible rfl)
  (try simp only [Act.put, Act.eval, List.setIfInBounds_toArray, List.set_cons_zero, List.set_cons_succ, List.getElem?_toArray, List.getElem?_cons_succ, List.getElem?_cons_zero, Array.getD_eq_getD_getElem?, Option.getD_some])
  refine wpAnyH_take (i := 4) (oi := ⟨_, _, _, _, _, _⟩) (v := _) rfl (by kernel_rfl) (by kernel_rfl) (by kernel_rfl) (fun _ _ _ h => h) (Or.inl ⟨by rfl, fun _ _ => rfl⟩) hHeld ?_
  (try simp only [Act.put, Act.eval, List.setIfInBounds_toArray, List.set_cons_zero, List.set_cons_succ, List.getElem?_toArray, List.getElem?_cons_succ, List.getElem?_cons_zero, Array.getD_eq_getD_getElem?, Option.getD_some])
  refine wpAnyH_take (i := 5) (oi := ⟨_, _, _, _, _, _⟩) (v := (.bool false)) rfl (by kernel_rfl) (by kernel_rfl) (by kernel_rfl) (fun _ _ _ h => h) (Or.inl ⟨by rfl, fun w hSw => by have hsl := seen_look hSw.2.2.2.2.2.2.2.2.2.2.2.2.1 (i := i) (by omega); go_simp⟩) hHeld ?_
  (try simp only [Act.put, Act.eval, List.setIfInBounds_toArray, List.set_cons_zero, List.set_cons_succ, List.getElem?_toArray, List.getElem?_cons_succ, List.getElem?_cons_zero, Array.getD_eq_getD_getElem?, Option.getD_some])
  refine wpAnyH_take (i := 6) (oi := ⟨_, _, _, _, _, _⟩) (v := _) rfl (by kernel_rfl) (by kernel_rfl) (by kernel_rfl) (fun _ _ _ h => h) (Or.inl ⟨by rfl, fun _ _ => rfl⟩) hHeld ?_
  (try simp only [Act.put, Act.eval, List.setIfInBounds_toArray, List.set_cons_zero, List.set_cons_succ, List.getElem?_toArray, List.getElem?_cons_succ, List.getElem?_cons_zero, Array.getD_eq_getD_getElem?, Option.getD_some])
  refine wpAnyH_take (i := 7) (oi := ⟨_, _, _, _, _, _⟩) (v := _) rfl (by kernel_rfl) (by kernel_rfl) (by kernel_rfl) (fun _ _ _ h => h) (Or.inl ⟨by rfl, fun _ _ => rfl⟩) hHeld ?_
  (try simp only [Act.put, Act.eval, List.setIfInBounds_toArray, List.set_cons_zero, List.set_cons_succ, List.getElem?_toArray, List.getElem?_cons_succ, List.getElem?_cons_zero, Array.getD_eq_getD_getElem?, Option.getD_some])
  refine wpAnyH_take (i := 8) (oi := ⟨_, _, _, _, _, _⟩) (v := _) rfl (by kernel_rfl) (by kernel_rfl) (by kernel_rfl) (fun _ _ _ h => h) (Or.inl ⟨by rfl, fun _ _ => rfl⟩) hHeld ?_
  (try simp only [Act.put, Act.eval, List.setIfInBounds_toArray, List.set_cons_zero, List.set_cons_succ, List.getElem?_toArray, List.getElem?_cons_succ, List.getElem?_cons_zero, Array.getD_eq_getD_getElem?, Option.getD_some])
  refine wpAnyH_take (i := 9) (oi := ⟨_, _, _, _, _, _⟩) (v := _) rfl (by kernel_rfl) (by kernel_rfl) (by kernel_rfl) (fun _ _ _ h => h) (Or.inl ⟨by rfl, fun _ _ => rfl⟩) hHeld ?_
  (try simp only [Act.put, Act.eval, List.setIfInBounds_toArray, List.set_cons_zero, List.set_cons_succ, List.getElem?_toArray, List.getElem?_cons_succ, List.getElem?_cons_zero, Array.getD_eq_getD_getElem?, Option.getD_some])
  refine wpAnyH_take (i := 10) (oi := ⟨_, _, _, _, _, _⟩) (v := undef) rfl (by kernel_rfl) (by kernel_rfl) (by kernel_rfl) (fun _ _ _ h => h) (Or.inr ⟨by rfl, rfl⟩) hHeld ?_
  (try simp only [Act.put, Act.eval, List.setIfInBounds_toArray, List.set_cons_zero, List.set_cons_succ, List.getElem?_toArray, List.getElem?_cons_succ, List.getElem?_cons_zero, Array.getD_eq_getD_getElem?, Option.getD_some])
  refine wpAnyH_take (i := 11) (oi := ⟨_, _, _, _, _, _⟩) (v := undef) rfl (by kernel_rfl) (by kernel_rfl) (by kernel_rfl) (fun _ _ _ h => h) (Or.inr ⟨by rfl, rfl⟩) hHeld ?_
  (try simp only [Act.put, Act.eval, List.setIfInBounds_toArray, List.set_cons_zero, List.set_cons_succ, List.getElem?_toArray, List.getElem?_cons_succ, List.getElem?_cons_zero, Array.getD_eq_getD_getElem?, Option.getD_some])
  refine wpAnyH_take (i := 12) (oi := ⟨_, _, _, _, _, _⟩) (v := undef) rfl (by kernel_rfl) (by kernel_rfl) (by kernel_rfl) (fun _ _ _ h => h) (Or.inr ⟨by rfl, rfl⟩) hHeld ?_
  (try simp only [Act.put, Act.eval, List.setIfInBounds_toArray, List.set_cons_zero, List.set_cons_succ, List.getElem?_toArray, List.getElem?_cons_succ, List.getElem?_cons_zero, Array.getD_eq_getD_getElem?, Option.getD_some])
  refine wpAnyH_take (i := 13) (oi := ⟨_, _, _, _, _, _⟩) (v := undef) rfl (by kernel_rfl) (by kernel_rfl) (by kernel_rfl) (fun _ _ _ h => h) (Or.inr ⟨by rfl, rfl⟩) hHeld ?_
  (try simp only [Act.put, Act.eval, List.setIfInBounds_toArray, List.set_cons_zero, List.set_cons_succ, List.getElem?_toArray, List.getElem?_cons_succ, List.getElem?_cons_zero, Array.getD_eq_getD_getElem?, Option.getD_some])
  refine wpAnyH_take (i := 14) (oi := ⟨_, _, _, _, _, _⟩) (v := _) rfl (by kernel_rfl) (by kernel_rfl) (by kernel_rfl) (fun _ _ _ h => h) (Or.inl ⟨by rfl, fun _ _ => rfl⟩) hHeld ?_
  (try simp only [Act.put, Act.eval, List.setIfInBounds_toArray, List.set_cons_zero, List.set_cons_succ, List.getElem?_toArray, List.getElem?_cons_succ, List.getElem?_cons_zero, Array.getD_eq_getD_getElem?, Option.getD_some])
  refine wpAnyH_take (i := 15) (oi := ⟨_, _, _, _, _, _⟩) (v := _) rfl (by kernel_rfl) (by kernel_rfl) (by kernel_rfl) (fun _ _ _ h => h) (Or.inl ⟨by rfl, fun _ _ => rfl⟩) hHeld ?_
  (try simp only [Act.put, Act.eval, List.setIfInBounds_toArray, List.set_cons_zero, List.set_cons_succ, List.getElem?_toArray, List.getElem?_cons_succ, List.getElem?_cons_zero, Array.getD_eq_getD_getElem?, Option.getD_some])
  refine wpAnyH_take (i := 16) (oi := ⟨_, _, _, _, _, _⟩) (v := _) rfl (by kernel_rfl) (by kernel_rfl) (by kernel_rfl) (fun _ _ _ h => h) (Or.inl ⟨by rfl, fun _ _ => rfl⟩) hHeld ?_
  (try simp only [Act.put, Act.eval, List.setIfInBounds_toArray, List.set_cons_zero, List.set_cons_succ, List.getElem?_toArray, List.getElem?_cons_succ, List.getElem?_cons_zero, Array.getD_eq_getD_getElem?, Option.getD_some])
  refine wpAnyH_take (i := 17) (oi := ⟨_, _, _, _, _, _⟩) (v := _) rfl (by kernel_rfl) (by kernel_rfl) (by kernel_rfl) (fun _ _ _ h => h) (Or.inl ⟨by rfl, fun _ _ => rfl⟩) hHeld ?_
  (try simp only [Act.put, Act.eval, List.setIfInBounds_toArray, List.set_cons_zero, List.set_cons_succ, List.getElem?_toArray, List.getElem?_cons_succ, List.getElem?_cons_zero, Array.getD_eq_getD_getElem?, Option.getD_some])
  refine wpAnyH_take (i := 18) (oi := ⟨_, _, _, _, _, _⟩) (v := _) rfl (by kernel_rfl) (by kernel_rfl) (by kernel_rfl) (fun _ _ _ h => h) (Or.inl ⟨by rfl, fun _ _ => rfl⟩) hHeld ?_
  (try simp only [Act.put, Act.eval, List.setIfInBounds_toArray, List.set_cons_zero, List.set_cons_succ, List.getElem?_toArray, List.getElem?_cons_succ, List.getElem?_cons_zero, Array.getD_eq_getD_getElem?, Option.getD_some])
  refine wpAnyH_take (i := 19) (oi := ⟨_, _, _, _, _, _⟩) (v := _) rfl (by kernel_rfl) (by kernel_rfl) (by kernel_rfl) (fun _ _ _ h => h) (Or.inl ⟨by rfl, fun _ _ => rfl⟩) hHeld ?_
  (try simp only [Act.put, Act.eval, List.setIfInBounds_toArray, List.set_cons_zero, List.set_cons_succ, List.getElem?_toArray, List.getElem?_cons_succ, List.getElem?_cons_zero, Array.getD_eq_getD_getElem?, Option.getD_some])
  refine wpAnyH_take (i := 20) (oi := ⟨_, _, _, _, _, _⟩) (v := ?v20) rfl (by kernel_rfl) (by kernel_rfl) (by kernel_rfl) (fun _ _ _ h => h) (Or.inl ⟨by rfl, ?hy20⟩) hHeld ?rest20
  case hy20 => ((intro w hSw; (try dsimp only at hSw); go_simp) <;> try with_reducible rfl)
  (try simp only [Act.put, Act.eval, List.setIfInBounds_toArray, List.set_cons_zero, List.set_cons_succ, List.getElem?_toArray, List.getElem?_cons_succ, List.getElem?_cons_zero, Array.getD_eq_getD_getElem?, Option.getD_some])
  refine wpAnyH_take (i := 22) (oi := ⟨_, _, _, _, _, _⟩) (v := ?v22) rfl (by kernel_rfl) (by kernel_rfl) (by kernel_rfl) (fun _ _ _ h => h) (Or.inl ⟨by rfl, ?hy22⟩) hHeld ?rest22
  case hy22 => ((intro w hSw; (try dsimp only at hSw); go_simp) <;> try with_reducible rfl)
  (try simp only [Act.put, Act.eval, List.setIfInBounds_toArray, List.set_cons_zero, List.set_cons_succ, List.getElem?_toArray, List.getElem?_cons_succ, List.getElem?_cons_zero, Array.getD_eq_getD_getElem?, Option.getD_some])
  refine wpAnyH_take (i := 23) (oi := ⟨_, _, _, _, _, _⟩) (v := ?v23) rfl (by kernel_rfl) (by kernel_rfl) (by kernel_rfl) (fun _ _ _ h => h) (Or.inl ⟨by rfl, ?hy23⟩) hHeld ?rest23
  case hy23 => ((intro w hSw; (try dsimp only at hSw); go_simp) <;> try with_reducible rfl)
  (try simp only [Act.put, Act.eval, List.setIfInBounds_toArray, List.set_cons_zero, List.set_cons_succ, List.getElem?_toArray, List.getElem?_cons_succ, List.getElem?_cons_zero, Array.getD_eq_getD_getElem?, Option.getD_some])
  refine wpAnyH_ready (rs := [21]) (by kernel_rfl) (by simp) ?_
  refine AllReadyH.cons (o := ⟨_, _, _, _, _, _⟩) rfl (fun K hK => ?_) AllReadyH.nil
  go_simp
  (go_at_call 48; refine (shelf_config hHeld.2.2.2.2.2.2.2.2.2.2.2.2.2.1).mono ?_; rintro e w' ⟨rfl, hm⟩)
  go_wp2_with fail
  refine hK.out _ _ ⟨hm.at_ hHeld.1, hm.at_ hHeld.2.1, hm.at_ hHeld.2.2.1, hm.at_ hHeld.2.2.2.1, hm.at_ hHeld.2.2.2.2.1, hm.at_ hHeld.2.2.2.2.2.1, hm.at_ hHeld.2.2.2.2.2.2.1, hm.at_ hHeld.2.2.2.2.2.2.2.1, hm.at_ hHeld.2.2.2.2.2.2.2.2.1, hm.at_ hHeld.2.2.2.2.2.2.2.2.2.1, hm.at_ hHeld.2.2.2.2.2.2.2.2.2.2.1, hm.at_ hHeld.2.2.2.2.2.2.2.2.2.2.2.1, hHeld.2.2.2.2.2.2.2.2.2.2.2.2.1.keeps hm (fun e => e), hHeld.2.2.2.2.2.2.2.2.2.2.2.2.2.1.keep0 hm, hHeld.2.2.2.2.2.2.2.2.2.2.2.2.2.2.false_ hm⟩ (fun hHeld => ?_)
  clear hK K
  (try simp only [Act.put, Act.eval, List.setIfInBounds_toArray, List.set_cons_zero, List.set_cons_succ, List.getElem?_toArray, List.getElem?_cons_succ, List.getElem?_cons_zero, Array.getD_eq_getD_getElem?, Option.getD_some])
  refine wpAnyH_ready (rs := [24]) (by kernel_rfl) (by simp) ?_
  refine AllReadyH.cons (o := ⟨_, _, _, _, _, _⟩) rfl (fun K hK => ?_) AllReadyH.nil
  go_simp
  (go_at_call 118; refine (HR w' lo hi' top).mono ?_; rintro e w'' ⟨rfl, hm⟩)
  go_wp2_with fail
  refine hK.out _ _ ⟨hm.at_ hHeld.1, hm.at_ hHeld.2.1, hm.at_ hHeld.2.2.1, hm.at_ hHeld.2.2.2.1, hm.at_ hHeld.2.2.2.2.1, hm.at_ hHeld.2.2.2.2.2.1, hm.at_ hHeld.2.2.2.2.2.2.1, hm.at_ hHeld.2.2.2.2.2.2.2.1, hm.at_ hHeld.2.2.2.2.2.2.2.2.1, hm.at_ hHeld.2.2.2.2.2.2.2.2.2.1, hm.at_ hHeld.2.2.2.2.2.2.2.2.2.2.1, hm.at_ hHeld.2.2.2.2.2.2.2.2.2.2.2.1, hHeld.2.2.2.2.2.2.2.2.2.2.2.2.1.keeps hm (fun e => e), hHeld.2.2.2.2.2.2.2.2.2.2.2.2.2.1.keep0 hm, hHeld.2.2.2.2.2.2.2.2.2.2.2.2.2.2.false_ hm⟩ (fun hHeld => ?_)
  clear hK K
  (try simp only [Act.put, Act.eval, List.setIfInBounds_toArray, List.set_cons_zero, List.set_cons_succ, List.getElem?_toArray, List.getElem?_cons_succ, List.getElem?_cons_zero, Array.getD_eq_getD_getElem?, Option.getD_some])
  refine wpAnyH_take (i := 25) (oi := ⟨_, _, _, _, _, _⟩) (v := _) rfl (by kernel_rfl) (by kernel_rfl) (by kernel_rfl) (fun _ _ _ h => h) (Or.inl ⟨by rfl, fun _ _ => rfl⟩) hHeld ?_
  (try simp only [Act.put, Act.eval, List.setIfInBounds_toArray, List.set_cons_zero, List.set_cons_succ, List.getElem?_toArray, List.getElem?_cons_succ, List.getElem?_cons_zero, Array.getD_eq_getD_getElem?, Option.getD_some])
  refine wpAnyH_take (i := 26) (oi := ⟨_, _, _, _, _, _⟩) (v := _) rfl (by kernel_rfl) (by kernel_rfl) (by kernel_rfl) (fun _ _ _ h => h) (Or.inl ⟨by rfl, fun _ _ => rfl⟩) hHeld ?_
  (try simp only [Act.put, Act.eval, List.setIfInBounds_toArray, List.set_cons_zero, List.set_cons_succ, List.getElem?_toArray, List.getElem?_cons_succ, List.getElem?_cons_zero, Array.getD_eq_getD_getElem?, Option.getD_some])
  refine wpAnyH_take (i := 27) (oi := ⟨_, _, _, _, _, _⟩) (v := _) rfl (by kernel_rfl) (by kernel_rfl) (by kernel_rfl) (fun _ _ _ h => h) (Or.inl ⟨by rfl, fun _ _ => rfl⟩) hHeld ?_
  (try simp only [Act.put, Act.eval, List.setIfInBounds_toArray, List.set_cons_zero, List.set_cons_succ, List.getElem?_toArray, List.getElem?_cons_succ, List.getElem?_cons_zero, Array.getD_eq_getD_getElem?, Option.getD_some])
  refine wpAnyH_done (by kernel_rfl) ?_ _
  clear v0 v1 v2 v3 n0 n1 n2 n3 n4 p0 p1 p2 hm0 hs0 hk0
  have kk : Keeps (fun _ => False) y2 w'' := hHeld.2.2.2.2.2.2.2.2.2.2.2.2.2.2
  clear hHeld
  have M3 := M2.out.keeps kk (fun e => e)
  have hk3 := kk
  have W3 := Hd.mk (W2.out.keep hk3 (fun e => e))
  obtain ⟨v0, v1, v2, v3⟩ := W3.out.four
  go_wp2_with (refine wpList_seen_put rfl _ _ _ rfl gm (fun _ => false) M3 i hib rfl rfl rfl ?_)
  intro y3 hM4 hk4
  have kT := hk3.trans hk4 (U := fun x => x = gm) (fun _ _ e => e.elim) (fun _ _ e => e)
  have W4 := Hd.mk (W2.out.keep kT (fun e => hn4 e.symm))
  have P4 := Hd.mk (P2.out.keep kT (fun e => hn2 e.symm))
  have B4 := Hd.mk (B2.out.keep kT (fun e => hn5 e.symm))
  have N4 := Hd.mk (N2.out.keep kT (fun e => by omega))
  have K4 := Hd.mk (K2.out.trans kT (U := fun x => SFoot S x ∨ x = gm) (fun _ _ e => .inl e) (fun _ _ e => .inr e))
  have S4 := Hd.mk (S2.out.keep kT (fun x hx e => hgm (e ▸ hx)) (fun x e => by subst e; rw [M2.out.tag]; decide) (fun e => M2.out.ne_tab S2.out.pool.2.2 e.symm))
  clear v0 v1 v2 v3 kk hk3 M3 hM4 hk4 kT W2 P2 B2 N2 K2 S2 M2 W3
  obtain ⟨v0, v1, v2, v3⟩ := W4.out.four
  obtain ⟨n0, n1, n2, n3, n4⟩ := N4.out.five
  obtain ⟨p0, p1, p2⟩ := P4.out.three
  have hn8 : gn ≠ gt := by omega
  have hk0 : Keeps (fun x => x = gt) y3 y3.drew := (Keeps.refl _ y3).drew
  go_wp2_with fail
  refine wp_region_held_drew (S := (fun w' => w'.cell? ⟨gw, 0, none⟩ = some (.pointer (some ⟨S.gs, 0, none⟩)) ∧ w'.cell? ⟨gw, 1, none⟩ = some (.map (some gm)) ∧ w'.cell? ⟨gw, 2, none⟩ = some (.func (.func 71) #[] #[.pointer (some ⟨gt, 0, none⟩)]) ∧ w'.cell? ⟨gw, 3, none⟩ = some (.bool false) ∧ w'.cell? ⟨gn, 0, none⟩ = some (.int .i64 0) ∧ w'.cell? ⟨gn, 1, none⟩ = some (nilV) ∧ w'.cell? ⟨gn, 2, none⟩ = some (nilV) ∧ w'.cell? ⟨gn, 3, none⟩ = some (nilV) ∧ w'.cell? ⟨gn, 4, none⟩ = some (nilV) ∧ w'.cell? ⟨gp, 0, none⟩ = some (.string lo) ∧ w'.cell? ⟨gp, 1, none⟩ = some (.string hi') ∧ w'.cell? ⟨gp, 2, none⟩ = some (.bool top) ∧ Keeps (fun x => x = gt) y3 w')) (by kernel_rfl) (by go_keep) (fun hHeld => ?_)
  refine wpAnyH_take (i := 0) (oi := ⟨_, _, _, _, _, _⟩) (v := _) rfl (by kernel_rfl) (by kernel_rfl) (by kernel_rfl) (fun _ _ _ h => h) (Or.inl ⟨by rfl, fun _ _ => rfl⟩) hHeld ?_
  (try simp only [Act.put, Act.eval, List.setIfInBounds_toArray, List.set_cons_zero, List.set_cons_succ, List.getElem?_toArray, List.getElem?_cons_succ, List.getElem?_cons_zero, Array.getD_eq_getD_getElem?, Option.getD_some])
  refine wpAnyH_take (i := 1) (oi := ⟨_, _, _, _, _, _⟩) (v := _) rfl (by kernel_rfl) (by kernel_rfl) (by kernel_rfl) (fun _ _ _ h => h) (Or.inl ⟨by rfl, fun _ _ => rfl⟩) hHeld ?_
  (try simp only [Act.put, Act.eval, List.setIfInBounds_toArray, List.set_cons_zero, List.set_cons_succ, List.getElem?_toArray, List.getElem?_cons_succ, List.getElem?_cons_zero, Array.getD_eq_getD_getElem?, Option.getD_some])
  refine wpAnyH_take (i := 2) (oi := ⟨_, _, _, _, _, _⟩) (v := _) rfl (by kernel_rfl) (by kernel_rfl) (by kernel_rfl) (fun _ _ _ h => h) (Or.inl ⟨by rfl, fun _ _ => rfl⟩) hHeld ?_
  (try simp only [Act.put, Act.eval, List.setIfInBounds_toArray, List.set_cons_zero, List.set_cons_succ, List.getElem?_toArray, List.getElem?_cons_succ, List.getElem?_cons_zero, Array.getD_eq_getD_getElem?, Option.getD_some])
  refine wpAnyH_take (i := 3) (oi := ⟨_, _, _, _, _, _⟩) (v := ?vb3) rfl (by kernel_rfl) (by kernel_rfl) (by kernel_rfl) (fun _ _ _ h => h) (Or.inl ⟨by rfl, ?hyb3⟩) hHeld ?restb3
  case hyb3 => ((intro w hSw; (try dsimp only at hSw); go_simp) <;> try with_reducible rfl)
  (try simp only [Act.put, Act.eval, List.setIfInBounds_toArray, List.set_cons_zero, List.set_cons_succ, List.getElem?_toArray, List.getElem?_cons_succ, List.getElem?_cons_zero, Array.getD_eq_getD_getElem?, Option.getD_some])
  refine wpAnyH_take (i := 4) (oi := ⟨_, _, _, _, _, _⟩) (v := _) rfl (by kernel_rfl) (by kernel_rfl) (by kernel_rfl) (fun _ _ _ h => h) (Or.inl ⟨by rfl, fun _ _ => rfl⟩) hHeld ?_
  (try simp only [Act.put, Act.eval, List.setIfInBounds_toArray, List.set_cons_zero, List.set_cons_succ, List.getElem?_toArray, List.getElem?_cons_succ, List.getElem?_cons_zero, Array.getD_eq_getD_getElem?, Option.getD_some])
  refine wpAnyH_take (i := 5) (oi := ⟨_, _, _, _, _, _⟩) (v := _) rfl (by kernel_rfl) (by kernel_rfl) (by kernel_rfl) (fun _ _ _ h => h) (Or.inl ⟨by rfl, fun _ _ => rfl⟩) hHeld ?_
  (try simp only [Act.put, Act.eval, List.setIfInBounds_toArray, List.set_cons_zero, List.set_cons_succ, List.getElem?_toArray, List.getElem?_cons_succ, List.getElem?_cons_zero, Array.getD_eq_getD_getElem?, Option.getD_some])
  refine wpAnyH_take (i := 6) (oi := ⟨_, _, _, _, _, _⟩) (v := _) rfl (by kernel_rfl) (by kernel_rfl) (by kernel_rfl) (fun _ _ _ h => h) (Or.inl ⟨by rfl, fun _ _ => rfl⟩) hHeld ?_
  (try simp only [Act.put, Act.eval, List.setIfInBounds_toArray, List.set_cons_zero, List.set_cons_succ, List.getElem?_toArray, List.getElem?_cons_succ, List.getElem?_cons_zero, Array.getD_eq_getD_getElem?, Option.getD_some])
  refine wpAnyH_take (i := 7) (oi := ⟨_, _, _, _, _, _⟩) (v := _) rfl (by kernel_rfl) (by kernel_rfl) (by kernel_rfl) (fun _ _ _ h => h) (Or.inl ⟨by rfl, fun _ _ => rfl⟩) hHeld ?_
  (try simp only [Act.put, Act.eval, List.setIfInBounds_toArray, List.set_cons_zero, List.set_cons_succ, List.getElem?_toArray, List.getElem?_cons_succ, List.getElem?_cons_zero, Array.getD_eq_getD_getElem?, Option.getD_some])
  refine wpAnyH_take (i := 8) (oi := ⟨_, _, _, _, _, _⟩) (v := _) rfl (by kernel_rfl) (by kernel_rfl) (by kernel_rfl) (fun _ _ _ h => h) (Or.inl ⟨by rfl, fun _ _ => rfl⟩) hHeld ?_
  (try simp only [Act.put, Act.eval, List.setIfInBounds_toArray, List.set_cons_zero, List.set_cons_succ, List.getElem?_toArray, List.getElem?_cons_succ, List.getElem?_cons_zero, Array.getD_eq_getD_getElem?, Option.getD_some])
  refine wpAnyH_take (i := 9) (oi := ⟨_, _, _, _, _, _⟩) (v := ?vb9) rfl (by kernel_rfl) (by kernel_rfl) (by kernel_rfl) (fun _ _ _ h => h) (Or.inl ⟨by rfl, ?hyb9⟩) hHeld ?restb9
  case hyb9 => ((intro w hSw; (try dsimp only at hSw); go_simp) <;> try with_reducible rfl)
  (try simp only [Act.put, Act.eval, List.setIfInBounds_toArray, List.set_cons_zero, List.set_cons_succ, List.getElem?_toArray, List.getElem?_cons_succ, List.getElem?_cons_zero, Array.getD_eq_getD_getElem?, Option.getD_some])
  refine wpAnyH_take (i := 10) (oi := ⟨_, _, _, _, _, _⟩) (v := _) rfl (by kernel_rfl) (by kernel_rfl) (by kernel_rfl) (fun _ _ _ h => h) (Or.inl ⟨by rfl, fun _ _ => rfl⟩) hHeld ?_
  (try simp only [Act.put, Act.eval, List.setIfInBounds_toArray, List.set_cons_zero, List.set_cons_succ, List.getElem?_toArray, List.getElem?_cons_succ, List.getElem?_cons_zero, Array.getD_eq_getD_getElem?, Option.getD_some])
  refine wpAnyH_take (i := 11) (oi := ⟨_, _, _, _, _, _⟩) (v := ?vb11) rfl (by kernel_rfl) (by kernel_rfl) (by kernel_rfl) (fun _ _ _ h => h) (Or.inl ⟨by rfl, ?hyb11⟩) hHeld ?restb11
  case hyb11 => ((intro w hSw; (try dsimp only at hSw); go_simp) <;> try with_reducible rfl)
  (try simp only [Act.put, Act.eval, List.setIfInBounds_toArray, List.set_cons_zero, List.set_cons_succ, List.getElem?_toArray, List.getElem?_cons_succ, List.getElem?_cons_zero, Array.getD_eq_getD_getElem?, Option.getD_some])
  refine wpAnyH_take (i := 13) (oi := ⟨_, _, _, _, _, _⟩) (v := ?vb13) rfl (by kernel_rfl) (by kernel_rfl) (by kernel_rfl) (fun _ _ _ h => h) (Or.inl ⟨by rfl, ?hyb13⟩) hHeld ?restb13
  case hyb13 => ((intro w hSw; (try dsimp only at hSw); go_simp) <;> try with_reducible rfl)
  (try simp only [Act.put, Act.eval, List.setIfInBounds_toArray, List.set_cons_zero, List.set_cons_succ, List.getElem?_toArray, List.getElem?_cons_succ, List.getElem?_cons_zero, Array.getD_eq_getD_getElem?, Option.getD_some])
  refine wpAnyH_ready (rs := [12]) (by kernel_rfl) (by simp) ?_
  refine AllReadyH.cons (o := ⟨_, _, _, _, _, _⟩) rfl (fun K hK => ?_) AllReadyH.nil
  go_simp
  (go_at_call 119; refine (node_clone_none 0).mono ?_; rintro e w' ⟨rfl, hc1⟩)
  go_wp2_with fail
  refine hK.out _ _ ⟨hc1.at_ hHeld.1, hc1.at_ hHeld.2.1, hc1.at_ hHeld.2.2.1, hc1.at_ hHeld.2.2.2.1, hc1.at_ hHeld.2.2.2.2.1, hc1.at_ hHeld.2.2.2.2.2.1, hc1.at_ hHeld.2.2.2.2.2.2.1, hc1.at_ hHeld.2.2.2.2.2.2.2.1, hc1.at_ hHeld.2.2.2.2.2.2.2.2.1, hc1.at_ hHeld.2.2.2.2.2.2.2.2.2.1, hc1.at_ hHeld.2.2.2.2.2.2.2.2.2.2.1, hc1.at_ hHeld.2.2.2.2.2.2.2.2.2.2.2.1, hHeld.2.2.2.2.2.2.2.2.2.2.2.2.trans hc1 (fun _ _ e => e) (fun _ _ e => e.elim)⟩ (fun hHeld => ?_)
  clear hK K
  (try simp only [Act.put, Act.eval, List.setIfInBounds_toArray, List.set_cons_zero, List.set_cons_succ, List.getElem?_toArray, List.getElem?_cons_succ, List.getElem?_cons_zero, Array.getD_eq_getD_getElem?, Option.getD_some])
  refine wpAnyH_ready (rs := [14]) (by kernel_rfl) (by simp) ?_
  refine AllReadyH.cons (o := ⟨_, _, _, _, _, _⟩) rfl (fun K hK => ?_) AllReadyH.nil
  go_simp
  (go_at_call 71; refine (look_tell_leaf gt (B4.out.drew.keep hc1 (fun e => e)) i lo hi' top).mono ?_; rintro e w'' ⟨rfl, hb5, hc2⟩)
  go_wp2_with fail
  refine hK.out _ _ ⟨hc2.atT hHeld.1 hn6, hc2.atT hHeld.2.1 hn6, hc2.atT hHeld.2.2.1 hn6, hc2.atT hHeld.2.2.2.1 hn6, hc2.atT hHeld.2.2.2.2.1 hn8, hc2.atT hHeld.2.2.2.2.2.1 hn8, hc2.atT hHeld.2.2.2.2.2.2.1 hn8, hc2.atT hHeld.2.2.2.2.2.2.2.1 hn8, hc2.atT hHeld.2.2.2.2.2.2.2.2.1 hn8, hc2.atT hHeld.2.2.2.2.2.2.2.2.2.1 (Ne.symm hn3), hc2.atT hHeld.2.2.2.2.2.2.2.2.2.2.1 (Ne.symm hn3), hc2.atT hHeld.2.2.2.2.2.2.2.2.2.2.2.1 (Ne.symm hn3), hHeld.2.2.2.2.2.2.2.2.2.2.2.2.trans hc2 (fun _ _ e => e) (fun _ _ e => e)⟩ (fun hHeld => ?_)
  clear hK K
  (try simp only [Act.put, Act.eval, List.setIfInBounds_toArray, List.set_cons_zero, List.set_cons_succ, List.getElem?_toArray, List.getElem?_cons_succ, List.getElem?_cons_zero, Array.getD_eq_getD_getElem?, Option.getD_some])
  refine wpAnyH_take (i := 15) (oi := ⟨_, _, _, _, _, _⟩) (v := _) rfl (by kernel_rfl) (by kernel_rfl) (by kernel_rfl) (fun _ _ _ h => h) (Or.inl ⟨by rfl, fun _ _ => rfl⟩) hHeld ?_
  (try simp only [Act.put, Act.eval, List.setIfInBounds_toArray, List.set_cons_zero, List.set_cons_succ, List.getElem?_toArray, List.getElem?_cons_succ, List.getElem?_cons_zero, Array.getD_eq_getD_getElem?, Option.getD_some])
  refine wpAnyH_take (i := 16) (oi := ⟨_, _, _, _, _, _⟩) (v := _) rfl (by kernel_rfl) (by kernel_rfl) (by kernel_rfl) (fun _ _ _ h => h) (Or.inl ⟨by rfl, fun _ _ => rfl⟩) hHeld ?_
  (try simp only [Act.put, Act.eval, List.setIfInBounds_toArray, List.set_cons_zero, List.set_cons_succ, List.getElem?_toArray, List.getElem?_cons_succ, List.getElem?_cons_zero, Array.getD_eq_getD_getElem?, Option.getD_some])
  refine wpAnyH_done (by kernel_rfl) ?_ _
  clear v0 v1 v2 v3 n0 n1 n2 n3 n4 p0 p1 p2 hk0
  have kk : Keeps (fun x => x = gt) y3 w'' := hHeld.2.2.2.2.2.2.2.2.2.2.2.2
  clear hHeld
  have K5 := Hd.mk (K4.out.trans kk (U := fun x => SFoot S x ∨ x = gm ∨ x = gt) (fun x _ e => e.elim .inl (fun e => .inr (.inl e))) (fun x _ e => .inr (.inr e)))
  have S5 := Hd.mk (S4.out.keep kk (fun x hx e => hgt (e ▸ hx)) (fun x e => by subst e; rw [B4.out.tag]; decide) (fun e => tab_ne S4.out.pool.2.2 B4.out rfl (fun x e => by injection e with e; cases e) e))
  have B5 := Hd.mk hb5
  have n1 : World.cell? w'' ⟨gn, 1, none⟩ = some nilV := (N4.out.keep kk hn8).cell 1
  clear kk hb5 hc1 hc2
  go_wp2_with fail
  refine wp_loop_rounds 1 ?_
  rw [rounds_succ]
  go_wp2_with fail
  go_ret
  exact ⟨rfl, B5.out, ⟨r', s', S5.out⟩, K5.out⟩

end
end Go.Proofs.Sg
/-! walk: a visit where there is no node; All; Look; Blocks. -/
namespace Go.Proofs.Sg
set_option linter.unusedSimpArgs false
set_option linter.unusedVariables false
open Go.RowKit Go.Lib

section
variable {w w' : World} {c : Cfg}

set_option maxRecDepth 100000 in
set_option maxHeartbeats 2000000 in
theorem visit_err (pv f : Value) (i gw gm : Nat) (n : Int) (lo hi : ByteArray) (top : Bool) (hw : Blk w gw 133 #[pv, .map (some gm), f, .bool false]) (x : Int) (hx : x ≠ 0) (R : World → Prop) (hR : ∀ w1 w2, R w1 → Keeps (fun _ => False) w1 w2 → R w2)
    (hld : Calls Tryz.prog 21 #[pv, .int .u32 i] (w.alloc (.cells #[.string lo, .string hi, .bool top] 44)) fun e w' => e = .returned (.tuple #[nodeV 0 nilV nilV nilV nilV, .int .i64 x]) ∧ R w') :
    Calls Tryz.prog 61 #[.pointer (some ⟨gw, 0, none⟩), .int .u32 i, .int .i64 n, spanV lo hi top] w fun e w' => e = .returned (.int .i64 x) ∧ R w' := by
  have w0 := hw.keep ((Keeps.refl (fun _ => False) w).alloc (.cells #[.string lo, .string hi, .bool top] 44)) (fun e => e)
  have v0 : World.cell? _ ⟨gw, 0, none⟩ = some pv := w0.cell 0
  unfold nodeV spanV at *
  clear hw w0
  go_enter Tryz.func61, Tryz.ntmps61
  go_wp2_with fail
  refine hld.mono ?_
  rintro e y1 ⟨rfl, hk1⟩
  have H1 := Hd.mk hk1
  clear hk1 hld v0
  go_wp2_with fail
  go_ret
  exact ⟨rfl, hR _ _ H1.out ((Keeps.refl _ _).alloc _)⟩

set_option maxRecDepth 100000 in
set_option maxHeartbeats 2000000 in
theorem walk_all (p : Option Addr) (fn : Fn) (f1 f2 : Array Value) (i : Nat) (R : Int → World → Prop)
    (hv : ∀ w' gw gm, Keeps (fun _ => False) w w' → w.heap.size ≤ gw → w.heap.size ≤ gm → Blk w' gw 133 #[.pointer p, .map (some gm), .func fn f1 f2, .bool false] → IsSeen w' gm (fun _ => false) →
      Calls Tryz.prog 61 #[.pointer (some ⟨gw, 0, none⟩), .int .u32 i, .int .i64 (-1), allV] w' fun e w'' => ∃ x, e = .returned (.int .i64 x) ∧ R x w'') :
    Calls Tryz.prog 15 #[.pointer p, .int .u32 i, .func fn f1 f2] w fun e w' => ∃ x, e = .returned (.int .i64 x) ∧ R x w' := by
  have hmm := @run_makeMap Tryz.prog
  have HV := Hd.mk hv
  clear hv
  unfold allV spanV at *
  go_enter Tryz.func15, Tryz.ntmps15
  go_wp2_with fail
  have k0 := ((Keeps.refl (fun _ => False) w).alloc (.map #[] 0)).alloc (.cells #[.pointer p, .map (some w.heap.size), .func fn f1 f2, .bool false] 133)
  have m0 := (seen_new w).keeps ((Keeps.refl (fun _ => False) _).alloc (.cells #[.pointer p, .map (some w.heap.size), .func fn f1 f2, .bool false] 133)) (fun e => e)
  have b0 : Blk ((w.alloc (.map #[] 0)).alloc (.cells #[.pointer p, .map (some w.heap.size), .func fn f1 f2, .bool false] 133)) (w.heap.size + 1) 133 #[.pointer p, .map (some w.heap.size), .func fn f1 f2, .bool false] := by
    simpa using Blk.new (w.alloc (.map #[] 0)) 133 #[.pointer p, .map (some w.heap.size), .func fn f1 f2, .bool false]
  clear hmm
  refine lex_all.mono ?_
  rintro e w1 ⟨rfl, hk⟩
  have hvv := HV.out w1 (w.heap.size + 1) w.heap.size (k0.false_ hk) (by omega) (by omega) (b0.keep hk (fun e => e)) (m0.keeps hk (fun e => e))
  clear k0 m0 b0 hk
  go_wp2_with fail
  refine hvv.mono ?_
  rintro e w2 ⟨x, rfl, hR⟩
  have H := Hd.mk hR
  clear hR hvv
  go_wp2_with fail
  go_ret
  exact ⟨x, rfl, H.out⟩

def repV (a b c d e : Int) : Value := .agg #[.int .i64 a, .int .i64 b, .int .i64 c, .int .i64 d, .int .i64 e]

set_option maxRecDepth 100000 in
set_option maxHeartbeats 2000000 in
theorem look_err (p : Option Addr) (i : Nat) (x : Int) (hx : x ≠ 0) (R : World → Prop) (T : Nat → Prop) (hT : ∀ k, T k → k < w.heap.size) (hR : ∀ w1 w2, R w1 → Keeps (fun _ => False) w1 w2 → R w2)
    (hld : ∀ w0, Keeps (fun _ => False) w w0 → Calls Tryz.prog 21 #[.pointer p, .int .u32 i] w0 fun e w' => e = .returned (.tuple #[nodeV 0 nilV nilV nilV nilV, .int .i64 x]) ∧ R w' ∧ Keeps T w0 w') :
    Calls Tryz.prog 23 #[.pointer p, .int .u32 i] w fun e w' => e = .returned (.tuple #[repV 0 0 0 0 0, .int .i64 x]) ∧ (∃ w1, R w1 ∧ Keeps (fun k => k = w.heap.size) w1 w') ∧ Keeps T w w' := by
  have k0 := ((Keeps.refl (fun _ => False) w).alloc (.cells #[.int .i64 0, .int .i64 0, .int .i64 0, .int .i64 0, .int .i64 0] 60)).alloc (.cells #[.int .i64 0, .int .i64 0, .int .i64 0, .int .i64 0, .int .i64 0] 60)
  have b0 := (Blk.new w 60 #[.int .i64 0, .int .i64 0, .int .i64 0, .int .i64 0, .int .i64 0]).alloc (.cells #[.int .i64 0, .int .i64 0, .int .i64 0, .int .i64 0, .int .i64 0] 60)
  have hal := walk_all (w := (w.alloc (.cells #[.int .i64 0, .int .i64 0, .int .i64 0, .int .i64 0, .int .i64 0] 60)).alloc (.cells #[.int .i64 0, .int .i64 0, .int .i64 0, .int .i64 0, .int .i64 0] 60)) p (.func 71) #[] #[.pointer (some ⟨w.heap.size + 1, 0, none⟩)] i (fun y w' => y = x ∧ R w' ∧ Keeps T ((w.alloc (.cells #[.int .i64 0, .int .i64 0, .int .i64 0, .int .i64 0, .int .i64 0] 60)).alloc (.cells #[.int .i64 0, .int .i64 0, .int .i64 0, .int .i64 0, .int .i64 0] 60)) w')
    (fun w' gw gm hk _ _ hb hm => (visit_err (.pointer p) _ i gw gm (-1) .empty .empty true hb x hx
      (fun w' => R w' ∧ Keeps T ((w.alloc (.cells #[.int .i64 0, .int .i64 0, .int .i64 0, .int .i64 0, .int .i64 0] 60)).alloc (.cells #[.int .i64 0, .int .i64 0, .int .i64 0, .int .i64 0, .int .i64 0] 60)) w')
      (fun w1 w2 h k => ⟨hR _ _ h.1 k, h.2.trans k (fun _ _ e => e) (fun _ _ e => e.elim)⟩)
      ((hld _ ((k0.false_ hk).alloc _)).mono fun e w'' ⟨h1, h2, h3⟩ => ⟨h1, h2, (hk.alloc _).trans h3 (fun _ _ e => e.elim) (fun _ _ e => e)⟩)).mono fun e w'' ⟨h1, h2⟩ => ⟨x, h1, rfl, h2⟩)
  clear hld
  have K0 := Hd.mk k0
  have B0 := Hd.mk b0
  clear k0 b0
  unfold repV
  go_enter Tryz.func23, Tryz.ntmps23
  go_wp2_with fail
  refine hal.mono ?_
  rintro e w1 ⟨y, rfl, rfl, hR1, hk⟩
  have H := Hd.mk hR1
  have K1 := Hd.mk (K0.out.trans hk (U := T) (fun _ _ e => e.elim) (fun _ _ e => e))
  have b1 := B0.out.keep hk (fun e => Nat.lt_irrefl _ (hT _ e))
  obtain ⟨r0, r1, r2, r3, r4⟩ := b1.five
  have f0 := b1.frozen 0
  have f1 := b1.frozen 1
  have f2 := b1.frozen 2
  have f3 := b1.frozen 3
  have f4 := b1.frozen 4
  have B1 := Hd.mk b1
  clear hal hR1 hk b1 B0 K0
  go_wp2_with fail
  have b2 := (((((B1.out.set_ 0 (.int .i64 0)).set_ 1 (.int .i64 0)).set_ 2 (.int .i64 0)).set_ 3 (.int .i64 0)).set_ 4 (.int .i64 0))
  obtain ⟨q0, q1, q2, q3, q4⟩ := Blk.five (by simpa using b2)
  refine bodyPost_ret (v := .tuple #[.agg #[.int .i64 0, .int .i64 0, .int .i64 0, .int .i64 0, .int .i64 0], .int .i64 y]) (by simp [results, Tryz.results23, go_sem, q0, q1, q2, q3, q4]) rfl ⟨rfl, ⟨w1, H.out, ?_⟩, ?_⟩
  · exact (((((Keeps.refl (fun k => k = w.heap.size) w1).setCell (fun _ => rfl) _).setCell (fun _ => rfl) _).setCell (fun _ => rfl) _).setCell (fun _ => rfl) _).setCell (fun _ => rfl) _
  · exact (((((K1.out.setCell (fun e => absurd e (Nat.lt_irrefl _)) _).setCell (fun e => absurd e (Nat.lt_irrefl _)) _).setCell (fun e => absurd e (Nat.lt_irrefl _)) _).setCell (fun e => absurd e (Nat.lt_irrefl _)) _).setCell (fun e => absurd e (Nat.lt_irrefl _)) _)

end
end Go.Proofs.Sg
/-! walk: Blocks where there is no node; Look of a leaf. -/
namespace Go.Proofs.Sg
set_option linter.unusedSimpArgs false
set_option linter.unusedVariables false
open Go.RowKit Go.Lib

section
variable {w w' : World} {c : Cfg}

set_option maxRecDepth 100000 in
set_option maxHeartbeats 2000000 in
theorem blocks_err (p : Option Addr) (i : Nat) (x : Int) (hx : x ≠ 0) (R : World → Prop) (hR : ∀ w1 w2, R w1 → Keeps (fun _ => False) w1 w2 → R w2)
    (hld : ∀ w0, Keeps (fun _ => False) w w0 → Calls Tryz.prog 21 #[.pointer p, .int .u32 i] w0 fun e w' => e = .returned (.tuple #[nodeV 0 nilV nilV nilV nilV, .int .i64 x]) ∧ R w') :
    Calls Tryz.prog 25 #[.pointer p, .int .u32 i] w fun e w' => e = .returned (.tuple #[nilV, .int .i64 x]) ∧ R w' := by
  have k0 := (Keeps.refl (fun _ => False) w).alloc (.cells #[nilV] 39)
  have hal := walk_all (w := w.alloc (.cells #[nilV] 39)) p (.func 72) #[] #[.pointer (some ⟨w.heap.size, 0, none⟩)] i (fun y w' => y = x ∧ R w')
    (fun w' gw gm hk _ _ hb hm => (visit_err (.pointer p) _ i gw gm (-1) .empty .empty true hb x hx R hR (hld _ ((k0.false_ hk).alloc _))).mono fun e w'' ⟨h1, h2⟩ => ⟨x, h1, rfl, h2⟩)
  clear hld k0
  go_enter Tryz.func25, Tryz.ntmps25
  go_wp2_with fail
  refine hal.mono ?_
  rintro e w1 ⟨y, rfl, rfl, hR1⟩
  have H := Hd.mk hR1
  clear hal hR1
  go_wp2_with fail
  go_ret2
  exact ⟨rfl, H.out⟩

set_option maxRecDepth 100000 in
set_option maxHeartbeats 2000000 in
theorem look_leaf {S : SIds} {k : Nat} {L : Nat → List UInt8} {H : Nat → Bool} {r s : Nat} (h : IsShelf w S c k L H r s) (i : Nat) (h0 : 0 < i) (hi : i < c.blocks.toNat) (hz : L i = leafB c) :
    Calls Tryz.prog 23 #[.pointer (some ⟨S.gs, 0, none⟩), .int .u32 i] w fun e w' => e = .returned (.tuple #[repV 1 1 1 0 0, .int .i64 0]) ∧ Keeps (SFoot S) w w' := by
  have k0 := ((Keeps.refl (fun _ => False) w).alloc (.cells #[.int .i64 0, .int .i64 0, .int .i64 0, .int .i64 0, .int .i64 0] 60)).alloc (.cells #[.int .i64 0, .int .i64 0, .int .i64 0, .int .i64 0, .int .i64 0] 60)
  have b0 := (Blk.new w 60 #[.int .i64 0, .int .i64 0, .int .i64 0, .int .i64 0, .int .i64 0]).alloc (.cells #[.int .i64 0, .int .i64 0, .int .i64 0, .int .i64 0, .int .i64 0] 60)
  have c0 : Blk ((w.alloc (.cells #[.int .i64 0, .int .i64 0, .int .i64 0, .int .i64 0, .int .i64 0] 60)).alloc (.cells #[.int .i64 0, .int .i64 0, .int .i64 0, .int .i64 0, .int .i64 0] 60)) (w.heap.size + 1) 60 #[.int .i64 0, .int .i64 0, .int .i64 0, .int .i64 0, .int .i64 0] := by
    simpa using Blk.new (w.alloc (.cells #[.int .i64 0, .int .i64 0, .int .i64 0, .int .i64 0, .int .i64 0] 60)) 60 #[.int .i64 0, .int .i64 0, .int .i64 0, .int .i64 0, .int .i64 0]
  have hsz : ((w.alloc (.cells #[.int .i64 0, .int .i64 0, .int .i64 0, .int .i64 0, .int .i64 0] 60)).alloc (.cells #[.int .i64 0, .int .i64 0, .int .i64 0, .int .i64 0, .int .i64 0] 60)).heap.size = w.heap.size + 2 := by simp
  have hft := fun x => h.foot_lt (x := x)
  have hal := walk_all (w := (w.alloc (.cells #[.int .i64 0, .int .i64 0, .int .i64 0, .int .i64 0, .int .i64 0] 60)).alloc (.cells #[.int .i64 0, .int .i64 0, .int .i64 0, .int .i64 0, .int .i64 0] 60)) (some ⟨S.gs, 0, none⟩) (.func 71) #[] #[.pointer (some ⟨w.heap.size + 1, 0, none⟩)] i
    (fun y w' => y = 0 ∧ Blk w' (w.heap.size + 1) 60 #[.int .i64 1, .int .i64 1, .int .i64 1, .int .i64 0, .int .i64 0] ∧ Keeps (fun x => SFoot S x ∨ x = w.heap.size + 1) ((w.alloc (.cells #[.int .i64 0, .int .i64 0, .int .i64 0, .int .i64 0, .int .i64 0] 60)).alloc (.cells #[.int .i64 0, .int .i64 0, .int .i64 0, .int .i64 0, .int .i64 0] 60)) w')
    (fun w' gw gm hk hg1 hg2 hb hm => by
      rw [hsz] at hg1 hg2
      refine (visit_leaf (h.keep0 (k0.false_ hk)) i h0 hi hz gw gm (w.heap.size + 1) hb hm (c0.keep hk (fun e => e)) (fun e => by have := hft _ e; omega) (fun e => by have := hft _ e; omega) (fun e => by have := hft _ e; omega) .empty .empty true).mono ?_
      rintro e w'' ⟨h1, h2, _, h4⟩
      refine ⟨0, h1, rfl, h2, hk.trans h4 (fun _ _ e => e.elim) (fun x hx e => ?_)⟩
      rw [hsz] at hx
      rcases e with e | e | e
      · exact .inl e
      · omega
      · exact .inr e)
  have K0 := Hd.mk k0
  have B0 := Hd.mk b0
  have FT := Hd.mk hft
  clear k0 b0 c0 hsz h hft
  unfold repV
  go_enter Tryz.func23, Tryz.ntmps23
  go_wp2_with fail
  refine hal.mono ?_
  rintro e w1 ⟨y, rfl, rfl, hr, hk⟩
  have K1 := Hd.mk (K0.out.trans hk (U := SFoot S) (fun _ _ e => e.elim) (fun x hx e => e.elim id (fun e => by omega)))
  have b1 := B0.out.keep hk (fun e => e.elim (fun e => Nat.lt_irrefl _ (FT.out _ e)) (fun e => by omega))
  obtain ⟨r0, r1, r2, r3, r4⟩ := b1.five
  obtain ⟨t0, t1, t2, t3, t4⟩ := hr.five
  have f0 := b1.frozen 0
  have f1 := b1.frozen 1
  have f2 := b1.frozen 2
  have f3 := b1.frozen 3
  have f4 := b1.frozen 4
  have B1 := Hd.mk b1
  clear hal hk b1 B0 K0 hr
  go_wp2_with fail
  have b2 := (((((B1.out.set_ 0 (.int .i64 1)).set_ 1 (.int .i64 1)).set_ 2 (.int .i64 1)).set_ 3 (.int .i64 0)).set_ 4 (.int .i64 0))
  obtain ⟨q0, q1, q2, q3, q4⟩ := Blk.five (by simpa using b2)
  refine bodyPost_ret (v := .tuple #[.agg #[.int .i64 1, .int .i64 1, .int .i64 1, .int .i64 0, .int .i64 0], .int .i64 0]) (by simp [results, Tryz.results23, go_sem, q0, q1, q2, q3, q4]) rfl ⟨rfl, ?_⟩
  exact (((((K1.out.setCell (fun e => absurd e (Nat.lt_irrefl _)) _).setCell (fun e => absurd e (Nat.lt_irrefl _)) _).setCell (fun e => absurd e (Nat.lt_irrefl _)) _).setCell (fun e => absurd e (Nat.lt_irrefl _)) _).setCell (fun e => absurd e (Nat.lt_irrefl _)) _)

end
end Go.Proofs.Sg
