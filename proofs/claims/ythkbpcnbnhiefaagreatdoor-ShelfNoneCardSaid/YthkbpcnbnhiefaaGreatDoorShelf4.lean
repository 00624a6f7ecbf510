/- A shelf: Make. -/
import Derived.Test.YthkbpcnbnhiefaaGreatDoorShelf3
import Derived.Deep.RegionHeld3
namespace Go.Proofs.Sg
set_option linter.unusedSimpArgs false
set_option linter.unusedVariables false
open Go.RowKit Go.Lib

section
variable {w w' : World} {S : SIds} {c : Cfg} {k : Nat} {L : Nat → List UInt8} {H : Nat → Bool} {r s : Nat}

/-- Behind a call of the pool's. -/
theorem IsShelf.pooled (h : IsShelf w S c k L H r s) {H' : Nat → Bool} (hk : Keeps (fun x => x = S.gr ∨ x = S.gw) w w') (hp : IsPool w' S.gp S.gr S.gw c.blocks.toNat H') : IsShelf w' S c k L H' r s := by
  obtain ⟨a1, a2, a3, a4, a5, a6, a7, a8, a9, a10⟩ := h.apart
  obtain ⟨t3, t4⟩ := h.pool.2.1.parts
  obtain ⟨cs, b1, b2⟩ := h.cache
  refine ⟨h.box.keep hk (by rintro (e | e); exact a6 e; exact a7 e), h.inn, h.right, ⟨cs, b1.keepT hk ?_ ?_, b2⟩, hp, h.tab⟩
  · rintro x hx (rfl | rfl)
    · exact a3 hx
    · exact a4 hx
  · rintro x (rfl | rfl) e
    · rw [t3] at e; cases e
    · rw [t4] at e; cases e

set_option maxRecDepth 100000 in
set_option maxHeartbeats 4000000 in
theorem shelf_make_no (h : IsShelf w S c k L H r s) (l : Int) (a1 a2 a3 a4 : Value) (h1 : a1.oneCell' = true) (h2 : a2.oneCell' = true) (h3 : a3.oneCell' = true) (h4 : a4.oneCell' = true)
    (hE : ∀ w', Keeps (fun _ => False) w w' → Calls Tryz.prog 69 #[c.v, nodeV l a1 a2 a3 a4] w' fun e w'' => e = .returned (.tuple #[nilV, .int .i64 3]) ∧ Keeps (fun _ => False) w' w'') :
    Calls Tryz.prog 55 #[.pointer (some ⟨S.gs, 0, none⟩), nodeV l a1 a2 a3 a4] w fun e w' => e = .returned (.tuple #[.int .u32 0, .int .i64 3]) ∧ Keeps (fun _ => False) w w' := by
  have kN := (Keeps.refl (fun _ => False) w).alloc (.cells #[.int .i64 l, a1, a2, a3, a4] 42)
  have hN := h.keep0 kN
  obtain ⟨⟨c0, c1, c2, c3, c4, c5, c6, c7⟩, c8, c9, c10, c11⟩ := hN.cells
  obtain ⟨n0, n1, n2, n3, n4⟩ := (Blk.new w 42 #[.int .i64 l, a1, a2, a3, a4]).five
  have hbk := h.blocks
  unfold Cfg.v nodeV at *
  go_enter Tryz.func55, Tryz.ntmps55
  go_wp2_with fail
  generalize hw0 : w.alloc (.cells #[.int .i64 l, a1, a2, a3, a4] 42) = w0 at *
  clear hw0
  refine (shelf_made hN).mono ?_
  rintro e w' ⟨rfl, rfl⟩
  have hk0 := kN.drew
  have H0 := Hd.mk h
  clear hN h kN
  go_wp2_with fail
  refine wp_region_held_drew (S := (fun w' => w'.cell? ⟨S.gs, 0, none⟩ = some (.int .i64 c.blocks) ∧ w'.cell? ⟨S.gs, 1, none⟩ = some (.int .i64 c.bytes) ∧ w'.cell? ⟨S.gs, 2, none⟩ = some (.int .i64 c.frames) ∧ w'.cell? ⟨S.gs, 3, none⟩ = some (.int .i64 c.fan) ∧ w'.cell? ⟨S.gs, 4, none⟩ = some (.int .i64 c.buffer) ∧ w'.cell? ⟨S.gs, 5, none⟩ = some (.int .i64 c.leaf) ∧ w'.cell? ⟨S.gs, 6, none⟩ = some (.int .i64 c.key) ∧ w'.cell? ⟨S.gs, 7, none⟩ = some (.int .i64 c.val) ∧ w'.cell? ⟨w.heap.size, 0, none⟩ = some (.int .i64 l) ∧ w'.cell? ⟨w.heap.size, 1, none⟩ = some (a1) ∧ w'.cell? ⟨w.heap.size, 2, none⟩ = some (a2) ∧ w'.cell? ⟨w.heap.size, 3, none⟩ = some (a3) ∧ w'.cell? ⟨w.heap.size, 4, none⟩ = some (a4) ∧ Keeps (fun _ => False) w w')) (by kernel_rfl) (by go_keep) (fun hHeld => ?_)
  refine wpAnyH_take (i := 0) (oi := ⟨_, _, _, _, _, _⟩) (v := _) rfl (by kernel_rfl) (by kernel_rfl) (by kernel_rfl) (fun _ _ _ h => h) (Or.inl ⟨by rfl, fun _ _ => rfl⟩) hHeld ?_
  (try simp only [Act.put, Act.eval, List.setIfInBounds_toArray, List.set_cons_zero, List.set_cons_succ, List.getElem?_toArray, List.getElem?_cons_succ, List.getElem?_cons_zero, Array.getD_eq_getD_getElem?, Option.getD_some])
  refine wpAnyH_take (i := 1) (oi := ⟨_, _, _, _, _, _⟩) (v := _) rfl (by kernel_rfl) (by kernel_rfl) (by kernel_rfl) (fun _ _ _ h => h) (Or.inl ⟨by rfl, fun _ _ => rfl⟩) hHeld ?_
  (try simp only [Act.put, Act.eval, List.setIfInBounds_toArray, List.set_cons_zero, List.set_cons_succ, List.getElem?_toArray, List.getElem?_cons_succ, List.getElem?_cons_zero, Array.getD_eq_getD_getElem?, Option.getD_some])
  refine wpAnyH_take (i := 2) (oi := ⟨_, _, _, _, _, _⟩) (v := _) rfl (by kernel_rfl) (by kernel_rfl) (by kernel_rfl) (fun _ _ _ h => h) (Or.inl ⟨by rfl, fun _ _ => rfl⟩) hHeld ?_
  (try simp only [Act.put, Act.eval, List.setIfInBounds_toArray, List.set_cons_zero, List.set_cons_succ, List.getElem?_toArray, List.getElem?_cons_succ, List.getElem?_cons_zero, Array.getD_eq_getD_getElem?, Option.getD_some])
  refine wpAnyH_take (i := 3) (oi := ⟨_, _, _, _, _, _⟩) (v := ?v3) rfl (by kernel_rfl) (by kernel_rfl) (by kernel_rfl) (fun _ _ _ h => h) (Or.inl ⟨by rfl, ?hy3⟩) hHeld ?rest3
  case hy3 => ((intro w hSw; (try dsimp only at hSw); go_simp) <;> try with_reducible rfl)
  (try simp only [Act.put, Act.eval, List.setIfInBounds_toArray, List.set_cons_zero, List.set_cons_succ, List.getElem?_toArray, List.getElem?_cons_succ, List.getElem?_cons_zero, Array.getD_eq_getD_getElem?, Option.getD_some])
  refine wpAnyH_take (i := 4) (oi := ⟨_, _, _, _, _, _⟩) (v := ?v4) rfl (by kernel_rfl) (by kernel_rfl) (by kernel_rfl) (fun _ _ _ h => h) (Or.inl ⟨by rfl, ?hy4⟩) hHeld ?rest4
  case hy4 => ((intro w hSw; (try dsimp only at hSw); go_simp) <;> try with_reducible rfl)
  (try simp only [Act.put, Act.eval, List.setIfInBounds_toArray, List.set_cons_zero, List.set_cons_succ, List.getElem?_toArray, List.getElem?_cons_succ, List.getElem?_cons_zero, Array.getD_eq_getD_getElem?, Option.getD_some])
  refine wpAnyH_ready (rs := [5]) (by kernel_rfl) (by simp) ?_
  refine AllReadyH.cons (o := ⟨_, _, _, _, _, _⟩) rfl (fun K hK => ?_) AllReadyH.nil
  go_simp
  (go_at_call 69; refine (hE _ hHeld.2.2.2.2.2.2.2.2.2.2.2.2.2).mono ?_; rintro e w' ⟨rfl, hb⟩)
  go_wp2_with fail
  refine hK.out _ _ (encS_keeps hHeld hb) (fun hHeld => ?_)
  clear hK K
  (try simp only [Act.put, Act.eval, List.setIfInBounds_toArray, List.set_cons_zero, List.set_cons_succ, List.getElem?_toArray, List.getElem?_cons_succ, List.getElem?_cons_zero, Array.getD_eq_getD_getElem?, Option.getD_some])
  refine wpAnyH_take (i := 6) (oi := ⟨_, _, _, _, _, _⟩) (v := _) rfl (by kernel_rfl) (by kernel_rfl) (by kernel_rfl) (fun _ _ _ h => h) (Or.inl ⟨by rfl, fun _ _ => rfl⟩) hHeld ?_
  (try simp only [Act.put, Act.eval, List.setIfInBounds_toArray, List.set_cons_zero, List.set_cons_succ, List.getElem?_toArray, List.getElem?_cons_succ, List.getElem?_cons_zero, Array.getD_eq_getD_getElem?, Option.getD_some])
  refine wpAnyH_take (i := 7) (oi := ⟨_, _, _, _, _, _⟩) (v := _) rfl (by kernel_rfl) (by kernel_rfl) (by kernel_rfl) (fun _ _ _ h => h) (Or.inl ⟨by rfl, fun _ _ => rfl⟩) hHeld ?_
  (try simp only [Act.put, Act.eval, List.setIfInBounds_toArray, List.set_cons_zero, List.set_cons_succ, List.getElem?_toArray, List.getElem?_cons_succ, List.getElem?_cons_zero, Array.getD_eq_getD_getElem?, Option.getD_some])
  refine wpAnyH_take (i := 8) (oi := ⟨_, _, _, _, _, _⟩) (v := _) rfl (by kernel_rfl) (by kernel_rfl) (by kernel_rfl) (fun _ _ _ h => h) (Or.inl ⟨by rfl, fun _ _ => rfl⟩) hHeld ?_
  (try simp only [Act.put, Act.eval, List.setIfInBounds_toArray, List.set_cons_zero, List.set_cons_succ, List.getElem?_toArray, List.getElem?_cons_succ, List.getElem?_cons_zero, Array.getD_eq_getD_getElem?, Option.getD_some])
  refine wpAnyH_take (i := 9) (oi := ⟨_, _, _, _, _, _⟩) (v := _) rfl (by kernel_rfl) (by kernel_rfl) (by kernel_rfl) (fun _ _ _ h => h) (Or.inl ⟨by rfl, fun _ _ => rfl⟩) hHeld ?_
  (try simp only [Act.put, Act.eval, List.setIfInBounds_toArray, List.set_cons_zero, List.set_cons_succ, List.getElem?_toArray, List.getElem?_cons_succ, List.getElem?_cons_zero, Array.getD_eq_getD_getElem?, Option.getD_some])
  refine wpAnyH_take (i := 10) (oi := ⟨_, _, _, _, _, _⟩) (v := _) rfl (by kernel_rfl) (by kernel_rfl) (by kernel_rfl) (fun _ _ _ h => h) (Or.inl ⟨by rfl, fun _ _ => rfl⟩) hHeld ?_
  (try simp only [Act.put, Act.eval, List.setIfInBounds_toArray, List.set_cons_zero, List.set_cons_succ, List.getElem?_toArray, List.getElem?_cons_succ, List.getElem?_cons_zero, Array.getD_eq_getD_getElem?, Option.getD_some])
  refine wpAnyH_done (by kernel_rfl) ?_ _
  have hz0 := hk0.size
  clear hk0
  go_wp2
  go_ret2
  exact ⟨rfl, hHeld.2.2.2.2.2.2.2.2.2.2.2.2.2⟩

set_option maxRecDepth 100000 in
set_option maxHeartbeats 4000000 in
theorem shelf_make (h : IsShelf w S c k L H r s) (l : Int) (a1 a2 a3 a4 : Value) (h1 : a1.oneCell' = true) (h2 : a2.oneCell' = true) (h3 : a3.oneCell' = true) (h4 : a4.oneCell' = true) (bs : List UInt8) (hbs : bs.length = c.bytes.toNat) (hH0 : H 0 = true) (hfr : heldCount c.blocks.toNat H < c.blocks.toNat)
    (hE : ∀ w', Keeps (fun _ => False) w w' → Calls Tryz.prog 69 #[c.v, nodeV l a1 a2 a3 a4] w' fun e w'' => ∃ v', e = .returned (.tuple #[v', .int .i64 0]) ∧ OwnB w'' v' bs ∧ Grew w' w'' nilV v') :
    Calls Tryz.prog 55 #[.pointer (some ⟨S.gs, 0, none⟩), nodeV l a1 a2 a3 a4] w fun e w' => ∃ i : Nat, e = .returned (.tuple #[.int .u32 i, .int .i64 0]) ∧ 0 < i ∧ i < c.blocks.toNat ∧ H i = false ∧ (∀ q, q < i → H q = true) ∧ ∃ s', IsShelf w' S c k (updD L i bs) (updH H i true) r s' ∧ s ≤ s' ∧ s' ≤ s + 1 ∧ Keeps (SFoot S) w w' := by
  have kN := (Keeps.refl (fun _ => False) w).alloc (.cells #[.int .i64 l, a1, a2, a3, a4] 42)
  have hN := h.keep0 kN
  obtain ⟨⟨c0, c1, c2, c3, c4, c5, c6, c7⟩, c8, c9, c10, c11⟩ := hN.cells
  obtain ⟨n0, n1, n2, n3, n4⟩ := (Blk.new w 42 #[.int .i64 l, a1, a2, a3, a4]).five
  have hbk := h.blocks
  unfold Cfg.v nodeV at *
  go_enter Tryz.func55, Tryz.ntmps55
  go_wp2_with fail
  generalize hw0 : w.alloc (.cells #[.int .i64 l, a1, a2, a3, a4] 42) = w0 at *
  clear hw0
  refine (shelf_made hN).mono ?_
  rintro e w' ⟨rfl, rfl⟩
  have hk0 := kN.drew
  have H0 := Hd.mk h
  clear hN h kN
  go_wp2_with fail
  refine wp_region_held_drew (S := (fun w' => w'.cell? ⟨S.gs, 0, none⟩ = some (.int .i64 c.blocks) ∧ w'.cell? ⟨S.gs, 1, none⟩ = some (.int .i64 c.bytes) ∧ w'.cell? ⟨S.gs, 2, none⟩ = some (.int .i64 c.frames) ∧ w'.cell? ⟨S.gs, 3, none⟩ = some (.int .i64 c.fan) ∧ w'.cell? ⟨S.gs, 4, none⟩ = some (.int .i64 c.buffer) ∧ w'.cell? ⟨S.gs, 5, none⟩ = some (.int .i64 c.leaf) ∧ w'.cell? ⟨S.gs, 6, none⟩ = some (.int .i64 c.key) ∧ w'.cell? ⟨S.gs, 7, none⟩ = some (.int .i64 c.val) ∧ w'.cell? ⟨w.heap.size, 0, none⟩ = some (.int .i64 l) ∧ w'.cell? ⟨w.heap.size, 1, none⟩ = some (a1) ∧ w'.cell? ⟨w.heap.size, 2, none⟩ = some (a2) ∧ w'.cell? ⟨w.heap.size, 3, none⟩ = some (a3) ∧ w'.cell? ⟨w.heap.size, 4, none⟩ = some (a4) ∧ Keeps (fun _ => False) w w')) (by kernel_rfl) (by go_keep) (fun hHeld => ?_)
  refine wpAnyH_take (i := 0) (oi := ⟨_, _, _, _, _, _⟩) (v := _) rfl (by kernel_rfl) (by kernel_rfl) (by kernel_rfl) (fun _ _ _ h => h) (Or.inl ⟨by rfl, fun _ _ => rfl⟩) hHeld ?_
  (try simp only [Act.put, Act.eval, List.setIfInBounds_toArray, List.set_cons_zero, List.set_cons_succ, List.getElem?_toArray, List.getElem?_cons_succ, List.getElem?_cons_zero, Array.getD_eq_getD_getElem?, Option.getD_some])
  refine wpAnyH_take (i := 1) (oi := ⟨_, _, _, _, _, _⟩) (v := _) rfl (by kernel_rfl) (by kernel_rfl) (by kernel_rfl) (fun _ _ _ h => h) (Or.inl ⟨by rfl, fun _ _ => rfl⟩) hHeld ?_
  (try simp only [Act.put, Act.eval, List.setIfInBounds_toArray, List.set_cons_zero, List.set_cons_succ, List.getElem?_toArray, List.getElem?_cons_succ, List.getElem?_cons_zero, Array.getD_eq_getD_getElem?, Option.getD_some])
  refine wpAnyH_take (i := 2) (oi := ⟨_, _, _, _, _, _⟩) (v := _) rfl (by kernel_rfl) (by kernel_rfl) (by kernel_rfl) (fun _ _ _ h => h) (Or.inl ⟨by rfl, fun _ _ => rfl⟩) hHeld ?_
  (try simp only [Act.put, Act.eval, List.setIfInBounds_toArray, List.set_cons_zero, List.set_cons_succ, List.getElem?_toArray, List.getElem?_cons_succ, List.getElem?_cons_zero, Array.getD_eq_getD_getElem?, Option.getD_some])
  refine wpAnyH_take (i := 3) (oi := ⟨_, _, _, _, _, _⟩) (v := ?v3) rfl (by kernel_rfl) (by kernel_rfl) (by kernel_rfl) (fun _ _ _ h => h) (Or.inl ⟨by rfl, ?hy3⟩) hHeld ?rest3
  case hy3 => ((intro w hSw; (try dsimp only at hSw); go_simp) <;> try with_reducible rfl)
  (try simp only [Act.put, Act.eval, List.setIfInBounds_toArray, List.set_cons_zero, List.set_cons_succ, List.getElem?_toArray, List.getElem?_cons_succ, List.getElem?_cons_zero, Array.getD_eq_getD_getElem?, Option.getD_some])
  refine wpAnyH_take (i := 4) (oi := ⟨_, _, _, _, _, _⟩) (v := ?v4) rfl (by kernel_rfl) (by kernel_rfl) (by kernel_rfl) (fun _ _ _ h => h) (Or.inl ⟨by rfl, ?hy4⟩) hHeld ?rest4
  case hy4 => ((intro w hSw; (try dsimp only at hSw); go_simp) <;> try with_reducible rfl)
  (try simp only [Act.put, Act.eval, List.setIfInBounds_toArray, List.set_cons_zero, List.set_cons_succ, List.getElem?_toArray, List.getElem?_cons_succ, List.getElem?_cons_zero, Array.getD_eq_getD_getElem?, Option.getD_some])
  refine wpAnyH_ready (rs := [5]) (by kernel_rfl) (by simp) ?_
  refine AllReadyH.cons (o := ⟨_, _, _, _, _, _⟩) rfl (fun K hK => ?_) AllReadyH.nil
  go_simp
  (go_at_call 69; refine (hE _ hHeld.2.2.2.2.2.2.2.2.2.2.2.2.2).mono ?_; rintro e w' ⟨v', rfl, hO, hg⟩)
  go_wp2_with fail
  refine hK.out _ _ (encS_keeps hHeld hg.fresh) (fun hHeld => ?_)
  clear hK K
  (try simp only [Act.put, Act.eval, List.setIfInBounds_toArray, List.set_cons_zero, List.set_cons_succ, List.getElem?_toArray, List.getElem?_cons_succ, List.getElem?_cons_zero, Array.getD_eq_getD_getElem?, Option.getD_some])
  refine wpAnyH_take (i := 6) (oi := ⟨_, _, _, _, _, _⟩) (v := _) rfl (by kernel_rfl) (by kernel_rfl) (by kernel_rfl) (fun _ _ _ h => h) (Or.inl ⟨by rfl, fun _ _ => rfl⟩) hHeld ?_
  (try simp only [Act.put, Act.eval, List.setIfInBounds_toArray, List.set_cons_zero, List.set_cons_succ, List.getElem?_toArray, List.getElem?_cons_succ, List.getElem?_cons_zero, Array.getD_eq_getD_getElem?, Option.getD_some])
  refine wpAnyH_take (i := 7) (oi := ⟨_, _, _, _, _, _⟩) (v := _) rfl (by kernel_rfl) (by kernel_rfl) (by kernel_rfl) (fun _ _ _ h => h) (Or.inl ⟨by rfl, fun _ _ => rfl⟩) hHeld ?_
  (try simp only [Act.put, Act.eval, List.setIfInBounds_toArray, List.set_cons_zero, List.set_cons_succ, List.getElem?_toArray, List.getElem?_cons_succ, List.getElem?_cons_zero, Array.getD_eq_getD_getElem?, Option.getD_some])
  refine wpAnyH_take (i := 8) (oi := ⟨_, _, _, _, _, _⟩) (v := _) rfl (by kernel_rfl) (by kernel_rfl) (by kernel_rfl) (fun _ _ _ h => h) (Or.inl ⟨by rfl, fun _ _ => rfl⟩) hHeld ?_
  (try simp only [Act.put, Act.eval, List.setIfInBounds_toArray, List.set_cons_zero, List.set_cons_succ, List.getElem?_toArray, List.getElem?_cons_succ, List.getElem?_cons_zero, Array.getD_eq_getD_getElem?, Option.getD_some])
  refine wpAnyH_take (i := 9) (oi := ⟨_, _, _, _, _, _⟩) (v := _) rfl (by kernel_rfl) (by kernel_rfl) (by kernel_rfl) (fun _ _ _ h => h) (Or.inl ⟨by rfl, fun _ _ => rfl⟩) hHeld ?_
  (try simp only [Act.put, Act.eval, List.setIfInBounds_toArray, List.set_cons_zero, List.set_cons_succ, List.getElem?_toArray, List.getElem?_cons_succ, List.getElem?_cons_zero, Array.getD_eq_getD_getElem?, Option.getD_some])
  refine wpAnyH_take (i := 10) (oi := ⟨_, _, _, _, _, _⟩) (v := _) rfl (by kernel_rfl) (by kernel_rfl) (by kernel_rfl) (fun _ _ _ h => h) (Or.inl ⟨by rfl, fun _ _ => rfl⟩) hHeld ?_
  (try simp only [Act.put, Act.eval, List.setIfInBounds_toArray, List.set_cons_zero, List.set_cons_succ, List.getElem?_toArray, List.getElem?_cons_succ, List.getElem?_cons_zero, Array.getD_eq_getD_getElem?, Option.getD_some])
  refine wpAnyH_done (by kernel_rfl) ?_ _
  have hz0 := hk0.size
  clear hk0
  have k1 : Keeps (fun _ => False) w _ := hHeld.2.2.2.2.2.2.2.2.2.2.2.2.2
  have hS1 := H0.out.keep0 k1
  obtain ⟨g, cc, rfl, hby, hlt, hlc, hgb⟩ := hO.at (by intro e; rw [e] at hbs; simp at hbs; omega)
  have hgS : ¬ SFoot S g := fun e => by
    have e1 := H0.out.foot_lt e
    rcases hg.own g rfl with e2 | e2
    · simp [Value.ownBlock] at e2
    · have := k1.size
      omega
  rw [hbs]
  have A1 := Hd.mk hby
  have hEp := Hd.mk k1
  clear hby hO hg k1 hHeld hE hgb
  obtain ⟨⟨c0, c1, c2, c3, c4, c5, c6, c7⟩, c8, c9, c10, c11⟩ := hS1.cells
  go_wp2_with fail
  refine (pool_take_one hS1.pool hfr).mono ?_
  rintro e w2 ⟨p, rfl, hp1, hp2, hp3, hP, hkp⟩
  have hS2 := hS1.pooled hkp hP
  have hp0 : 0 < p := by
    rcases Nat.eq_zero_or_pos p with e | e
    · rw [e, hH0] at hp2; cases hp2
    · exact e
  have hby2 := A1.out.keep (hkp.block g hlt (by rintro (e | e); exact hgS (.inr (.inr (.inr (.inl e)))); exact hgS (.inr (.inr (.inr (.inr e))))))
  have hlay := shelf_given hS2 p hp0 hp1 g 0 cc bs hby2 hbs hgS
  have B1 := Hd.mk hkp
  have B2 := Hd.mk hp2
  have B3 := Hd.mk hp3
  clear hkp hP hp2 hp3 hby2 c0 c1 c2 c3 c4 c5 c6 c7 c8 c9 c10 c11 A1 hS1
  go_wp2_with fail
  refine hlay.mono ?_
  rintro e w3 ⟨rfl, s', hS3, hs1, hs2, hs3, hk3⟩
  have C1 := Hd.mk hS3
  have C2 := Hd.mk hk3
  clear hS3 hk3 hlay hS2 hs3
  go_wp2_with fail
  go_ret2
  refine ⟨p, rfl, hp0, hp1, B2.out, B3.out, s', C1.out, hs1, hs2, ?_⟩
  exact (hEp.out.trans B1.out (U := fun x => x = S.gr ∨ x = S.gw) (fun _ _ e => e.elim) (fun _ _ e => e)).trans C2.out (fun _ _ e => by rcases e with e | e; exact .inr (.inr (.inr (.inl e))); exact .inr (.inr (.inr (.inr e)))) (fun _ _ e => e)

end
end Go.Proofs.Sg
