/- code.Encode: what its callees must be. -/
import Derived.Deep.RegionHeld3
import Derived.Test.YthkbpcnbnhiefaaGreatDoorJNode0
namespace Go.Proofs.Sg
set_option linter.unusedSimpArgs false
set_option linter.unusedVariables false
open Go.RowKit Go.Lib

theorem encS_keeps {w w1 w2 : World} {g g' : Nat} {c : Cfg} {l : Int} {k p b r : Value}
    (h : w1.cell? ⟨g, 0, none⟩ = some (.int .i64 c.blocks) ∧ w1.cell? ⟨g, 1, none⟩ = some (.int .i64 c.bytes) ∧ w1.cell? ⟨g, 2, none⟩ = some (.int .i64 c.frames) ∧ w1.cell? ⟨g, 3, none⟩ = some (.int .i64 c.fan) ∧ w1.cell? ⟨g, 4, none⟩ = some (.int .i64 c.buffer) ∧ w1.cell? ⟨g, 5, none⟩ = some (.int .i64 c.leaf) ∧ w1.cell? ⟨g, 6, none⟩ = some (.int .i64 c.key) ∧ w1.cell? ⟨g, 7, none⟩ = some (.int .i64 c.val) ∧ w1.cell? ⟨g', 0, none⟩ = some (.int .i64 l) ∧ w1.cell? ⟨g', 1, none⟩ = some (k) ∧ w1.cell? ⟨g', 2, none⟩ = some (p) ∧ w1.cell? ⟨g', 3, none⟩ = some (b) ∧ w1.cell? ⟨g', 4, none⟩ = some (r) ∧ Keeps (fun _ => False) w w1) (hb : Keeps (fun _ => False) w1 w2) :
    w2.cell? ⟨g, 0, none⟩ = some (.int .i64 c.blocks) ∧ w2.cell? ⟨g, 1, none⟩ = some (.int .i64 c.bytes) ∧ w2.cell? ⟨g, 2, none⟩ = some (.int .i64 c.frames) ∧ w2.cell? ⟨g, 3, none⟩ = some (.int .i64 c.fan) ∧ w2.cell? ⟨g, 4, none⟩ = some (.int .i64 c.buffer) ∧ w2.cell? ⟨g, 5, none⟩ = some (.int .i64 c.leaf) ∧ w2.cell? ⟨g, 6, none⟩ = some (.int .i64 c.key) ∧ w2.cell? ⟨g, 7, none⟩ = some (.int .i64 c.val) ∧ w2.cell? ⟨g', 0, none⟩ = some (.int .i64 l) ∧ w2.cell? ⟨g', 1, none⟩ = some (k) ∧ w2.cell? ⟨g', 2, none⟩ = some (p) ∧ w2.cell? ⟨g', 3, none⟩ = some (b) ∧ w2.cell? ⟨g', 4, none⟩ = some (r) ∧ Keeps (fun _ => False) w w2 := by
  obtain ⟨h0, h1, h2, h3, h4, h5, h6, h7, n0, n1, n2, n3, n4, hk⟩ := h
  have hg := World.block_lt_of_cell? w1 _ h0
  have hg' := World.block_lt_of_cell? w1 _ n0
  have e : ∀ i, w2.cell? ⟨g, i, none⟩ = w1.cell? ⟨g, i, none⟩ := fun i => World.cell?_of_block (hb.block g hg (fun e => e))
  have e' : ∀ i, w2.cell? ⟨g', i, none⟩ = w1.cell? ⟨g', i, none⟩ := fun i => World.cell?_of_block (hb.block g' hg' (fun e => e))
  exact ⟨(e 0).trans h0, (e 1).trans h1, (e 2).trans h2, (e 3).trans h3, (e 4).trans h4, (e 5).trans h5, (e 6).trans h6, (e 7).trans h7, (e' 0).trans n0, (e' 1).trans n1, (e' 2).trans n2, (e' 3).trans n3, (e' 4).trans n4, hk.trans hb (fun _ _ e => e) (fun _ _ e => e)⟩

theorem enc_start {w : World} {c : Cfg} {l : Int} {k p b r : Value} :
    ((w.alloc (.cells #[.int .i64 c.blocks, .int .i64 c.bytes, .int .i64 c.frames, .int .i64 c.fan, .int .i64 c.buffer, .int .i64 c.leaf, .int .i64 c.key, .int .i64 c.val] 23)).alloc (.cells #[.int .i64 l, k, p, b, r] 42)).cell? ⟨w.heap.size, 0, none⟩ = some (.int .i64 c.blocks) ∧ ((w.alloc (.cells #[.int .i64 c.blocks, .int .i64 c.bytes, .int .i64 c.frames, .int .i64 c.fan, .int .i64 c.buffer, .int .i64 c.leaf, .int .i64 c.key, .int .i64 c.val] 23)).alloc (.cells #[.int .i64 l, k, p, b, r] 42)).cell? ⟨w.heap.size, 1, none⟩ = some (.int .i64 c.bytes) ∧ ((w.alloc (.cells #[.int .i64 c.blocks, .int .i64 c.bytes, .int .i64 c.frames, .int .i64 c.fan, .int .i64 c.buffer, .int .i64 c.leaf, .int .i64 c.key, .int .i64 c.val] 23)).alloc (.cells #[.int .i64 l, k, p, b, r] 42)).cell? ⟨w.heap.size, 2, none⟩ = some (.int .i64 c.frames) ∧ ((w.alloc (.cells #[.int .i64 c.blocks, .int .i64 c.bytes, .int .i64 c.frames, .int .i64 c.fan, .int .i64 c.buffer, .int .i64 c.leaf, .int .i64 c.key, .int .i64 c.val] 23)).alloc (.cells #[.int .i64 l, k, p, b, r] 42)).cell? ⟨w.heap.size, 3, none⟩ = some (.int .i64 c.fan) ∧ ((w.alloc (.cells #[.int .i64 c.blocks, .int .i64 c.bytes, .int .i64 c.frames, .int .i64 c.fan, .int .i64 c.buffer, .int .i64 c.leaf, .int .i64 c.key, .int .i64 c.val] 23)).alloc (.cells #[.int .i64 l, k, p, b, r] 42)).cell? ⟨w.heap.size, 4, none⟩ = some (.int .i64 c.buffer) ∧ ((w.alloc (.cells #[.int .i64 c.blocks, .int .i64 c.bytes, .int .i64 c.frames, .int .i64 c.fan, .int .i64 c.buffer, .int .i64 c.leaf, .int .i64 c.key, .int .i64 c.val] 23)).alloc (.cells #[.int .i64 l, k, p, b, r] 42)).cell? ⟨w.heap.size, 5, none⟩ = some (.int .i64 c.leaf) ∧ ((w.alloc (.cells #[.int .i64 c.blocks, .int .i64 c.bytes, .int .i64 c.frames, .int .i64 c.fan, .int .i64 c.buffer, .int .i64 c.leaf, .int .i64 c.key, .int .i64 c.val] 23)).alloc (.cells #[.int .i64 l, k, p, b, r] 42)).cell? ⟨w.heap.size, 6, none⟩ = some (.int .i64 c.key) ∧ ((w.alloc (.cells #[.int .i64 c.blocks, .int .i64 c.bytes, .int .i64 c.frames, .int .i64 c.fan, .int .i64 c.buffer, .int .i64 c.leaf, .int .i64 c.key, .int .i64 c.val] 23)).alloc (.cells #[.int .i64 l, k, p, b, r] 42)).cell? ⟨w.heap.size, 7, none⟩ = some (.int .i64 c.val) ∧ ((w.alloc (.cells #[.int .i64 c.blocks, .int .i64 c.bytes, .int .i64 c.frames, .int .i64 c.fan, .int .i64 c.buffer, .int .i64 c.leaf, .int .i64 c.key, .int .i64 c.val] 23)).alloc (.cells #[.int .i64 l, k, p, b, r] 42)).cell? ⟨w.heap.size + 1, 0, none⟩ = some (.int .i64 l) ∧ ((w.alloc (.cells #[.int .i64 c.blocks, .int .i64 c.bytes, .int .i64 c.frames, .int .i64 c.fan, .int .i64 c.buffer, .int .i64 c.leaf, .int .i64 c.key, .int .i64 c.val] 23)).alloc (.cells #[.int .i64 l, k, p, b, r] 42)).cell? ⟨w.heap.size + 1, 1, none⟩ = some (k) ∧ ((w.alloc (.cells #[.int .i64 c.blocks, .int .i64 c.bytes, .int .i64 c.frames, .int .i64 c.fan, .int .i64 c.buffer, .int .i64 c.leaf, .int .i64 c.key, .int .i64 c.val] 23)).alloc (.cells #[.int .i64 l, k, p, b, r] 42)).cell? ⟨w.heap.size + 1, 2, none⟩ = some (p) ∧ ((w.alloc (.cells #[.int .i64 c.blocks, .int .i64 c.bytes, .int .i64 c.frames, .int .i64 c.fan, .int .i64 c.buffer, .int .i64 c.leaf, .int .i64 c.key, .int .i64 c.val] 23)).alloc (.cells #[.int .i64 l, k, p, b, r] 42)).cell? ⟨w.heap.size + 1, 3, none⟩ = some (b) ∧ ((w.alloc (.cells #[.int .i64 c.blocks, .int .i64 c.bytes, .int .i64 c.frames, .int .i64 c.fan, .int .i64 c.buffer, .int .i64 c.leaf, .int .i64 c.key, .int .i64 c.val] 23)).alloc (.cells #[.int .i64 l, k, p, b, r] 42)).cell? ⟨w.heap.size + 1, 4, none⟩ = some (r) ∧ Keeps (fun _ => False) w ((w.alloc (.cells #[.int .i64 c.blocks, .int .i64 c.bytes, .int .i64 c.frames, .int .i64 c.fan, .int .i64 c.buffer, .int .i64 c.leaf, .int .i64 c.key, .int .i64 c.val] 23)).alloc (.cells #[.int .i64 l, k, p, b, r] 42)) := by
  have h1 := (Blk.new w 23 #[.int .i64 c.blocks, .int .i64 c.bytes, .int .i64 c.frames, .int .i64 c.fan, .int .i64 c.buffer, .int .i64 c.leaf, .int .i64 c.key, .int .i64 c.val]).alloc (.cells #[.int .i64 l, k, p, b, r] 42)
  have h2 : Blk ((w.alloc (.cells #[.int .i64 c.blocks, .int .i64 c.bytes, .int .i64 c.frames, .int .i64 c.fan, .int .i64 c.buffer, .int .i64 c.leaf, .int .i64 c.key, .int .i64 c.val] 23)).alloc (.cells #[.int .i64 l, k, p, b, r] 42)) (w.heap.size + 1) 42 #[.int .i64 l, k, p, b, r] := by
    simpa using Blk.new (w.alloc (.cells #[.int .i64 c.blocks, .int .i64 c.bytes, .int .i64 c.frames, .int .i64 c.fan, .int .i64 c.buffer, .int .i64 c.leaf, .int .i64 c.key, .int .i64 c.val] 23)) 42 #[.int .i64 l, k, p, b, r]
  exact ⟨h1.cell 0, h1.cell 1, h1.cell 2, h1.cell 3, h1.cell 4, h1.cell 5, h1.cell 6, h1.cell 7, h2.cell 0, h2.cell 1, h2.cell 2, h2.cell 3, h2.cell 4, ((Keeps.refl (fun _ => False) w).alloc _).alloc _⟩

set_option maxRecDepth 100000 in
set_option maxHeartbeats 4000000 in
theorem encode_no {w : World} (c : Cfg) (hc : c.In) (hcr : c.Right) (l : Int) (k p b r : Value) (hk : k.oneCell' = true) (hp : p.oneCell' = true) (hb : b.oneCell' = true) (hr : r.oneCell' = true)
    (hR : ∀ w', Keeps (fun _ => False) w w' → Calls Tryz.prog 118 #[c.v, allV, nodeV l k p b r] w' fun e w'' => e = .returned (.bool false) ∧ Keeps (fun _ => False) w' w'') :
    Calls Tryz.prog 69 #[c.v, nodeV l k p b r] w fun e w' => e = .returned (.tuple #[.slice none 0 0, .int .i64 3]) ∧ Keeps (fun _ => False) w w' := by
  have hch := fun w => conf_check (w := w) c hc
  rw [if_pos hcr] at hch
  obtain ⟨⟨s1, s2, s3, s4, s5, s6, s7, s8, s9, s10⟩, s11, s12, s13, s14, s15, s16, s17, s18⟩ := hcr
  clear s1 s2 s3 s4 s5 s6 s7 s8 s9 s10 s11 s12 s13 s14 s17 s18
  unfold Cfg.v nodeV at *
  go_enter Tryz.func69, Tryz.ntmps69
  go_wp2_with fail
  refine (hch _).mono ?_
  rintro e w1 ⟨rfl, hb1⟩
  obtain ⟨c0, c1, c2, c3, c4, c5, c6, c7, n0, n1, n2, n3, n4, hk1⟩ := encS_keeps (c := c) enc_start hb1
  have hk0 := hk1.drew
  clear hk1 hb1 hch
  go_wp2_with fail
  refine wp_region_held_drew (S := (fun w' => w'.cell? ⟨w.heap.size, 0, none⟩ = some (.int .i64 c.blocks) ∧ w'.cell? ⟨w.heap.size, 1, none⟩ = some (.int .i64 c.bytes) ∧ w'.cell? ⟨w.heap.size, 2, none⟩ = some (.int .i64 c.frames) ∧ w'.cell? ⟨w.heap.size, 3, none⟩ = some (.int .i64 c.fan) ∧ w'.cell? ⟨w.heap.size, 4, none⟩ = some (.int .i64 c.buffer) ∧ w'.cell? ⟨w.heap.size, 5, none⟩ = some (.int .i64 c.leaf) ∧ w'.cell? ⟨w.heap.size, 6, none⟩ = some (.int .i64 c.key) ∧ w'.cell? ⟨w.heap.size, 7, none⟩ = some (.int .i64 c.val) ∧ w'.cell? ⟨w.heap.size + 1, 0, none⟩ = some (.int .i64 l) ∧ w'.cell? ⟨w.heap.size + 1, 1, none⟩ = some (k) ∧ w'.cell? ⟨w.heap.size + 1, 2, none⟩ = some (p) ∧ w'.cell? ⟨w.heap.size + 1, 3, none⟩ = some (b) ∧ w'.cell? ⟨w.heap.size + 1, 4, none⟩ = some (r) ∧ Keeps (fun _ => False) w w')) (by kernel_rfl) (by go_keep) (fun hHeld => ?_)
  refine wpAnyH_take (i := 0) (oi := ⟨_, _, _, _, _, _⟩) (v := ?v0) rfl (by kernel_rfl) (by kernel_rfl) (by kernel_rfl) (fun _ _ _ h => h) (Or.inl ⟨by rfl, ?hy0⟩) hHeld ?rest0
  case hy0 => ((intro w hSw; (try dsimp only at hSw); go_simp) <;> try with_reducible rfl)
  (try simp only [Act.put, Act.eval, List.setIfInBounds_toArray, List.set_cons_zero, List.set_cons_succ, List.getElem?_toArray, List.getElem?_cons_succ, List.getElem?_cons_zero, Array.getD_eq_getD_getElem?, Option.getD_some])
  refine wpAnyH_take (i := 2) (oi := ⟨_, _, _, _, _, _⟩) (v := ?v2) rfl (by kernel_rfl) (by kernel_rfl) (by kernel_rfl) (fun _ _ _ h => h) (Or.inl ⟨by rfl, ?hy2⟩) hHeld ?rest2
  case hy2 => ((intro w hSw; (try dsimp only at hSw); go_simp) <;> try with_reducible rfl)
  (try simp only [Act.put, Act.eval, List.setIfInBounds_toArray, List.set_cons_zero, List.set_cons_succ, List.getElem?_toArray, List.getElem?_cons_succ, List.getElem?_cons_zero, Array.getD_eq_getD_getElem?, Option.getD_some])
  refine wpAnyH_ready (rs := [1]) (by kernel_rfl) (by simp) ?_
  refine AllReadyH.cons (o := ⟨_, _, _, _, _, _⟩) rfl (fun K hK => ?_) AllReadyH.nil
  go_simp
  (go_at_call 62; refine lex_all.mono ?_; rintro e w' ⟨rfl, hb⟩)
  go_wp2_with fail
  refine hK.out _ _ (encS_keeps hHeld hb) (fun hHeld => ?_)
  clear hK K
  (try simp only [Act.put, Act.eval, List.setIfInBounds_toArray, List.set_cons_zero, List.set_cons_succ, List.getElem?_toArray, List.getElem?_cons_succ, List.getElem?_cons_zero, Array.getD_eq_getD_getElem?, Option.getD_some])
  refine wpAnyH_ready (rs := [3]) (by kernel_rfl) (by simp) ?_
  refine AllReadyH.cons (o := ⟨_, _, _, _, _, _⟩) rfl (fun K hK => ?_) AllReadyH.nil
  go_simp
  (go_at_call 118; refine (hR _ hHeld.2.2.2.2.2.2.2.2.2.2.2.2.2).mono ?_; rintro e w' ⟨rfl, hb⟩)
  go_wp2_with fail
  refine hK.out _ _ (encS_keeps hHeld hb) (fun hHeld => ?_)
  clear hK K
  (try simp only [Act.put, Act.eval, List.setIfInBounds_toArray, List.set_cons_zero, List.set_cons_succ, List.getElem?_toArray, List.getElem?_cons_succ, List.getElem?_cons_zero, Array.getD_eq_getD_getElem?, Option.getD_some])
  refine wpAnyH_take (i := 4) (oi := ⟨_, _, _, _, _, _⟩) (v := _) rfl (by kernel_rfl) (by kernel_rfl) (by kernel_rfl) (fun _ _ _ h => h) (Or.inl ⟨by rfl, fun _ _ => rfl⟩) hHeld ?_
  (try simp only [Act.put, Act.eval, List.setIfInBounds_toArray, List.set_cons_zero, List.set_cons_succ, List.getElem?_toArray, List.getElem?_cons_succ, List.getElem?_cons_zero, Array.getD_eq_getD_getElem?, Option.getD_some])
  refine wpAnyH_done (by kernel_rfl) ?_ _
  clear hk0
  go_wp2
  go_ret2
  exact ⟨rfl, hHeld.2.2.2.2.2.2.2.2.2.2.2.2.2⟩

set_option maxRecDepth 100000 in
set_option maxHeartbeats 4000000 in
theorem encode_outer {w : World} (c : Cfg) (hc : c.In) (hcr : c.Right) (l : Int) (k p b r : Value) (hk : k.oneCell' = true) (hp : p.oneCell' = true) (hb : b.oneCell' = true) (hr : r.oneCell' = true)
    (hR : ∀ w', Keeps (fun _ => False) w w' → Calls Tryz.prog 118 #[c.v, allV, nodeV l k p b r] w' fun e w'' => e = .returned (.bool true) ∧ Keeps (fun _ => False) w' w'') (hl : l ≤ 0) (xs : List UInt8) (hx0 : xs ≠ []) (hx : xs.length ≤ c.bytes.toNat)
    (hO : ∀ w', Keeps (fun _ => False) w w' → Calls Tryz.prog 131 #[c.v, nodeV l k p b r] w' fun e w'' => ∃ v', e = .returned v' ∧ OwnB w'' v' xs ∧ Grew w' w'' (.slice none 0 0) v') :
    Calls Tryz.prog 69 #[c.v, nodeV l k p b r] w fun e w' => ∃ v', e = .returned (.tuple #[v', .int .i64 0]) ∧ OwnB w' v' (slot xs c.bytes.toNat) ∧ Grew w w' (.slice none 0 0) v' := by
  have hch := fun w => conf_check (w := w) c hc
  rw [if_pos hcr] at hch
  obtain ⟨⟨s1, s2, s3, s4, s5, s6, s7, s8, s9, s10⟩, s11, s12, s13, s14, s15, s16, s17, s18⟩ := hcr
  clear s1 s2 s3 s4 s5 s6 s7 s8 s9 s10 s11 s12 s13 s14 s17 s18
  unfold Cfg.v nodeV at *
  go_enter Tryz.func69, Tryz.ntmps69
  go_wp2_with fail
  refine (hch _).mono ?_
  rintro e w1 ⟨rfl, hb1⟩
  obtain ⟨c0, c1, c2, c3, c4, c5, c6, c7, n0, n1, n2, n3, n4, hk1⟩ := encS_keeps (c := c) enc_start hb1
  have hk0 := hk1.drew
  clear hk1 hb1 hch
  go_wp2_with fail
  refine wp_region_held_drew (S := (fun w' => w'.cell? ⟨w.heap.size, 0, none⟩ = some (.int .i64 c.blocks) ∧ w'.cell? ⟨w.heap.size, 1, none⟩ = some (.int .i64 c.bytes) ∧ w'.cell? ⟨w.heap.size, 2, none⟩ = some (.int .i64 c.frames) ∧ w'.cell? ⟨w.heap.size, 3, none⟩ = some (.int .i64 c.fan) ∧ w'.cell? ⟨w.heap.size, 4, none⟩ = some (.int .i64 c.buffer) ∧ w'.cell? ⟨w.heap.size, 5, none⟩ = some (.int .i64 c.leaf) ∧ w'.cell? ⟨w.heap.size, 6, none⟩ = some (.int .i64 c.key) ∧ w'.cell? ⟨w.heap.size, 7, none⟩ = some (.int .i64 c.val) ∧ w'.cell? ⟨w.heap.size + 1, 0, none⟩ = some (.int .i64 l) ∧ w'.cell? ⟨w.heap.size + 1, 1, none⟩ = some (k) ∧ w'.cell? ⟨w.heap.size + 1, 2, none⟩ = some (p) ∧ w'.cell? ⟨w.heap.size + 1, 3, none⟩ = some (b) ∧ w'.cell? ⟨w.heap.size + 1, 4, none⟩ = some (r) ∧ Keeps (fun _ => False) w w')) (by kernel_rfl) (by go_keep) (fun hHeld => ?_)
  refine wpAnyH_take (i := 0) (oi := ⟨_, _, _, _, _, _⟩) (v := ?v0) rfl (by kernel_rfl) (by kernel_rfl) (by kernel_rfl) (fun _ _ _ h => h) (Or.inl ⟨by rfl, ?hy0⟩) hHeld ?rest0
  case hy0 => ((intro w hSw; (try dsimp only at hSw); go_simp) <;> try with_reducible rfl)
  (try simp only [Act.put, Act.eval, List.setIfInBounds_toArray, List.set_cons_zero, List.set_cons_succ, List.getElem?_toArray, List.getElem?_cons_succ, List.getElem?_cons_zero, Array.getD_eq_getD_getElem?, Option.getD_some])
  refine wpAnyH_take (i := 2) (oi := ⟨_, _, _, _, _, _⟩) (v := ?v2) rfl (by kernel_rfl) (by kernel_rfl) (by kernel_rfl) (fun _ _ _ h => h) (Or.inl ⟨by rfl, ?hy2⟩) hHeld ?rest2
  case hy2 => ((intro w hSw; (try dsimp only at hSw); go_simp) <;> try with_reducible rfl)
  (try simp only [Act.put, Act.eval, List.setIfInBounds_toArray, List.set_cons_zero, List.set_cons_succ, List.getElem?_toArray, List.getElem?_cons_succ, List.getElem?_cons_zero, Array.getD_eq_getD_getElem?, Option.getD_some])
  refine wpAnyH_ready (rs := [1]) (by kernel_rfl) (by simp) ?_
  refine AllReadyH.cons (o := ⟨_, _, _, _, _, _⟩) rfl (fun K hK => ?_) AllReadyH.nil
  go_simp
  (go_at_call 62; refine lex_all.mono ?_; rintro e w' ⟨rfl, hb⟩)
  go_wp2_with fail
  refine hK.out _ _ (encS_keeps hHeld hb) (fun hHeld => ?_)
  clear hK K
  (try simp only [Act.put, Act.eval, List.setIfInBounds_toArray, List.set_cons_zero, List.set_cons_succ, List.getElem?_toArray, List.getElem?_cons_succ, List.getElem?_cons_zero, Array.getD_eq_getD_getElem?, Option.getD_some])
  refine wpAnyH_ready (rs := [3]) (by kernel_rfl) (by simp) ?_
  refine AllReadyH.cons (o := ⟨_, _, _, _, _, _⟩) rfl (fun K hK => ?_) AllReadyH.nil
  go_simp
  (go_at_call 118; refine (hR _ hHeld.2.2.2.2.2.2.2.2.2.2.2.2.2).mono ?_; rintro e w' ⟨rfl, hb⟩)
  go_wp2_with fail
  refine hK.out _ _ (encS_keeps hHeld hb) (fun hHeld => ?_)
  clear hK K
  (try simp only [Act.put, Act.eval, List.setIfInBounds_toArray, List.set_cons_zero, List.set_cons_succ, List.getElem?_toArray, List.getElem?_cons_succ, List.getElem?_cons_zero, Array.getD_eq_getD_getElem?, Option.getD_some])
  refine wpAnyH_take (i := 4) (oi := ⟨_, _, _, _, _, _⟩) (v := _) rfl (by kernel_rfl) (by kernel_rfl) (by kernel_rfl) (fun _ _ _ h => h) (Or.inl ⟨by rfl, fun _ _ => rfl⟩) hHeld ?_
  (try simp only [Act.put, Act.eval, List.setIfInBounds_toArray, List.set_cons_zero, List.set_cons_succ, List.getElem?_toArray, List.getElem?_cons_succ, List.getElem?_cons_zero, Array.getD_eq_getD_getElem?, Option.getD_some])
  refine wpAnyH_done (by kernel_rfl) ?_ _
  clear hk0
  obtain ⟨c0, c1, c2, c3, c4, c5, c6, c7, n0, n1, n2, n3, n4, hk1⟩ := hHeld
  have K1 := Hd.mk hk1
  clear hk1
  go_wp2_with fail
  refine (hO _ K1.out).mono ?_
  rintro e w3 ⟨v3, rfl, o3, hg3⟩
  have hb3 := hg3.fresh
  have G3 := Hd.mk (((Grew.of_keeps K1.out (v := .slice none 0 0))).trans hg3)
  clear hg3
  obtain ⟨c0, c1, c2, c3, c4, c5, c6, c7, n0, n1, n2, n3, n4, hk1⟩ := encS_keeps ⟨c0, c1, c2, c3, c4, c5, c6, c7, n0, n1, n2, n3, n4, K1.out⟩ hb3
  have K3 := Hd.mk hk1
  have O3 := Hd.mk o3
  obtain ⟨g3, cc3, rfl, _⟩ := o3.at hx0
  clear hk1 hb3 o3 K1
  go_wp2_with (at_builtin; refine wpList_append_known rfl _ _ _ _ rfl _ (.int .i64 ((c.bytes.toNat - xs.length : Nat) : Int)) rfl (by show Value.int .i64 _ = Value.int .i64 _; congr 1; omega) (append_zeros O3.out (c.bytes.toNat - xs.length) (by omega) _) ?_)
  intro v4 w4 hown hgr
  have D1 := Hd.mk hown
  have D2 := Hd.mk hgr
  clear hown hgr
  go_wp2_with fail
  go_ret2
  exact ⟨_, rfl, D1.out.cast rfl, G3.out.trans D2.out⟩

set_option maxRecDepth 100000 in
set_option maxHeartbeats 4000000 in
theorem encode_inner {w : World} (c : Cfg) (hc : c.In) (hcr : c.Right) (l : Int) (k p b r : Value) (hk : k.oneCell' = true) (hp : p.oneCell' = true) (hb : b.oneCell' = true) (hr : r.oneCell' = true)
    (hR : ∀ w', Keeps (fun _ => False) w w' → Calls Tryz.prog 118 #[c.v, allV, nodeV l k p b r] w' fun e w'' => e = .returned (.bool true) ∧ Keeps (fun _ => False) w' w'') (hl : 0 < l) (xs : List UInt8) (hx0 : xs ≠ []) (hx : xs.length ≤ c.bytes.toNat)
    (hO : ∀ w', Keeps (fun _ => False) w w' → Calls Tryz.prog 132 #[c.v, nodeV l k p b r] w' fun e w'' => ∃ v', e = .returned v' ∧ OwnB w'' v' xs ∧ Grew w' w'' (.slice none 0 0) v') :
    Calls Tryz.prog 69 #[c.v, nodeV l k p b r] w fun e w' => ∃ v', e = .returned (.tuple #[v', .int .i64 0]) ∧ OwnB w' v' (slot xs c.bytes.toNat) ∧ Grew w w' (.slice none 0 0) v' := by
  have hch := fun w => conf_check (w := w) c hc
  rw [if_pos hcr] at hch
  obtain ⟨⟨s1, s2, s3, s4, s5, s6, s7, s8, s9, s10⟩, s11, s12, s13, s14, s15, s16, s17, s18⟩ := hcr
  clear s1 s2 s3 s4 s5 s6 s7 s8 s9 s10 s11 s12 s13 s14 s17 s18
  unfold Cfg.v nodeV at *
  go_enter Tryz.func69, Tryz.ntmps69
  go_wp2_with fail
  refine (hch _).mono ?_
  rintro e w1 ⟨rfl, hb1⟩
  obtain ⟨c0, c1, c2, c3, c4, c5, c6, c7, n0, n1, n2, n3, n4, hk1⟩ := encS_keeps (c := c) enc_start hb1
  have hk0 := hk1.drew
  clear hk1 hb1 hch
  go_wp2_with fail
  refine wp_region_held_drew (S := (fun w' => w'.cell? ⟨w.heap.size, 0, none⟩ = some (.int .i64 c.blocks) ∧ w'.cell? ⟨w.heap.size, 1, none⟩ = some (.int .i64 c.bytes) ∧ w'.cell? ⟨w.heap.size, 2, none⟩ = some (.int .i64 c.frames) ∧ w'.cell? ⟨w.heap.size, 3, none⟩ = some (.int .i64 c.fan) ∧ w'.cell? ⟨w.heap.size, 4, none⟩ = some (.int .i64 c.buffer) ∧ w'.cell? ⟨w.heap.size, 5, none⟩ = some (.int .i64 c.leaf) ∧ w'.cell? ⟨w.heap.size, 6, none⟩ = some (.int .i64 c.key) ∧ w'.cell? ⟨w.heap.size, 7, none⟩ = some (.int .i64 c.val) ∧ w'.cell? ⟨w.heap.size + 1, 0, none⟩ = some (.int .i64 l) ∧ w'.cell? ⟨w.heap.size + 1, 1, none⟩ = some (k) ∧ w'.cell? ⟨w.heap.size + 1, 2, none⟩ = some (p) ∧ w'.cell? ⟨w.heap.size + 1, 3, none⟩ = some (b) ∧ w'.cell? ⟨w.heap.size + 1, 4, none⟩ = some (r) ∧ Keeps (fun _ => False) w w')) (by kernel_rfl) (by go_keep) (fun hHeld => ?_)
  refine wpAnyH_take (i := 0) (oi := ⟨_, _, _, _, _, _⟩) (v := ?v0) rfl (by kernel_rfl) (by kernel_rfl) (by kernel_rfl) (fun _ _ _ h => h) (Or.inl ⟨by rfl, ?hy0⟩) hHeld ?rest0
  case hy0 => ((intro w hSw; (try dsimp only at hSw); go_simp) <;> try with_reducible rfl)
  (try simp only [Act.put, Act.eval, List.setIfInBounds_toArray, List.set_cons_zero, List.set_cons_succ, List.getElem?_toArray, List.getElem?_cons_succ, List.getElem?_cons_zero, Array.getD_eq_getD_getElem?, Option.getD_some])
  refine wpAnyH_take (i := 2) (oi := ⟨_, _, _, _, _, _⟩) (v := ?v2) rfl (by kernel_rfl) (by kernel_rfl) (by kernel_rfl) (fun _ _ _ h => h) (Or.inl ⟨by rfl, ?hy2⟩) hHeld ?rest2
  case hy2 => ((intro w hSw; (try dsimp only at hSw); go_simp) <;> try with_reducible rfl)
  (try simp only [Act.put, Act.eval, List.setIfInBounds_toArray, List.set_cons_zero, List.set_cons_succ, List.getElem?_toArray, List.getElem?_cons_succ, List.getElem?_cons_zero, Array.getD_eq_getD_getElem?, Option.getD_some])
  refine wpAnyH_ready (rs := [1]) (by kernel_rfl) (by simp) ?_
  refine AllReadyH.cons (o := ⟨_, _, _, _, _, _⟩) rfl (fun K hK => ?_) AllReadyH.nil
  go_simp
  (go_at_call 62; refine lex_all.mono ?_; rintro e w' ⟨rfl, hb⟩)
  go_wp2_with fail
  refine hK.out _ _ (encS_keeps hHeld hb) (fun hHeld => ?_)
  clear hK K
  (try simp only [Act.put, Act.eval, List.setIfInBounds_toArray, List.set_cons_zero, List.set_cons_succ, List.getElem?_toArray, List.getElem?_cons_succ, List.getElem?_cons_zero, Array.getD_eq_getD_getElem?, Option.getD_some])
  refine wpAnyH_ready (rs := [3]) (by kernel_rfl) (by simp) ?_
  refine AllReadyH.cons (o := ⟨_, _, _, _, _, _⟩) rfl (fun K hK => ?_) AllReadyH.nil
  go_simp
  (go_at_call 118; refine (hR _ hHeld.2.2.2.2.2.2.2.2.2.2.2.2.2).mono ?_; rintro e w' ⟨rfl, hb⟩)
  go_wp2_with fail
  refine hK.out _ _ (encS_keeps hHeld hb) (fun hHeld => ?_)
  clear hK K
  (try simp only [Act.put, Act.eval, List.setIfInBounds_toArray, List.set_cons_zero, List.set_cons_succ, List.getElem?_toArray, List.getElem?_cons_succ, List.getElem?_cons_zero, Array.getD_eq_getD_getElem?, Option.getD_some])
  refine wpAnyH_take (i := 4) (oi := ⟨_, _, _, _, _, _⟩) (v := _) rfl (by kernel_rfl) (by kernel_rfl) (by kernel_rfl) (fun _ _ _ h => h) (Or.inl ⟨by rfl, fun _ _ => rfl⟩) hHeld ?_
  (try simp only [Act.put, Act.eval, List.setIfInBounds_toArray, List.set_cons_zero, List.set_cons_succ, List.getElem?_toArray, List.getElem?_cons_succ, List.getElem?_cons_zero, Array.getD_eq_getD_getElem?, Option.getD_some])
  refine wpAnyH_done (by kernel_rfl) ?_ _
  clear hk0
  obtain ⟨c0, c1, c2, c3, c4, c5, c6, c7, n0, n1, n2, n3, n4, hk1⟩ := hHeld
  have K1 := Hd.mk hk1
  clear hk1
  go_wp2_with fail
  refine (hO _ K1.out).mono ?_
  rintro e w3 ⟨v3, rfl, o3, hg3⟩
  have hb3 := hg3.fresh
  have G3 := Hd.mk (((Grew.of_keeps K1.out (v := .slice none 0 0))).trans hg3)
  clear hg3
  obtain ⟨c0, c1, c2, c3, c4, c5, c6, c7, n0, n1, n2, n3, n4, hk1⟩ := encS_keeps ⟨c0, c1, c2, c3, c4, c5, c6, c7, n0, n1, n2, n3, n4, K1.out⟩ hb3
  have K3 := Hd.mk hk1
  have O3 := Hd.mk o3
  obtain ⟨g3, cc3, rfl, _⟩ := o3.at hx0
  clear hk1 hb3 o3 K1
  go_wp2_with (at_builtin; refine wpList_append_known rfl _ _ _ _ rfl _ (.int .i64 ((c.bytes.toNat - xs.length : Nat) : Int)) rfl (by show Value.int .i64 _ = Value.int .i64 _; congr 1; omega) (append_zeros O3.out (c.bytes.toNat - xs.length) (by omega) _) ?_)
  intro v4 w4 hown hgr
  have D1 := Hd.mk hown
  have D2 := Hd.mk hgr
  clear hown hgr
  go_wp2_with fail
  go_ret2
  exact ⟨_, rfl, D1.out.cast rfl, G3.out.trans D2.out⟩

end Go.Proofs.Sg
