/- A shelf: New. -/
import Derived.Test.YthkbpcnbnhiefaaGreatDoorShelf5
namespace Go.Proofs.Sg
set_option linter.unusedSimpArgs false
set_option linter.unusedVariables false
open Go.RowKit Go.Lib

section
variable {w w' : World} {c : Cfg}

theorem shelf_new_arg (hc : c.In) (hr : ¬ c.Right) (d : Option Addr) :
    Calls Tryz.prog 51 #[c.v, .pointer d] w fun e w' => e = .returned (.tuple #[.pointer none, .int .i64 2]) ∧ Keeps (fun _ => False) w w' := by
  have hch := fun w => conf_check (w := w) c hc
  rw [if_neg hr] at hch
  unfold Cfg.v at *
  go_enter Tryz.func51, Tryz.ntmps51
  go_wp2_with fail
  refine (hch _).mono ?_
  rintro e w1 ⟨rfl, hb⟩
  have K := Hd.mk (((Keeps.refl (fun _ => False) w).alloc (.cells c.cells 23)).trans hb (U := fun _ => False) (fun _ _ e => e) (fun _ _ e => e))
  clear hb hch
  go_wp2_with fail
  go_ret2
  exact ⟨rfl, K.out⟩

theorem dev_blocks' {gd gi B Y r s : Nat} {D : Nat → List UInt8} (h : IsDev w gd gi B Y D r s) :
    Calls Tryz.prog 53 #[.pointer (some ⟨gd, 0, none⟩)] w fun e w' => e = .returned (.int .i64 B) ∧ Keeps (fun _ => False) w w' :=
  (dev_blocks h).mono fun _ _ ⟨h1, q, h2⟩ => ⟨h1, h2 ▸ (Keeps.refl _ w).drewN q⟩

theorem dev_blocks_nil : Calls Tryz.prog 53 #[.pointer none] w fun e w' => e = .returned (.int .i64 0) ∧ w = w' := by
  go_enter Tryz.func53, Tryz.ntmps53
  go_wp2
  go_ret
  exact ⟨rfl, rfl⟩

theorem cache_new_nil (F : Int) : Calls Tryz.prog 103 #[.pointer none, .int .i64 F] w fun e w' => e = .returned (.tuple #[.pointer none, .int .i64 1]) ∧ w = w' := by
  go_enter Tryz.func103, Tryz.ntmps103
  go_wp2_with fail
  refine dev_blocks_nil.mono ?_
  rintro e w' ⟨rfl, rfl⟩
  go_wp2_with fail
  go_ret2
  exact ⟨rfl, rfl⟩

theorem shelf_new_nil (hc : c.In) (hr : c.Right) :
    Calls Tryz.prog 51 #[c.v, .pointer none] w fun e w' => e = .returned (.tuple #[.pointer none, .int .i64 1]) ∧ Keeps (fun _ => False) w w' := by
  have hch := fun w => conf_check (w := w) c hc
  rw [if_pos hr] at hch
  have b0 := Blk.new w 23 c.cells
  unfold Cfg.v at *
  go_enter Tryz.func51, Tryz.ntmps51
  go_wp2_with fail
  refine (hch _).mono ?_
  rintro e w1 ⟨rfl, hb⟩
  obtain ⟨c0, c1, c2, c3, c4, c5, c6, c7⟩ := Cfg.at (b0.keep hb (fun e => e))
  have K := Hd.mk (((Keeps.refl (fun _ => False) w).alloc (.cells c.cells 23)).trans hb (U := fun _ => False) (fun _ _ e => e) (fun _ _ e => e))
  clear hb hch
  go_wp2_with fail
  refine (cache_new_nil _).mono ?_
  rintro e w' ⟨rfl, rfl⟩
  go_wp2_with fail
  go_ret2
  exact ⟨rfl, K.out⟩

set_option maxRecDepth 100000 in
set_option maxHeartbeats 4000000 in
theorem shelf_new_blocks {gd gi B Y r s : Nat} {D : Nat → List UInt8} (hc : c.In) (hr : c.Right) (hd : IsDev w gd gi B Y D r s) (hne : c.blocks ≠ (B : Int)) :
    Calls Tryz.prog 51 #[c.v, .pointer (some ⟨gd, 0, none⟩)] w fun e w' => e = .returned (.tuple #[.pointer none, .int .i64 3]) ∧ Keeps (fun _ => False) w w' := by
  have hch := fun w => conf_check (w := w) c hc
  rw [if_pos hr] at hch
  have hf : 8 ≤ c.frames ∧ c.frames ≤ 64 ∧ 5 ≤ c.blocks ∧ c.blocks ≤ 65536 := by
    obtain ⟨_, h1, h2, h3, h4, _⟩ := hr
    exact ⟨h3, h4, h1, h2⟩
  have ef : Hd (c.frames = (c.frames.toNat : Int)) := ⟨by omega⟩
  have i' : ((B : Int) == c.blocks) = false := by simp; omega
  have z' : ((B : Int) != c.blocks) = true := by simp; omega
  have Xi' := Hd.mk i'
  have Xz' := Hd.mk z'
  have Xhne := Hd.mk hne
  clear i' z' hne
  have b0 := Blk.new w 23 c.cells
  have k0 := (Keeps.refl (fun _ => False) w).alloc (.cells c.cells 23)
  unfold Cfg.v at *
  go_enter Tryz.func51, Tryz.ntmps51
  go_wp2_with fail
  refine (hch _).mono ?_
  rintro e w1 ⟨rfl, hb⟩
  have b1 := b0.keep hb (fun e => e)
  have k1 := k0.trans hb (U := fun _ => False) (fun _ _ e => e) (fun _ _ e => e)
  have hcn := cache_new (F := c.frames.toNat) (hd.keep k1 (fun e => e) (fun e => e)) (by omega) (by omega)
  rw [← ef.out] at hcn
  obtain ⟨c0, c1, c2, c3, c4, c5, c6, c7⟩ := Cfg.at b1
  have z1 := k1.size
  clear hb hch k0 b0
  go_wp2_with fail
  refine hcn.mono ?_
  rintro e w2 ⟨G, rfl, hG1, hG2, hC, hbl, hft⟩
  have b2 := b1.keep (Keeps.of_below (S := fun _ => False) hbl) (fun e => e)
  have k2 := k1.trans (Keeps.of_below (S := fun _ => False) hbl) (U := fun _ => False) (fun _ _ e => e) (fun _ _ e => e)
  have hd2 := hC.dev
  rw [hG1, hG2] at hd2
  obtain ⟨c0, c1, c2, c3, c4, c5, c6, c7⟩ := Cfg.at b2
  have hk0 : Keeps (fun _ => False) w2 w2.drew := (Keeps.refl _ w2).drew
  clear hcn hbl b1
  go_wp2_with fail
  have i' := Xi'.out
  have z' := Xz'.out
  refine wp_region_held_drew (S := (fun w' => w'.cell? ⟨w.heap.size, 0, none⟩ = some (.int .i64 c.blocks) ∧ w'.cell? ⟨w.heap.size, 1, none⟩ = some (.int .i64 c.bytes) ∧ w'.cell? ⟨w.heap.size, 2, none⟩ = some (.int .i64 c.frames) ∧ w'.cell? ⟨w.heap.size, 3, none⟩ = some (.int .i64 c.fan) ∧ w'.cell? ⟨w.heap.size, 4, none⟩ = some (.int .i64 c.buffer) ∧ w'.cell? ⟨w.heap.size, 5, none⟩ = some (.int .i64 c.leaf) ∧ w'.cell? ⟨w.heap.size, 6, none⟩ = some (.int .i64 c.key) ∧ w'.cell? ⟨w.heap.size, 7, none⟩ = some (.int .i64 c.val) ∧ Keeps (fun _ => False) w2 w')) (by kernel_rfl) (by go_keep) (fun hHeld => ?_)
  refine wpAnyH_take (i := 0) (oi := ⟨_, _, _, _, _, _⟩) (v := _) rfl (by kernel_rfl) (by kernel_rfl) (by kernel_rfl) (fun _ _ _ h => h) (Or.inl ⟨by rfl, fun _ _ => rfl⟩) hHeld ?_
  (try simp only [Act.put, Act.eval, List.setIfInBounds_toArray, List.set_cons_zero, List.set_cons_succ, List.getElem?_toArray, List.getElem?_cons_succ, List.getElem?_cons_zero, Array.getD_eq_getD_getElem?, Option.getD_some])
  refine wpAnyH_take (i := 2) (oi := ⟨_, _, _, _, _, _⟩) (v := _) rfl (by kernel_rfl) (by kernel_rfl) (by kernel_rfl) (fun _ _ _ h => h) (Or.inl ⟨by rfl, fun _ _ => rfl⟩) hHeld ?_
  (try simp only [Act.put, Act.eval, List.setIfInBounds_toArray, List.set_cons_zero, List.set_cons_succ, List.getElem?_toArray, List.getElem?_cons_succ, List.getElem?_cons_zero, Array.getD_eq_getD_getElem?, Option.getD_some])
  refine wpAnyH_take (i := 3) (oi := ⟨_, _, _, _, _, _⟩) (v := ?v3) rfl (by kernel_rfl) (by kernel_rfl) (by kernel_rfl) (fun _ _ _ h => h) (Or.inl ⟨by rfl, ?hy3⟩) hHeld ?rest3
  case hy3 => ((intro w hSw; (try dsimp only at hSw); go_simp) <;> try with_reducible rfl)
  (try simp only [Act.put, Act.eval, List.setIfInBounds_toArray, List.set_cons_zero, List.set_cons_succ, List.getElem?_toArray, List.getElem?_cons_succ, List.getElem?_cons_zero, Array.getD_eq_getD_getElem?, Option.getD_some])
  refine wpAnyH_ready (rs := [1]) (by kernel_rfl) (by simp) ?_
  refine AllReadyH.cons (o := ⟨_, _, _, _, _, _⟩) rfl (fun K hK => ?_) AllReadyH.nil
  go_simp
  (go_at_call 53; refine (dev_blocks' (hd2.keep hHeld.2.2.2.2.2.2.2.2 (fun e => e) (fun e => e))).mono ?_; rintro e w' ⟨rfl, hb⟩)
  go_wp2_with fail
  refine hK.out _ _ (cfgS_keeps hHeld hb) (fun hHeld => ?_)
  clear hK K
  (try simp only [Act.put, Act.eval, List.setIfInBounds_toArray, List.set_cons_zero, List.set_cons_succ, List.getElem?_toArray, List.getElem?_cons_succ, List.getElem?_cons_zero, Array.getD_eq_getD_getElem?, Option.getD_some])
  refine wpAnyH_take (i := 4) (oi := ⟨_, _, _, _, _, _⟩) (v := (.bool true)) rfl (by kernel_rfl) (by kernel_rfl) (by kernel_rfl) (fun _ _ _ h => h) (Or.inl ⟨by rfl, fun w hSw => by first | (go_simp; done) | (go_simp; exact Xhe.out.symm) | (go_simp; exact Xhy.out.symm) | (go_simp; exact fun e => Xhne.out e.symm) | (go_simp; simp [i', z']; done) | (simp [execOp, i', z', go_sem]; done)⟩) hHeld ?_
  (try simp only [Act.put, Act.eval, List.setIfInBounds_toArray, List.set_cons_zero, List.set_cons_succ, List.getElem?_toArray, List.getElem?_cons_succ, List.getElem?_cons_zero, Array.getD_eq_getD_getElem?, Option.getD_some])
  refine wpAnyH_take (i := 5) (oi := ⟨_, _, _, _, _, _⟩) (v := _) rfl (by kernel_rfl) (by kernel_rfl) (by kernel_rfl) (fun _ _ _ h => h) (Or.inl ⟨by rfl, fun _ _ => rfl⟩) hHeld ?_
  (try simp only [Act.put, Act.eval, List.setIfInBounds_toArray, List.set_cons_zero, List.set_cons_succ, List.getElem?_toArray, List.getElem?_cons_succ, List.getElem?_cons_zero, Array.getD_eq_getD_getElem?, Option.getD_some])
  refine wpAnyH_take (i := 6) (oi := ⟨_, _, _, _, _, _⟩) (v := undef) rfl (by kernel_rfl) (by kernel_rfl) (by kernel_rfl) (fun _ _ _ h => h) (Or.inr ⟨by rfl, rfl⟩) hHeld ?_
  (try simp only [Act.put, Act.eval, List.setIfInBounds_toArray, List.set_cons_zero, List.set_cons_succ, List.getElem?_toArray, List.getElem?_cons_succ, List.getElem?_cons_zero, Array.getD_eq_getD_getElem?, Option.getD_some])
  refine wpAnyH_take (i := 7) (oi := ⟨_, _, _, _, _, _⟩) (v := undef) rfl (by kernel_rfl) (by kernel_rfl) (by kernel_rfl) (fun _ _ _ h => h) (Or.inr ⟨by rfl, rfl⟩) hHeld ?_
  (try simp only [Act.put, Act.eval, List.setIfInBounds_toArray, List.set_cons_zero, List.set_cons_succ, List.getElem?_toArray, List.getElem?_cons_succ, List.getElem?_cons_zero, Array.getD_eq_getD_getElem?, Option.getD_some])
  refine wpAnyH_take (i := 8) (oi := ⟨_, _, _, _, _, _⟩) (v := undef) rfl (by kernel_rfl) (by kernel_rfl) (by kernel_rfl) (fun _ _ _ h => h) (Or.inr ⟨by rfl, rfl⟩) hHeld ?_
  (try simp only [Act.put, Act.eval, List.setIfInBounds_toArray, List.set_cons_zero, List.set_cons_succ, List.getElem?_toArray, List.getElem?_cons_succ, List.getElem?_cons_zero, Array.getD_eq_getD_getElem?, Option.getD_some])
  refine wpAnyH_take (i := 9) (oi := ⟨_, _, _, _, _, _⟩) (v := undef) rfl (by kernel_rfl) (by kernel_rfl) (by kernel_rfl) (fun _ _ _ h => h) (Or.inr ⟨by rfl, rfl⟩) hHeld ?_
  (try simp only [Act.put, Act.eval, List.setIfInBounds_toArray, List.set_cons_zero, List.set_cons_succ, List.getElem?_toArray, List.getElem?_cons_succ, List.getElem?_cons_zero, Array.getD_eq_getD_getElem?, Option.getD_some])
  refine wpAnyH_take (i := 10) (oi := ⟨_, _, _, _, _, _⟩) (v := undef) rfl (by kernel_rfl) (by kernel_rfl) (by kernel_rfl) (fun _ _ _ h => h) (Or.inr ⟨by rfl, rfl⟩) hHeld ?_
  (try simp only [Act.put, Act.eval, List.setIfInBounds_toArray, List.set_cons_zero, List.set_cons_succ, List.getElem?_toArray, List.getElem?_cons_succ, List.getElem?_cons_zero, Array.getD_eq_getD_getElem?, Option.getD_some])
  refine wpAnyH_take (i := 11) (oi := ⟨_, _, _, _, _, _⟩) (v := _) rfl (by kernel_rfl) (by kernel_rfl) (by kernel_rfl) (fun _ _ _ h => h) (Or.inl ⟨by rfl, fun _ _ => rfl⟩) hHeld ?_
  (try simp only [Act.put, Act.eval, List.setIfInBounds_toArray, List.set_cons_zero, List.set_cons_succ, List.getElem?_toArray, List.getElem?_cons_succ, List.getElem?_cons_zero, Array.getD_eq_getD_getElem?, Option.getD_some])
  refine wpAnyH_done (by kernel_rfl) ?_ _
  have kf := k2.trans hHeld.2.2.2.2.2.2.2.2 (U := fun _ => False) (fun _ _ e => e) (fun _ _ e => e)
  clear hft hC hd2 hHeld hG1 hG2 hd hr hc i' z' hk0 ef
  go_wp2
  go_ret2
  exact ⟨rfl, kf⟩

set_option maxRecDepth 100000 in
set_option maxHeartbeats 4000000 in
theorem shelf_new_bytes {gd gi B Y r s : Nat} {D : Nat → List UInt8} (hc : c.In) (hr : c.Right) (hd : IsDev w gd gi B Y D r s) (he : c.blocks = (B : Int)) (hne : c.bytes ≠ (Y : Int)) :
    Calls Tryz.prog 51 #[c.v, .pointer (some ⟨gd, 0, none⟩)] w fun e w' => e = .returned (.tuple #[.pointer none, .int .i64 3]) ∧ Keeps (fun _ => False) w w' := by
  have hch := fun w => conf_check (w := w) c hc
  rw [if_pos hr] at hch
  have hf : 8 ≤ c.frames ∧ c.frames ≤ 64 ∧ 5 ≤ c.blocks ∧ c.blocks ≤ 65536 := by
    obtain ⟨_, h1, h2, h3, h4, _⟩ := hr
    exact ⟨h3, h4, h1, h2⟩
  have ef : Hd (c.frames = (c.frames.toNat : Int)) := ⟨by omega⟩
  have i' : ((Y : Int) == c.bytes) = false := by simp; omega
  have z' : ((B : Int) == c.blocks) = true := by simp; omega
  have Xi' := Hd.mk i'
  have Xz' := Hd.mk z'
  have Xhne := Hd.mk hne
  have Xhe := Hd.mk he
  clear i' z' hne he
  have b0 := Blk.new w 23 c.cells
  have k0 := (Keeps.refl (fun _ => False) w).alloc (.cells c.cells 23)
  unfold Cfg.v at *
  go_enter Tryz.func51, Tryz.ntmps51
  go_wp2_with fail
  refine (hch _).mono ?_
  rintro e w1 ⟨rfl, hb⟩
  have b1 := b0.keep hb (fun e => e)
  have k1 := k0.trans hb (U := fun _ => False) (fun _ _ e => e) (fun _ _ e => e)
  have hcn := cache_new (F := c.frames.toNat) (hd.keep k1 (fun e => e) (fun e => e)) (by omega) (by omega)
  rw [← ef.out] at hcn
  obtain ⟨c0, c1, c2, c3, c4, c5, c6, c7⟩ := Cfg.at b1
  have z1 := k1.size
  clear hb hch k0 b0
  go_wp2_with fail
  refine hcn.mono ?_
  rintro e w2 ⟨G, rfl, hG1, hG2, hC, hbl, hft⟩
  have b2 := b1.keep (Keeps.of_below (S := fun _ => False) hbl) (fun e => e)
  have k2 := k1.trans (Keeps.of_below (S := fun _ => False) hbl) (U := fun _ => False) (fun _ _ e => e) (fun _ _ e => e)
  have hd2 := hC.dev
  rw [hG1, hG2] at hd2
  obtain ⟨c0, c1, c2, c3, c4, c5, c6, c7⟩ := Cfg.at b2
  have hk0 : Keeps (fun _ => False) w2 w2.drew := (Keeps.refl _ w2).drew
  clear hcn hbl b1
  go_wp2_with fail
  have i' := Xi'.out
  have z' := Xz'.out
  refine wp_region_held_drew (S := (fun w' => w'.cell? ⟨w.heap.size, 0, none⟩ = some (.int .i64 c.blocks) ∧ w'.cell? ⟨w.heap.size, 1, none⟩ = some (.int .i64 c.bytes) ∧ w'.cell? ⟨w.heap.size, 2, none⟩ = some (.int .i64 c.frames) ∧ w'.cell? ⟨w.heap.size, 3, none⟩ = some (.int .i64 c.fan) ∧ w'.cell? ⟨w.heap.size, 4, none⟩ = some (.int .i64 c.buffer) ∧ w'.cell? ⟨w.heap.size, 5, none⟩ = some (.int .i64 c.leaf) ∧ w'.cell? ⟨w.heap.size, 6, none⟩ = some (.int .i64 c.key) ∧ w'.cell? ⟨w.heap.size, 7, none⟩ = some (.int .i64 c.val) ∧ Keeps (fun _ => False) w2 w')) (by kernel_rfl) (by go_keep) (fun hHeld => ?_)
  refine wpAnyH_take (i := 0) (oi := ⟨_, _, _, _, _, _⟩) (v := _) rfl (by kernel_rfl) (by kernel_rfl) (by kernel_rfl) (fun _ _ _ h => h) (Or.inl ⟨by rfl, fun _ _ => rfl⟩) hHeld ?_
  (try simp only [Act.put, Act.eval, List.setIfInBounds_toArray, List.set_cons_zero, List.set_cons_succ, List.getElem?_toArray, List.getElem?_cons_succ, List.getElem?_cons_zero, Array.getD_eq_getD_getElem?, Option.getD_some])
  refine wpAnyH_take (i := 2) (oi := ⟨_, _, _, _, _, _⟩) (v := _) rfl (by kernel_rfl) (by kernel_rfl) (by kernel_rfl) (fun _ _ _ h => h) (Or.inl ⟨by rfl, fun _ _ => rfl⟩) hHeld ?_
  (try simp only [Act.put, Act.eval, List.setIfInBounds_toArray, List.set_cons_zero, List.set_cons_succ, List.getElem?_toArray, List.getElem?_cons_succ, List.getElem?_cons_zero, Array.getD_eq_getD_getElem?, Option.getD_some])
  refine wpAnyH_take (i := 3) (oi := ⟨_, _, _, _, _, _⟩) (v := ?v3) rfl (by kernel_rfl) (by kernel_rfl) (by kernel_rfl) (fun _ _ _ h => h) (Or.inl ⟨by rfl, ?hy3⟩) hHeld ?rest3
  case hy3 => ((intro w hSw; (try dsimp only at hSw); go_simp) <;> try with_reducible rfl)
  (try simp only [Act.put, Act.eval, List.setIfInBounds_toArray, List.set_cons_zero, List.set_cons_succ, List.getElem?_toArray, List.getElem?_cons_succ, List.getElem?_cons_zero, Array.getD_eq_getD_getElem?, Option.getD_some])
  refine wpAnyH_ready (rs := [1]) (by kernel_rfl) (by simp) ?_
  refine AllReadyH.cons (o := ⟨_, _, _, _, _, _⟩) rfl (fun K hK => ?_) AllReadyH.nil
  go_simp
  (go_at_call 53; refine (dev_blocks' (hd2.keep hHeld.2.2.2.2.2.2.2.2 (fun e => e) (fun e => e))).mono ?_; rintro e w' ⟨rfl, hb⟩)
  go_wp2_with fail
  refine hK.out _ _ (cfgS_keeps hHeld hb) (fun hHeld => ?_)
  clear hK K
  (try simp only [Act.put, Act.eval, List.setIfInBounds_toArray, List.set_cons_zero, List.set_cons_succ, List.getElem?_toArray, List.getElem?_cons_succ, List.getElem?_cons_zero, Array.getD_eq_getD_getElem?, Option.getD_some])
  refine wpAnyH_take (i := 4) (oi := ⟨_, _, _, _, _, _⟩) (v := (.bool false)) rfl (by kernel_rfl) (by kernel_rfl) (by kernel_rfl) (fun _ _ _ h => h) (Or.inl ⟨by rfl, fun w hSw => by first | (go_simp; done) | (go_simp; exact Xhe.out.symm) | (go_simp; exact Xhy.out.symm) | (go_simp; exact fun e => Xhne.out e.symm) | (go_simp; simp [i', z']; done) | (simp [execOp, i', z', go_sem]; done)⟩) hHeld ?_
  (try simp only [Act.put, Act.eval, List.setIfInBounds_toArray, List.set_cons_zero, List.set_cons_succ, List.getElem?_toArray, List.getElem?_cons_succ, List.getElem?_cons_zero, Array.getD_eq_getD_getElem?, Option.getD_some])
  refine wpAnyH_take (i := 5) (oi := ⟨_, _, _, _, _, _⟩) (v := _) rfl (by kernel_rfl) (by kernel_rfl) (by kernel_rfl) (fun _ _ _ h => h) (Or.inl ⟨by rfl, fun _ _ => rfl⟩) hHeld ?_
  (try simp only [Act.put, Act.eval, List.setIfInBounds_toArray, List.set_cons_zero, List.set_cons_succ, List.getElem?_toArray, List.getElem?_cons_succ, List.getElem?_cons_zero, Array.getD_eq_getD_getElem?, Option.getD_some])
  refine wpAnyH_take (i := 6) (oi := ⟨_, _, _, _, _, _⟩) (v := _) rfl (by kernel_rfl) (by kernel_rfl) (by kernel_rfl) (fun _ _ _ h => h) (Or.inl ⟨by rfl, fun _ _ => rfl⟩) hHeld ?_
  (try simp only [Act.put, Act.eval, List.setIfInBounds_toArray, List.set_cons_zero, List.set_cons_succ, List.getElem?_toArray, List.getElem?_cons_succ, List.getElem?_cons_zero, Array.getD_eq_getD_getElem?, Option.getD_some])
  refine wpAnyH_take (i := 8) (oi := ⟨_, _, _, _, _, _⟩) (v := _) rfl (by kernel_rfl) (by kernel_rfl) (by kernel_rfl) (fun _ _ _ h => h) (Or.inl ⟨by rfl, fun _ _ => rfl⟩) hHeld ?_
  (try simp only [Act.put, Act.eval, List.setIfInBounds_toArray, List.set_cons_zero, List.set_cons_succ, List.getElem?_toArray, List.getElem?_cons_succ, List.getElem?_cons_zero, Array.getD_eq_getD_getElem?, Option.getD_some])
  refine wpAnyH_take (i := 9) (oi := ⟨_, _, _, _, _, _⟩) (v := ?v9) rfl (by kernel_rfl) (by kernel_rfl) (by kernel_rfl) (fun _ _ _ h => h) (Or.inl ⟨by rfl, ?hy9⟩) hHeld ?rest9
  case hy9 => ((intro w hSw; (try dsimp only at hSw); go_simp) <;> try with_reducible rfl)
  (try simp only [Act.put, Act.eval, List.setIfInBounds_toArray, List.set_cons_zero, List.set_cons_succ, List.getElem?_toArray, List.getElem?_cons_succ, List.getElem?_cons_zero, Array.getD_eq_getD_getElem?, Option.getD_some])
  refine wpAnyH_ready (rs := [7]) (by kernel_rfl) (by simp) ?_
  refine AllReadyH.cons (o := ⟨_, _, _, _, _, _⟩) rfl (fun K hK => ?_) AllReadyH.nil
  go_simp
  (go_at_call 54; refine (dev_bytes (hd2.keep hHeld.2.2.2.2.2.2.2.2 (fun e => e) (fun e => e))).mono ?_; rintro e w' ⟨rfl, rfl⟩)
  go_wp2_with fail
  refine hK.out _ _ hHeld (fun hHeld => ?_)
  clear hK K
  (try simp only [Act.put, Act.eval, List.setIfInBounds_toArray, List.set_cons_zero, List.set_cons_succ, List.getElem?_toArray, List.getElem?_cons_succ, List.getElem?_cons_zero, Array.getD_eq_getD_getElem?, Option.getD_some])
  refine wpAnyH_take (i := 10) (oi := ⟨_, _, _, _, _, _⟩) (v := (.bool true)) rfl (by kernel_rfl) (by kernel_rfl) (by kernel_rfl) (fun _ _ _ h => h) (Or.inl ⟨by rfl, fun w hSw => by first | (go_simp; done) | (go_simp; exact Xhe.out.symm) | (go_simp; exact Xhy.out.symm) | (go_simp; exact fun e => Xhne.out e.symm) | (go_simp; simp [i', z']; done) | (simp [execOp, i', z', go_sem]; done)⟩) hHeld ?_
  (try simp only [Act.put, Act.eval, List.setIfInBounds_toArray, List.set_cons_zero, List.set_cons_succ, List.getElem?_toArray, List.getElem?_cons_succ, List.getElem?_cons_zero, Array.getD_eq_getD_getElem?, Option.getD_some])
  refine wpAnyH_take (i := 11) (oi := ⟨_, _, _, _, _, _⟩) (v := _) rfl (by kernel_rfl) (by kernel_rfl) (by kernel_rfl) (fun _ _ _ h => h) (Or.inl ⟨by rfl, fun _ _ => rfl⟩) hHeld ?_
  (try simp only [Act.put, Act.eval, List.setIfInBounds_toArray, List.set_cons_zero, List.set_cons_succ, List.getElem?_toArray, List.getElem?_cons_succ, List.getElem?_cons_zero, Array.getD_eq_getD_getElem?, Option.getD_some])
  refine wpAnyH_done (by kernel_rfl) ?_ _
  have kf := k2.trans hHeld.2.2.2.2.2.2.2.2 (U := fun _ => False) (fun _ _ e => e) (fun _ _ e => e)
  clear hft hC hd2 hHeld hG1 hG2 hd hr hc i' z' hk0 ef
  go_wp2
  go_ret2
  exact ⟨rfl, kf⟩

set_option maxRecDepth 100000 in
set_option maxHeartbeats 4000000 in
theorem shelf_new {gd gi B Y r s : Nat} {D : Nat → List UInt8} (hc : c.In) (hr : c.Right) (hd : IsDev w gd gi B Y D r s) (he : c.blocks = (B : Int)) (hy : c.bytes = (Y : Int)) (hT : Tab w) (hgt : gd ≠ 0) (hit : gi ≠ 0) :
    Calls Tryz.prog 51 #[c.v, .pointer (some ⟨gd, 0, none⟩)] w fun e w' => ∃ S, e = .returned (.tuple #[.pointer (some ⟨S.gs, 0, none⟩), .int .i64 0]) ∧ IsShelf w' S c 0 D (fun j => decide (j = 0)) r s ∧ S.G.gd = gd ∧ S.G.gi = gi ∧ Keeps (fun _ => False) w w' ∧ (∀ k, SFoot S k → k = gd ∨ k = gi ∨ w.heap.size ≤ k) := by
  have hch := fun w => conf_check (w := w) c hc
  rw [if_pos hr] at hch
  have hf : 8 ≤ c.frames ∧ c.frames ≤ 64 ∧ 5 ≤ c.blocks ∧ c.blocks ≤ 65536 := by
    obtain ⟨_, h1, h2, h3, h4, _⟩ := hr
    exact ⟨h3, h4, h1, h2⟩
  have ef : Hd (c.frames = (c.frames.toNat : Int)) := ⟨by omega⟩
  have i' : ((Y : Int) == c.bytes) = true := by simp; omega
  have z' : ((B : Int) == c.blocks) = true := by simp; omega
  have Xi' := Hd.mk i'
  have Xz' := Hd.mk z'
  have Xhe := Hd.mk he
  have Xhy := Hd.mk hy
  clear i' z' he hy
  have b0 := Blk.new w 23 c.cells
  have k0 := (Keeps.refl (fun _ => False) w).alloc (.cells c.cells 23)
  unfold Cfg.v at *
  go_enter Tryz.func51, Tryz.ntmps51
  go_wp2_with fail
  refine (hch _).mono ?_
  rintro e w1 ⟨rfl, hb⟩
  have b1 := b0.keep hb (fun e => e)
  have k1 := k0.trans hb (U := fun _ => False) (fun _ _ e => e) (fun _ _ e => e)
  have hcn := cache_new (F := c.frames.toNat) (hd.keep k1 (fun e => e) (fun e => e)) (by omega) (by omega)
  rw [← ef.out] at hcn
  obtain ⟨c0, c1, c2, c3, c4, c5, c6, c7⟩ := Cfg.at b1
  have z1 := k1.size
  clear hb hch k0 b0
  go_wp2_with fail
  refine hcn.mono ?_
  rintro e w2 ⟨G, rfl, hG1, hG2, hC, hbl, hft⟩
  have b2 := b1.keep (Keeps.of_below (S := fun _ => False) hbl) (fun e => e)
  have k2 := k1.trans (Keeps.of_below (S := fun _ => False) hbl) (U := fun _ => False) (fun _ _ e => e) (fun _ _ e => e)
  have hd2 := hC.dev
  rw [hG1, hG2] at hd2
  obtain ⟨c0, c1, c2, c3, c4, c5, c6, c7⟩ := Cfg.at b2
  have hk0 : Keeps (fun _ => False) w2 w2.drew := (Keeps.refl _ w2).drew
  clear hcn hbl b1
  go_wp2_with fail
  have i' := Xi'.out
  have z' := Xz'.out
  refine wp_region_held_drew (S := (fun w' => w'.cell? ⟨w.heap.size, 0, none⟩ = some (.int .i64 c.blocks) ∧ w'.cell? ⟨w.heap.size, 1, none⟩ = some (.int .i64 c.bytes) ∧ w'.cell? ⟨w.heap.size, 2, none⟩ = some (.int .i64 c.frames) ∧ w'.cell? ⟨w.heap.size, 3, none⟩ = some (.int .i64 c.fan) ∧ w'.cell? ⟨w.heap.size, 4, none⟩ = some (.int .i64 c.buffer) ∧ w'.cell? ⟨w.heap.size, 5, none⟩ = some (.int .i64 c.leaf) ∧ w'.cell? ⟨w.heap.size, 6, none⟩ = some (.int .i64 c.key) ∧ w'.cell? ⟨w.heap.size, 7, none⟩ = some (.int .i64 c.val) ∧ Keeps (fun _ => False) w2 w')) (by kernel_rfl) (by go_keep) (fun hHeld => ?_)
  refine wpAnyH_take (i := 0) (oi := ⟨_, _, _, _, _, _⟩) (v := _) rfl (by kernel_rfl) (by kernel_rfl) (by kernel_rfl) (fun _ _ _ h => h) (Or.inl ⟨by rfl, fun _ _ => rfl⟩) hHeld ?_
  (try simp only [Act.put, Act.eval, List.setIfInBounds_toArray, List.set_cons_zero, List.set_cons_succ, List.getElem?_toArray, List.getElem?_cons_succ, List.getElem?_cons_zero, Array.getD_eq_getD_getElem?, Option.getD_some])
  refine wpAnyH_take (i := 2) (oi := ⟨_, _, _, _, _, _⟩) (v := _) rfl (by kernel_rfl) (by kernel_rfl) (by kernel_rfl) (fun _ _ _ h => h) (Or.inl ⟨by rfl, fun _ _ => rfl⟩) hHeld ?_
  (try simp only [Act.put, Act.eval, List.setIfInBounds_toArray, List.set_cons_zero, List.set_cons_succ, List.getElem?_toArray, List.getElem?_cons_succ, List.getElem?_cons_zero, Array.getD_eq_getD_getElem?, Option.getD_some])
  refine wpAnyH_take (i := 3) (oi := ⟨_, _, _, _, _, _⟩) (v := ?v3) rfl (by kernel_rfl) (by kernel_rfl) (by kernel_rfl) (fun _ _ _ h => h) (Or.inl ⟨by rfl, ?hy3⟩) hHeld ?rest3
  case hy3 => ((intro w hSw; (try dsimp only at hSw); go_simp) <;> try with_reducible rfl)
  (try simp only [Act.put, Act.eval, List.setIfInBounds_toArray, List.set_cons_zero, List.set_cons_succ, List.getElem?_toArray, List.getElem?_cons_succ, List.getElem?_cons_zero, Array.getD_eq_getD_getElem?, Option.getD_some])
  refine wpAnyH_ready (rs := [1]) (by kernel_rfl) (by simp) ?_
  refine AllReadyH.cons (o := ⟨_, _, _, _, _, _⟩) rfl (fun K hK => ?_) AllReadyH.nil
  go_simp
  (go_at_call 53; refine (dev_blocks' (hd2.keep hHeld.2.2.2.2.2.2.2.2 (fun e => e) (fun e => e))).mono ?_; rintro e w' ⟨rfl, hb⟩)
  go_wp2_with fail
  refine hK.out _ _ (cfgS_keeps hHeld hb) (fun hHeld => ?_)
  clear hK K
  (try simp only [Act.put, Act.eval, List.setIfInBounds_toArray, List.set_cons_zero, List.set_cons_succ, List.getElem?_toArray, List.getElem?_cons_succ, List.getElem?_cons_zero, Array.getD_eq_getD_getElem?, Option.getD_some])
  refine wpAnyH_take (i := 4) (oi := ⟨_, _, _, _, _, _⟩) (v := (.bool false)) rfl (by kernel_rfl) (by kernel_rfl) (by kernel_rfl) (fun _ _ _ h => h) (Or.inl ⟨by rfl, fun w hSw => by first | (go_simp; done) | (go_simp; exact Xhe.out.symm) | (go_simp; exact Xhy.out.symm) | (go_simp; exact fun e => Xhne.out e.symm) | (go_simp; simp [i', z']; done) | (simp [execOp, i', z', go_sem]; done)⟩) hHeld ?_
  (try simp only [Act.put, Act.eval, List.setIfInBounds_toArray, List.set_cons_zero, List.set_cons_succ, List.getElem?_toArray, List.getElem?_cons_succ, List.getElem?_cons_zero, Array.getD_eq_getD_getElem?, Option.getD_some])
  refine wpAnyH_take (i := 5) (oi := ⟨_, _, _, _, _, _⟩) (v := _) rfl (by kernel_rfl) (by kernel_rfl) (by kernel_rfl) (fun _ _ _ h => h) (Or.inl ⟨by rfl, fun _ _ => rfl⟩) hHeld ?_
  (try simp only [Act.put, Act.eval, List.setIfInBounds_toArray, List.set_cons_zero, List.set_cons_succ, List.getElem?_toArray, List.getElem?_cons_succ, List.getElem?_cons_zero, Array.getD_eq_getD_getElem?, Option.getD_some])
  refine wpAnyH_take (i := 6) (oi := ⟨_, _, _, _, _, _⟩) (v := _) rfl (by kernel_rfl) (by kernel_rfl) (by kernel_rfl) (fun _ _ _ h => h) (Or.inl ⟨by rfl, fun _ _ => rfl⟩) hHeld ?_
  (try simp only [Act.put, Act.eval, List.setIfInBounds_toArray, List.set_cons_zero, List.set_cons_succ, List.getElem?_toArray, List.getElem?_cons_succ, List.getElem?_cons_zero, Array.getD_eq_getD_getElem?, Option.getD_some])
  refine wpAnyH_take (i := 8) (oi := ⟨_, _, _, _, _, _⟩) (v := _) rfl (by kernel_rfl) (by kernel_rfl) (by kernel_rfl) (fun _ _ _ h => h) (Or.inl ⟨by rfl, fun _ _ => rfl⟩) hHeld ?_
  (try simp only [Act.put, Act.eval, List.setIfInBounds_toArray, List.set_cons_zero, List.set_cons_succ, List.getElem?_toArray, List.getElem?_cons_succ, List.getElem?_cons_zero, Array.getD_eq_getD_getElem?, Option.getD_some])
  refine wpAnyH_take (i := 9) (oi := ⟨_, _, _, _, _, _⟩) (v := ?v9) rfl (by kernel_rfl) (by kernel_rfl) (by kernel_rfl) (fun _ _ _ h => h) (Or.inl ⟨by rfl, ?hy9⟩) hHeld ?rest9
  case hy9 => ((intro w hSw; (try dsimp only at hSw); go_simp) <;> try with_reducible rfl)
  (try simp only [Act.put, Act.eval, List.setIfInBounds_toArray, List.set_cons_zero, List.set_cons_succ, List.getElem?_toArray, List.getElem?_cons_succ, List.getElem?_cons_zero, Array.getD_eq_getD_getElem?, Option.getD_some])
  refine wpAnyH_ready (rs := [7]) (by kernel_rfl) (by simp) ?_
  refine AllReadyH.cons (o := ⟨_, _, _, _, _, _⟩) rfl (fun K hK => ?_) AllReadyH.nil
  go_simp
  (go_at_call 54; refine (dev_bytes (hd2.keep hHeld.2.2.2.2.2.2.2.2 (fun e => e) (fun e => e))).mono ?_; rintro e w' ⟨rfl, rfl⟩)
  go_wp2_with fail
  refine hK.out _ _ hHeld (fun hHeld => ?_)
  clear hK K
  (try simp only [Act.put, Act.eval, List.setIfInBounds_toArray, List.set_cons_zero, List.set_cons_succ, List.getElem?_toArray, List.getElem?_cons_succ, List.getElem?_cons_zero, Array.getD_eq_getD_getElem?, Option.getD_some])
  refine wpAnyH_take (i := 10) (oi := ⟨_, _, _, _, _, _⟩) (v := (.bool false)) rfl (by kernel_rfl) (by kernel_rfl) (by kernel_rfl) (fun _ _ _ h => h) (Or.inl ⟨by rfl, fun w hSw => by first | (go_simp; done) | (go_simp; exact Xhe.out.symm) | (go_simp; exact Xhy.out.symm) | (go_simp; exact fun e => Xhne.out e.symm) | (go_simp; simp [i', z']; done) | (simp [execOp, i', z', go_sem]; done)⟩) hHeld ?_
  (try simp only [Act.put, Act.eval, List.setIfInBounds_toArray, List.set_cons_zero, List.set_cons_succ, List.getElem?_toArray, List.getElem?_cons_succ, List.getElem?_cons_zero, Array.getD_eq_getD_getElem?, Option.getD_some])
  refine wpAnyH_take (i := 11) (oi := ⟨_, _, _, _, _, _⟩) (v := _) rfl (by kernel_rfl) (by kernel_rfl) (by kernel_rfl) (fun _ _ _ h => h) (Or.inl ⟨by rfl, fun _ _ => rfl⟩) hHeld ?_
  (try simp only [Act.put, Act.eval, List.setIfInBounds_toArray, List.set_cons_zero, List.set_cons_succ, List.getElem?_toArray, List.getElem?_cons_succ, List.getElem?_cons_zero, Array.getD_eq_getD_getElem?, Option.getD_some])
  refine wpAnyH_done (by kernel_rfl) ?_ _
  have k3 := k2.trans hHeld.2.2.2.2.2.2.2.2 (U := fun _ => False) (fun _ _ e => e) (fun _ _ e => e)
  obtain ⟨c0, c1, c2, c3, c4, c5, c6, c7, kk⟩ := hHeld
  have b3 := b2.keep kk (fun e => e)
  have hC3 := hC.keep (S := fun _ => False) kk (fun _ _ e => e)
  have eb : c.blocks = (c.blocks.toNat : Int) := by omega
  have hpn := pool_new (w := _) c.blocks.toNat (by omega) (by omega) (hT.keeps k3 (fun e => e))
  rw [← eb] at hpn
  clear eb
  have K3 := Hd.mk k3
  have HT := Hd.mk (And.intro hT.lt (And.intro hgt hit))
  have KK := Hd.mk kk
  have HF := Hd.mk hft
  have HG := Hd.mk (And.intro hG1 hG2)
  have HR := Hd.mk (And.intro hc hr)
  have HC := Hd.mk hC3
  clear hk0 k3 kk i' z' hC hft hG1 hG2 hd hr hc hd2 ef hC3
  go_wp2_with fail
  refine hpn.mono ?_
  rintro e w4 ⟨gp, gr, gw, rfl, hP, hbl, hg1, hg2, hg3⟩
  have b4 := b3.keep (Keeps.of_below (S := fun _ => False) hbl) (fun e => e)
  have k4 := K3.out.trans (Keeps.of_below (S := fun _ => False) hbl) (U := fun _ => False) (fun _ _ e => e) (fun _ _ e => e)
  have hC4 := HC.out.keep (S := fun _ => False) (Keeps.of_below hbl) (fun _ _ e => e)
  obtain ⟨c0, c1, c2, c3, c4, c5, c6, c7⟩ := Cfg.at b4
  have z3 := K3.out.size
  have z4 := hbl.size
  have K4 := Hd.mk k4
  have P4 := Hd.mk hP
  have C4 := Hd.mk hC4
  have Q4 := Hd.mk (And.intro hg1 (And.intro hg2 hg3))
  clear hpn hbl b4 k4 hP hC4 b3 b2 k2 k1 hT hgt hit hg1 hg2 hg3
  go_wp2_with fail
  go_ret2
  have eB : c.blocks.toNat = B := by have := Xhe.out; omega
  have eY : c.bytes.toNat = Y := by have := Xhy.out; omega
  obtain ⟨q1, q2, q3⟩ := Q4.out
  have kA : Keeps (fun _ => False) w4 (w4.alloc (.cells (shelfCells c ⟨w4.heap.size, G, gp, gr, gw⟩ 0) 119)) := (Keeps.refl _ w4).alloc _
  have eA : (w4.alloc (.cells (shelfCells c ⟨w4.heap.size, G, gp, gr, gw⟩ 0) 119)) = w4.alloc (.cells #[.int .i64 c.blocks, .int .i64 c.bytes, .int .i64 c.frames, .int .i64 c.fan, .int .i64 c.buffer, .int .i64 c.leaf, .int .i64 c.key, .int .i64 c.val, .pointer (some ⟨gd, 0, none⟩), .pointer (some ⟨G.gc, 0, none⟩), .pointer (some ⟨gp, 0, none⟩), .int .u32 0] 119) := by
    simp [shelfCells, HG.out.1]
  rw [← eA]
  refine ⟨⟨w4.heap.size, G, gp, gr, gw⟩, rfl, ⟨Blk.new w4 _ _, HR.out.1, HR.out.2, ⟨newC c.frames.toNat D r s, ?_, (newC_fine _ _ _ _).1, fun i _ => (newC_fine _ _ _ _).2 i, rfl, rfl⟩, P4.out.keep kA (fun e => e) (fun e => e) (fun e => e) (fun e => e), ?_⟩, HG.out.1, HG.out.2, K4.out.trans kA (fun _ _ e => e) (fun _ _ e => e), ?_⟩
  · have := C4.out.keep (S := fun _ => False) kA (fun _ _ e => e)
    rw [eB, eY]
    exact this
  · intro e
    rcases HF.out _ e with e | e | e
    · exact HT.out.2.1 e.symm
    · exact HT.out.2.2 e.symm
    · have := HT.out.1
      omega
  · rintro x (hx | rfl | rfl | rfl | rfl)
    · rcases HF.out x hx with e | e | e
      · exact .inl e
      · exact .inr (.inl e)
      · exact .inr (.inr (by omega))
    · exact .inr (.inr (by show _ ≤ w4.heap.size; omega))
    · exact .inr (.inr (by omega))
    · exact .inr (.inr (by omega))
    · exact .inr (.inr (by omega))

end
end Go.Proofs.Sg
