/- The cache's Unpin. -/
import Derived.Test.YthkbpcnbnhiefaaGreatDoorCache5
namespace Go.Proofs.Sg
open Go.RowKit

section
variable {w w' : World} {G : Ids} {F blocks bytes : Nat} {c : Cs}

def unpinC (c : Cs) (f : Nat) : Cs := { c with fr := upd c.fr f { c.fr f with pins := (c.fr f).pins - 1 }, order := if (c.fr f).pins = 1 then f :: c.order else c.order }

theorem CInv.unpin (h : CInv F blocks bytes none c) (f : Nat) (hf : f < F) (hu : (c.fr f).used = true) (hp : 0 < (c.fr f).pins) : CInv F blocks bytes none (unpinC c f) := by
  have key : ∀ a, ((upd c.fr f { c.fr f with pins := (c.fr f).pins - 1 }) a).used = (c.fr a).used ∧ ((upd c.fr f { c.fr f with pins := (c.fr f).pins - 1 }) a).block = (c.fr a).block ∧ ((upd c.fr f { c.fr f with pins := (c.fr f).pins - 1 }) a).bs = (c.fr a).bs := by
    intro a
    by_cases e : a = f
    · subst e; simp [upd]
    · simp [upd, e]
  refine ⟨h.hF, fun i g => ?_, fun g => ?_, h.empN, fun g => ?_, fun g hg => ?_, fun g hg => ?_⟩
  · show c.at_ i = some g ↔ _
    rw [h.at_ i g]; simp only [unpinC, (key g).1, (key g).2.1]
  · show g ∈ c.empty ↔ _
    rw [h.emp g]; simp only [unpinC, (key g).1]
  · show g ∈ (if (c.fr f).pins = 1 then f :: c.order else c.order) ↔ g < F ∧ (upd c.fr f { c.fr f with pins := (c.fr f).pins - 1 } g).used = true ∧ (upd c.fr f { c.fr f with pins := (c.fr f).pins - 1 } g).pins = 0
    rw [(key g).1]
    by_cases e : g = f
    · subst e
      rw [upd_same]
      split
      · rename_i h1; simp [hf, hu, h1]
      · rename_i h1
        rw [h.ord g]
        constructor
        · rintro ⟨_, _, h2⟩; omega
        · rintro ⟨_, _, h2⟩
          have h2 : (c.fr g).pins - 1 = 0 := h2
          omega
    · rw [upd_other _ _ e, ← h.ord g]
      split
      · simp [e]
      · rfl
  · simp only [unpinC, (key g).1] at hg
    simp only [unpinC, (key g).2.1, (key g).2.2]
    exact h.blk g hg
  · simp only [unpinC, (key g).1] at hg
    have e : g ≠ f := by rintro rfl; rw [hu] at hg; cases hg
    simp only [unpinC, upd_other _ _ e]
    exact h.idle g hg

theorem unpin_same (c : Cs) (f a : Nat) : ((unpinC c f).fr a).used = (c.fr a).used ∧ ((unpinC c f).fr a).bs = (c.fr a).bs := by
  by_cases e : a = f
  · subst e; simp [unpinC, upd]
  · simp [unpinC, upd, e]

set_option maxRecDepth 100000 in
set_option maxHeartbeats 1600000 in
theorem cache_unpin (h : IsCache w G F blocks bytes none c) (i f : Nat) (hi : i < blocks) (hf : c.at_ i = some f) (hp0 : 0 < (c.fr f).pins) (hp : (c.fr f).pins < 4611686018427387904) :
    Calls Tryz.prog 68 #[.pointer (some ⟨G.gc, 0, none⟩), .int .u32 i] w fun e w' => e = .returned (.int .i64 0) ∧ IsCache w' G F blocks bytes none (unpinC c f) ∧ Keeps (CFoot G) w w' := by
  have t := h.tags
  obtain ⟨gb, cb, hfr⟩ := h.frames
  have hat := (h.inv.at_ i f).1 hf
  have hfF := hat.1
  have hF2 := h.inv.hF.2
  have hbk : blocks ≤ 65536 := h.dev.2.2.2.1
  have c2 : w.cell? ⟨G.gc, 2, none⟩ = some (.map (some G.gm)) := h.box.cell 2
  have c4 : w.cell? ⟨G.gc, 4, none⟩ = some (.pointer (some ⟨G.gch, 0, none⟩)) := h.box.cell 4
  obtain ⟨p, hpe⟩ : ∃ p, (c.fr f).pins = p + 1 := ⟨(c.fr f).pins - 1, by omega⟩
  obtain ⟨p0, p1, p2, p3⟩ := hfr.cells hfF
  have p3' : w.cell? ⟨G.gf, f * 4 + 3, none⟩ = some (.int .i64 ((p : Int) + 1)) := p3.trans (by rw [hpe]; rfl)
  have zf := hfr.rows.frozen (f * 4 + 3)
  have hcl := tag_lt t.c
  have hfl := tag_lt t.f
  have hne : G.gf ≠ G.gc := by have N := t.nes; simp [N]
  have hpin := cache_pinned h i f (by omega) hf hp0
  have hpb : p < 4611686018427387904 := by omega
  have A0 := Hd.mk hf
  have A1 := Hd.mk hat
  have A2 := Hd.mk hpin
  have A3 := Hd.mk hpe
  have hno : f ∉ c.order := fun hm => by have := ((h.inv.ord f).1 hm).2.2; omega
  clear hf hat p0 p1 p2 p3 hpin hpe hp0 hp
  by_cases hz : p = 0
  · subst hz
    go_enter Tryz.func68, Tryz.ntmps68
    go_wp2_with fail
    refine A2.out.mono ?_
    rintro e w' ⟨rfl, q, rfl⟩
    go_wp2_with fail
    generalize hW1 : (w.drewN q).setCell ⟨G.gf, f * 4 + 3, none⟩ (.int .i64 0) = W1
    have hk1 : Keeps (fun k => k = G.gf) w W1 := by
      rw [← hW1]
      exact ((Keeps.refl (fun k => k = G.gf) w).drewN q).setCell (fun _ => rfl) _
    have hR1 : Blk W1 G.gf 190 (grid 4 F (frF bytes (upd c.fr f { c.fr f with pins := (c.fr f).pins - 1 }) gb cb)) := by
      rw [← hW1, ← frF_pins hfF, A3.out]
      exact (hfr.rows.drewN q).set_ _ _
    have N := t.nes
    have hc1 : IsChain W1.drew G.gch G.gl F c.order := h.chain.keep hk1.drew (by simp [N]) (by simp [N])
    have c2' : W1.cell? ⟨G.gc, 2, none⟩ = some (.map (some G.gm)) := (World.cell?_of_block (hk1.block _ hcl (by simp [N]))).trans c2
    have c4' : W1.cell? ⟨G.gc, 4, none⟩ = some (.pointer (some ⟨G.gch, 0, none⟩)) := (World.cell?_of_block (hk1.block _ hcl (by simp [N]))).trans c4
    have hm1 : IsMap32 W1 G.gm c.at_ := h.map.keep (hk1.block _ (tag_lt t.m) (by simp [N]))
    have hm1' : IsMap32 W1.drew G.gm c.at_ := hm1
    have hlk := look_run hm1' (i := i) (by omega) A0.out
    have Y1 := Hd.mk hW1
    have Y2 := Hd.mk N
    clear hW1 N c2 c4 p3' zf
    go_still_tail 10, (by kernel_rfl)
    go_wp2_with fail
    refine (chain_front_new f hfF hno hc1).mono ?_
    rintro e w3 ⟨rfl, hc3, hk3⟩
    go_wp2_with fail
    go_ret
    have hk3' : Keeps (fun k => k = G.gch ∨ k = G.gl) W1 w3 := (Keeps.refl (fun _ => False) W1).drew.trans hk3 (fun _ _ h => h.elim) (fun _ _ h => h)
    have N := Y2.out
    have hk03 : Keeps (fun k => k = G.gf ∨ k = G.gch ∨ k = G.gl) w w3 := hk1.trans hk3' (fun _ _ e => .inl e) (fun _ _ e => .inr e)
    have hk : Keeps (CFoot G) w w3 := hk03.mono fun k _ e => by rcases e with rfl | rfl | rfl <;> simp [CFoot]
    have hnot : ∀ a, a < F → (c.fr a).used = true → ¬ (gb a = G.gf ∨ gb a = G.gch ∨ gb a = G.gl) := by
      intro a ha hu e
      refine hfr.not_foot t ha hu ?_
      rcases e with e | e | e <;> rw [e] <;> simp [CFoot]
    have hord : (unpinC c f).order = f :: c.order := by simp [unpinC, A3.out]
    refine ⟨rfl, ⟨h.dev.keep hk03 (by simp [N]) (by simp [N]), h.box.keep hk03 (by simp [N]), ⟨gb, cb, hR1.keep hk3' (by simp [N]), ?_, ?_, ?_⟩, h.map.keep (hk03.block _ (tag_lt t.m) (by simp [N])), own_keep h.emp (hk03.block _ (tag_lt t.e) (by simp [N])), h.cap, by rw [hord]; exact hc3, ?_⟩, hk⟩
    · intro a ha hua
      rw [(unpin_same c f a).1] at hua
      rw [(unpin_same c f a).2]
      obtain ⟨cs, hb⟩ := hfr.byt a ha hua
      exact (hfr.bytes a ha hua).keep (hk03.block _ hb.lt (hnot a ha hua))
    · intro a ha hua
      rw [(unpin_same c f a).1] at hua
      obtain ⟨cs, hb⟩ := hfr.byt a ha hua
      exact ⟨cs, hb.keep hk03 (hnot a ha hua)⟩
    · intro a ha hua
      rw [(unpin_same c f a).1] at hua
      exact hfr.ne a ha hua
    · exact h.inv.unpin f hfF A1.out.2.1 (by rw [A3.out]; omega)
  · have hz' : ((p : Int) == 0) = false := by simp; omega
    go_enter Tryz.func68, Tryz.ntmps68
    go_wp2_with fail
    refine A2.out.mono ?_
    rintro e w' ⟨rfl, q, rfl⟩
    go_wp2_with fail
    go_ret
    generalize hW1 : (w.drewN q).setCell ⟨G.gf, f * 4 + 3, none⟩ (.int .i64 (p : Nat)) = W1
    have hk1 : Keeps (fun k => k = G.gf) w W1 := by
      rw [← hW1]
      exact ((Keeps.refl (fun k => k = G.gf) w).drewN q).setCell (fun _ => rfl) _
    have hR1 : Blk W1 G.gf 190 (grid 4 F (frF bytes (upd c.fr f { c.fr f with pins := (c.fr f).pins - 1 }) gb cb)) := by
      rw [← hW1, ← frF_pins hfF, A3.out, Nat.add_sub_cancel]
      exact (hfr.rows.drewN q).set_ (f * 4 + 3) (.int .i64 (p : Nat))
    have N := t.nes
    have hk : Keeps (CFoot G) w W1 := hk1.mono fun k _ e => by rw [e]; simp [CFoot]
    have hnot : ∀ a, a < F → (c.fr a).used = true → ¬ (gb a = G.gf) := by
      intro a ha hu e
      refine hfr.not_foot t ha hu ?_
      rw [e]; simp [CFoot]
    have hord : (unpinC c f).order = c.order := by
      have hn1 : ¬ (c.fr f).pins = 1 := fun e => hz (by rw [A3.out] at e; exact Nat.succ.inj e)
      show (if (c.fr f).pins = 1 then f :: c.order else c.order) = c.order
      rw [if_neg hn1]
    refine ⟨rfl, ⟨h.dev.keep hk1 (by simp [N]) (by simp [N]), h.box.keep hk1 (by simp [N]), ⟨gb, cb, hR1, ?_, ?_, ?_⟩, h.map.keep (hk1.block _ (tag_lt t.m) (by simp [N])), own_keep h.emp (hk1.block _ (tag_lt t.e) (by simp [N])), h.cap, by rw [hord]; exact h.chain.keep hk1 (by simp [N]) (by simp [N]), ?_⟩, hk⟩
    · intro a ha hua
      rw [(unpin_same c f a).1] at hua
      rw [(unpin_same c f a).2]
      obtain ⟨cs, hb⟩ := hfr.byt a ha hua
      exact (hfr.bytes a ha hua).keep (hk1.block _ hb.lt (hnot a ha hua))
    · intro a ha hua
      rw [(unpin_same c f a).1] at hua
      obtain ⟨cs, hb⟩ := hfr.byt a ha hua
      exact ⟨cs, hb.keep hk1 (hnot a ha hua)⟩
    · intro a ha hua
      rw [(unpin_same c f a).1] at hua
      exact hfr.ne a ha hua
    · exact h.inv.unpin f hfF A1.out.2.1 (by rw [A3.out]; exact Nat.succ_pos p)

end
end Go.Proofs.Sg
