/- The cache's Write, Fresh, Drop. -/
import Derived.Test.YthkbpcnbnhiefaaGreatDoorCache6
namespace Go.Proofs.Sg
open Go.RowKit

section
variable {w w' : World} {G : Ids} {F blocks bytes : Nat} {c : Cs}

/-- Other bytes for a frame. -/
def writeC (c : Cs) (f : Nat) (bs : List UInt8) : Cs := setFr c f { c.fr f with bs := bs, dirty := true }

set_option maxRecDepth 100000 in
set_option maxHeartbeats 1600000 in
theorem cache_write (h : IsCache w G F blocks bytes none c) (i f : Nat) (hi : i < blocks) (hf : c.at_ i = some f) (hp0 : 0 < (c.fr f).pins) (g off cc : Nat) (bs : List UInt8) (hb : BytesAt w g off bs) (hl : bs.length = bytes) :
    Calls Tryz.prog 133 #[.pointer (some ⟨G.gc, 0, none⟩), .int .u32 i, .slice (some ⟨g, off, none⟩) bytes cc] w fun e w' => e = .returned (.int .i64 0) ∧ IsCache w' G F blocks bytes none (writeC c f bs) ∧ Keeps (CFoot G) w w' := by
  have t := h.tags
  obtain ⟨gb, cb, hfr⟩ := h.frames
  have hat := (h.inv.at_ i f).1 hf
  have hfF := hat.1
  have hF2 := h.inv.hF.2
  have hbk : blocks ≤ 65536 := h.dev.2.2.2.1
  have hby : bytes ≤ 65536 := h.dev.2.2.2.2.2.1
  have c0 : w.cell? ⟨G.gc, 0, none⟩ = some (.pointer (some ⟨G.gd, 0, none⟩)) := h.box.cell 0
  have hpin := cache_pinned h i f (by omega) hf hp0
  have hlen := (h.inv.blk f hat.2.1).2
  have A0 := Hd.mk hf
  have A1 := Hd.mk hat
  have A2 := Hd.mk hpin
  have A3 := Hd.mk hb
  have A4 := Hd.mk hl
  have A5 := Hd.mk hlen
  clear hf hat hpin hp0 hb hl hlen
  go_enter Tryz.func133, Tryz.ntmps133
  go_wp2_with fail
  refine A2.out.mono ?_
  rintro e w' ⟨rfl, q, rfl⟩
  go_wp2_with fail
  have hdv : IsDev (w.drewN q) G.gd G.gi blocks bytes c.D c.r c.s := h.dev
  refine (dev_bytes hdv).mono ?_
  rintro e w' ⟨rfl, rfl⟩
  go_wp2_with fail
  have hb1 : BytesAt (w.drewN q) g off bs := A3.out
  have hcl := clone_bytes hb1 cc (by rw [A4.out]; omega)
  rw [A4.out] at hcl
  refine hcl.mono ?_
  clear hcl hb1
  rintro e w2 ⟨g2, c2, rfl, hg1, hg2, hg3, hg4, hg5, hbl⟩
  have hbl' : Below w.heap.size w w2 := ⟨hbl.os, hbl.tape, hbl.output, hbl.size, hbl.block⟩
  have hfl := tag_lt t.f
  have hR2 : Blk w2 G.gf 190 (grid 4 F (frF bytes c.fr gb cb)) := (hbl'.block _ hfl).trans hfr.rows
  have q1 : w2.cell? ⟨G.gf, f * 4 + 1, none⟩ = some (if (c.fr f).used = true then .slice (some ⟨gb f, 0, none⟩) bytes (cb f) else .slice none 0 0) := (hR2.cell _).trans (grid_at (r := 1) _ hfF (by omega))
  have q2 : w2.cell? ⟨G.gf, f * 4 + 2, none⟩ = some (.bool (c.fr f).dirty) := (hR2.cell _).trans (grid_at (r := 2) _ hfF (by omega))
  have z1 := hR2.frozen (f * 4 + 1)
  have z2 := hR2.frozen (f * 4 + 2)
  have hfl2 := hR2.lt
  have B1 := Hd.mk hg4
  have B2 := Hd.mk hg5
  have B3 := Hd.mk hbl'
  have B4 := Hd.mk hg1
  rw [A1.out.2.1] at q1
  clear hg1 hg2 hg3 hg4 hg5 hbl hbl'
  go_wp2_with fail
  go_ret
  generalize hW1 : (w2.setCell ⟨G.gf, f * 4 + 1, none⟩ (.slice (some ⟨g2, 0, none⟩) bytes c2)).setCell ⟨G.gf, f * 4 + 2, none⟩ (.bool true) = W1
  have hk1 : Keeps (fun k => k = G.gf) w2 W1 := by
    rw [← hW1]
    exact ((Keeps.refl (fun k => k = G.gf) w2).setCell (fun _ => rfl) _).setCell (fun _ => rfl) _
  have hR1 : Blk W1 G.gf 190 (grid 4 F (frF bytes (upd c.fr f { c.fr f with bs := bs, dirty := true }) (upd gb f g2) (upd cb f c2))) := by
    have h1 := (hR2.set_ (f * 4 + 1) (.slice (some ⟨g2, 0, none⟩) bytes c2)).set_ (f * 4 + 2) (.bool true)
    rw [frF_bytes hfF A1.out.2.1, frF_dirty hfF, hW1] at h1
    have e : upd (upd c.fr f { c.fr f with bs := bs }) f { upd c.fr f { c.fr f with bs := bs } f with dirty := true } = upd c.fr f { c.fr f with bs := bs, dirty := true } := by
      funext a
      by_cases e : a = f
      · subst e; simp [upd]
      · simp [upd, e]
    rw [e] at h1
    exact h1
  clear hW1
  have N := t.nes
  have hk : Keeps (fun k => k = G.gf) w W1 := (Keeps.of_below (S := fun _ => False) B3.out).trans hk1 (fun _ _ e => e.elim) (fun _ _ e => e)
  have hkC : Keeps (CFoot G) w W1 := hk.mono fun k _ e => by rw [e]; simp [CFoot]
  have hnot : ∀ a, a < F → (c.fr a).used = true → ¬ (gb a = G.gf) := by
    intro a ha hu e
    refine hfr.not_foot t ha hu ?_
    rw [e]; simp [CFoot]
  obtain ⟨cs2, hg2⟩ := B1.out
  have hg2n : g2 ≠ G.gf := tag_ne hg2.tag hR2.tag (by decide)
  have hk' : ∀ a, a ≠ f → ((writeC c f bs).fr a) = c.fr a := fun a e => upd_other _ _ e
  refine ⟨rfl, ⟨h.dev.keep hk (by simp [N]) (by simp [N]), h.box.keep hk (by simp [N]), ⟨upd gb f g2, upd cb f c2, hR1, ?_, ?_, ?_⟩, h.map.keep (hk.block _ (tag_lt t.m) (by simp [N])), own_keep h.emp (hk.block _ (tag_lt t.e) (by simp [N])), h.cap, h.chain.keep hk (by simp [N]) (by simp [N]), ?_⟩, hkC⟩
  · intro a ha hua
    by_cases e : a = f
    · subst e
      rw [upd_same]
      show BytesAt W1 g2 0 (upd c.fr a _ a).bs
      rw [upd_same]
      exact B2.out.keep (hk1.block _ hg2.lt hg2n)
    · rw [hk' a e] at hua ⊢
      rw [upd_other _ _ e]
      obtain ⟨cs, hb⟩ := hfr.byt a ha hua
      exact (hfr.bytes a ha hua).keep (hk.block _ hb.lt (hnot a ha hua))
  · intro a ha hua
    by_cases e : a = f
    · subst e
      rw [upd_same]
      exact ⟨cs2, hg2.keep hk1 hg2n⟩
    · rw [hk' a e] at hua
      rw [upd_other _ _ e]
      obtain ⟨cs, hb⟩ := hfr.byt a ha hua
      exact ⟨cs, hb.keep hk (hnot a ha hua)⟩
  · intro a ha hua
    by_cases e : a = f
    · subst e
      rw [upd_same]
      exact fun e => by have := tag_lt t.i; have := B4.out; have h0 : (w.drewN q).heap.size = w.heap.size := rfl; rw [h0] at this; rw [e] at this; exact absurd (tag_lt t.i) (Nat.not_lt.2 this)
    · rw [hk' a e] at hua
      rw [upd_other _ _ e]
      exact hfr.ne a ha hua
  · exact h.inv.setFr f _ hfF rfl rfl Iff.rfl (A4.out.trans A5.out.symm) A1.out.2.1

end
end Go.Proofs.Sg
