/- The cache's Pin, Unpin, Write. -/
import Derived.Test.YthkbpcnbnhiefaaGreatDoorCache4
namespace Go.Proofs.Sg
open Go.RowKit

section
variable {w w' : World} {G : Ids} {F blocks bytes : Nat} {c : Cs}

def pinC (c : Cs) (f : Nat) : Cs := { c with fr := upd c.fr f { c.fr f with pins := (c.fr f).pins + 1 }, order := c.order.erase f }

theorem CInv.pin (h : CInv F blocks bytes none c) (f : Nat) (hf : f < F) (hu : (c.fr f).used = true) (hn : c.order.Nodup) : CInv F blocks bytes none (pinC c f) := by
  have key : ∀ a, ((upd c.fr f { c.fr f with pins := (c.fr f).pins + 1 }) a).used = (c.fr a).used ∧ ((upd c.fr f { c.fr f with pins := (c.fr f).pins + 1 }) a).block = (c.fr a).block ∧ ((upd c.fr f { c.fr f with pins := (c.fr f).pins + 1 }) a).bs = (c.fr a).bs := by
    intro a
    by_cases e : a = f
    · subst e; simp [upd]
    · simp [upd, e]
  refine ⟨h.hF, fun i g => ?_, fun g => ?_, h.empN, fun g => ?_, fun g hg => ?_, fun g hg => ?_⟩
  · show c.at_ i = some g ↔ _
    rw [h.at_ i g]; simp only [pinC, (key g).1, (key g).2.1]
  · show g ∈ c.empty ↔ _
    rw [h.emp g]; simp only [pinC, (key g).1]
  · show g ∈ c.order.erase f ↔ _
    rw [hn.mem_erase_iff, h.ord g]
    simp only [pinC, (key g).1]
    by_cases e : g = f
    · subst e; simp [upd]
    · simp [upd, e]
  · simp only [pinC, (key g).1] at hg
    simp only [pinC, (key g).2.1, (key g).2.2]
    exact h.blk g hg
  · simp only [pinC, (key g).1] at hg
    have e : g ≠ f := by rintro rfl; rw [hu] at hg; cases hg
    simp only [pinC, upd_other _ _ e]
    exact h.idle g hg

set_option maxRecDepth 100000 in
set_option maxHeartbeats 1600000 in
theorem cache_pin_in (h : IsCache w G F blocks bytes none c) (i f : Nat) (hi : i < blocks) (hf : c.at_ i = some f) (hp : (c.fr f).pins < 4611686018427387904) :
    Calls Tryz.prog 66 #[.pointer (some ⟨G.gc, 0, none⟩), .int .u32 i] w fun e w' => e = .returned (.int .i64 0) ∧ IsCache w' G F blocks bytes none (pinC c f) ∧ Keeps (CFoot G) w w' := by
  have t := h.tags
  obtain ⟨gb, cb, hfr⟩ := h.frames
  have hat := (h.inv.at_ i f).1 hf
  have hfF := hat.1
  have hF2 := h.inv.hF.2
  have hbk : blocks ≤ 65536 := h.dev.2.2.2.1
  have hnd : c.order.Nodup := by obtain ⟨_, _, _, hr, _⟩ := h.chain; exact hr.nodup
  have c1 : w.cell? ⟨G.gc, 1, none⟩ = some (.slice (some ⟨G.gf, 0, none⟩) F F) := h.box.cell 1
  have c2 : w.cell? ⟨G.gc, 2, none⟩ = some (.map (some G.gm)) := h.box.cell 2
  have c4 : w.cell? ⟨G.gc, 4, none⟩ = some (.pointer (some ⟨G.gch, 0, none⟩)) := h.box.cell 4
  obtain ⟨p0, p1, p2, p3⟩ := hfr.cells hfF
  have zf := hfr.rows.frozen (f * 4 + 3)
  have hcl := tag_lt t.c
  have hfl := tag_lt t.f
  have hne : G.gf ≠ G.gc := by have N := t.nes; simp [N]
  have A0 := Hd.mk hf
  have A1 := Hd.mk hat
  clear hf hat p0 p1 p2
  go_enter Tryz.func66, Tryz.ntmps66
  go_wp2_with fail
  refine (cache_there h i hi).mono ?_
  rintro e w' ⟨rfl, q, rfl⟩
  have hm : IsMap32 (w.drewN q) G.gm c.at_ := h.map
  go_wp2_with (refine wpList_look_some rfl _ _ rfl G.gm c.at_ hm i (by omega) f A0.out rfl rfl ?_)
  generalize hW1 : (w.drewN q).setCell ⟨G.gf, f * 4 + 3, none⟩ (.int .i64 ((c.fr f).pins + 1)) = W1
  have hk1 : Keeps (fun k => k = G.gf) w W1 := by
    rw [← hW1]
    exact ((Keeps.refl (fun k => k = G.gf) w).drewN q).setCell (fun _ => rfl) _
  have hR1 : Blk W1 G.gf 190 (grid 4 F (frF bytes (upd c.fr f { c.fr f with pins := (c.fr f).pins + 1 }) gb cb)) := by
    rw [← hW1, ← frF_pins hfF]
    exact (hfr.rows.drewN q).set_ _ _
  have N := t.nes
  have hc1 : IsChain W1 G.gch G.gl F c.order := h.chain.keep hk1 (by simp [N]) (by simp [N])
  have Y1 := Hd.mk hW1
  have Y2 := Hd.mk N
  clear hW1 N
  refine (chain_cut f hfF hc1).mono ?_
  rintro e w3 ⟨⟨r, rfl⟩, hc3, hk3⟩
  go_wp2_with fail
  go_ret
  have N := Y2.out
  have hk03 : Keeps (fun k => k = G.gf ∨ k = G.gch ∨ k = G.gl) w w3 := hk1.trans hk3 (fun _ _ e => .inl e) (fun _ _ e => .inr e)
  have hk : Keeps (CFoot G) w w3 := hk03.mono fun k _ e => by rcases e with rfl | rfl | rfl <;> simp [CFoot]
  have hnot : ∀ a, a < F → (c.fr a).used = true → ¬ (gb a = G.gf ∨ gb a = G.gch ∨ gb a = G.gl) := by
    intro a ha hu e
    refine hfr.not_foot t ha hu ?_
    rcases e with e | e | e <;> rw [e] <;> simp [CFoot]
  have hsame : ∀ a, ((pinC c f).fr a).used = (c.fr a).used ∧ ((pinC c f).fr a).bs = (c.fr a).bs := by
    intro a
    by_cases e : a = f
    · subst e; simp [pinC, upd]
    · simp [pinC, upd, e]
  refine ⟨rfl, ⟨h.dev.keep hk03 (by simp [N]) (by simp [N]), h.box.keep hk03 (by simp [N]), ⟨gb, cb, hR1.keep hk3 (by simp [N]), ?_, ?_, ?_⟩, h.map.keep (hk03.block _ (tag_lt t.m) (by simp [N])), own_keep h.emp (hk03.block _ (tag_lt t.e) (by simp [N])), h.cap, hc3, ?_⟩, hk⟩
  · intro a ha hua
    rw [(hsame a).1] at hua
    rw [(hsame a).2]
    obtain ⟨cs, hb⟩ := hfr.byt a ha hua
    exact (hfr.bytes a ha hua).keep (hk03.block _ hb.lt (hnot a ha hua))
  · intro a ha hua
    rw [(hsame a).1] at hua
    obtain ⟨cs, hb⟩ := hfr.byt a ha hua
    exact ⟨cs, hb.keep hk03 (hnot a ha hua)⟩
  · intro a ha hua
    rw [(hsame a).1] at hua
    exact hfr.ne a ha hua
  · exact h.inv.pin f hfF A1.out.2.1 hnd

theorem IsCache.dev_step {hole : Option Nat} {D' : Nat → List UInt8} {r' s' : Nat} (h : IsCache w G F blocks bytes hole c) (hd : IsDev w' G.gd G.gi blocks bytes D' r' s') (hk : Keeps (fun k => k = G.gd ∨ k = G.gi) w w') : IsCache w' G F blocks bytes hole { c with D := D', r := r', s := s' } := by
  have t := h.tags
  have N := t.nes
  obtain ⟨gb, cb, hf⟩ := h.frames
  refine ⟨hd, h.box.keep hk (by simp [N]), ⟨gb, cb, hf.keep hk (by simp [N]) fun a h1 h2 e => hf.not_foot t h1 h2 ?_⟩, h.map.keep (hk.block _ (tag_lt t.m) (by simp [N])), own_keep h.emp (hk.block _ (tag_lt t.e) (by simp [N])), h.cap, h.chain.keep hk (by simp [N]) (by simp [N]), ⟨h.inv.hF, h.inv.at_, h.inv.emp, h.inv.empN, h.inv.ord, h.inv.blk, h.inv.idle⟩⟩
  rcases e with e | e <;> rw [e] <;> simp [CFoot]

/-- How a block that is in no frame is read into one: from the state that room leaves. -/
def readC (c : Cs) (f i : Nat) : Cs := putC { c with r := c.r + 1 } f ⟨i, c.D i, false, 1, true⟩

theorem room_at {c c' : Cs} {f : Nat} (h : IsCache w G F blocks bytes none c) (hr : RoomOf c f c') : f < F ∧ (c'.fr f).used = false ∧ ∀ i, c.at_ i = none → c'.at_ i = none := by
  rcases hr with ⟨e, he, rfl⟩ | ⟨he, o, ho, rfl⟩
  · have := (h.inv.emp f).1 (by rw [he]; simp)
    exact ⟨this.1, this.2.1, fun i hi => hi⟩
  · have := (h.inv.ord f).1 (by rw [ho]; simp)
    refine ⟨this.1, by simp [leaveC, upd, Fr.zero], fun i hi => ?_⟩
    show setAt (backC c f).at_ ((backC c f).fr f).block none i = none
    unfold setAt
    split
    · rfl
    · rw [(backC_parts c f).2.2.2.2.2]; exact hi

theorem cache_room (h : IsCache w G F blocks bytes none c) (hne : c.empty ≠ [] ∨ c.order ≠ []) :
    Calls Tryz.prog 127 #[.pointer (some ⟨G.gc, 0, none⟩)] w fun en w' => ∃ f c', en = .returned (.tuple #[.int .i64 (f : Nat), .bool true]) ∧ RoomOf c f c' ∧ IsCache w' G F blocks bytes (some f) c' ∧ Keeps (CFoot G) w w' := by
  rcases List.eq_nil_or_concat c.empty with he | ⟨e, f, he⟩
  · rcases List.eq_nil_or_concat c.order with ho | ⟨o, f, ho⟩
    · rcases hne with h1 | h1
      · exact absurd he h1
      · exact absurd ho h1
    · rw [List.concat_eq_append] at ho
      exact (cache_room_last h he ho).mono fun en w' ⟨h1, h2, h3⟩ => ⟨f, _, h1, .inr ⟨he, o, ho, rfl⟩, h2, h3⟩
  · rw [List.concat_eq_append] at he
    exact (cache_room_pop h he).mono fun en w' ⟨h1, h2, h3⟩ => ⟨f, _, h1, .inl ⟨e, he, rfl⟩, h2, h3⟩

set_option maxRecDepth 100000 in
set_option maxHeartbeats 1600000 in
theorem cache_pin_new (h : IsCache w G F blocks bytes none c) (i : Nat) (hi : i < blocks) (hf : c.at_ i = none) (hne : c.empty ≠ [] ∨ c.order ≠ []) :
    Calls Tryz.prog 66 #[.pointer (some ⟨G.gc, 0, none⟩), .int .u32 i] w fun e w' => e = .returned (.int .i64 0) ∧ ∃ f c', RoomOf c f c' ∧ IsCache w' G F blocks bytes none (readC c' f i) ∧ Keeps (CFoot G) w w' := by
  have t := h.tags
  have hbk : blocks ≤ 65536 := h.dev.2.2.2.1
  have c2 : w.cell? ⟨G.gc, 2, none⟩ = some (.map (some G.gm)) := h.box.cell 2
  have A0 := Hd.mk hf
  have A1 := Hd.mk hne
  clear hf hne
  go_enter Tryz.func66, Tryz.ntmps66
  go_wp2_with fail
  refine (cache_there h i hi).mono ?_
  rintro e w' ⟨rfl, q, rfl⟩
  have hm : IsMap32 (w.drewN q) G.gm c.at_ := h.map
  go_wp2_with (refine wpList_look_none rfl _ _ rfl G.gm c.at_ hm i (by omega) A0.out rfl rfl ?_)
  refine (cache_room (h.drewN q) A1.out).mono ?_
  rintro e w1 ⟨f, c', rfl, hr, hc1, hk1⟩
  have hra := room_at h hr
  have c0 : w1.cell? ⟨G.gc, 0, none⟩ = some (.pointer (some ⟨G.gd, 0, none⟩)) := hc1.box.cell 0
  have A2 := Hd.mk hr
  have A3 := Hd.mk hra
  clear hr hra
  go_wp2_with fail
  refine (dev_read hc1.dev i hi).mono ?_
  rintro e w2 ⟨g, cc, rfl, hg1, hg2, hg3, hg4, hd2, hk2⟩
  have hc2 := hc1.dev_step hd2 (hk2.mono fun k _ e => .inl e)
  have t1 := hc1.tags
  have hgi : g ≠ G.gi := by
    have := tag_lt t1.i; omega
  have hlD : (c'.D i).length = bytes := hc1.dev.2.2.2.2.2.2 i hi
  have hcall := cache_put hc2 f i g cc (c'.D i) false 0 A3.out.1 hi hlD hg4 hg3 hgi (.inl ⟨rfl, A3.out.2.1, A3.out.2.2 i A0.out⟩)
  have A4 := Hd.mk hk1
  have A5 := Hd.mk hk2
  have A6 := Hd.mk hcall
  clear hk1 hk2 hcall hlD hgi t1 hg1 hg2 hg3 hg4 hd2 hc2
  go_wp2_with fail
  refine A6.out.mono ?_
  rintro e w3 ⟨rfl, hc3, hk3⟩
  go_wp2_with fail
  go_ret
  refine ⟨rfl, f, c', A2.out, hc3, ?_⟩
  refine ((Keeps.refl (CFoot G) w).drewN q).trans (A4.out.trans (U := CFoot G) (A5.out.trans (U := CFoot G) hk3 (fun _ _ e => .inl e) (fun _ _ e => e)) (fun _ _ e => e) (fun _ _ e => e)) (fun _ _ e => e) (fun _ _ e => e)

end
end Go.Proofs.Sg
