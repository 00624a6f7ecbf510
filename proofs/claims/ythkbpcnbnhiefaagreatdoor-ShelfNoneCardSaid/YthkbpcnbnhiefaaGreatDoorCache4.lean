/- The cache's put. -/
import Derived.Test.YthkbpcnbnhiefaaGreatDoorCache3
namespace Go.Proofs.Sg
open Go.RowKit

section
variable {w w' : World} {G : Ids} {F blocks bytes : Nat} {hole : Option Nat} {c : Cs}

/-- put: frame f holds x. -/
def putC (c : Cs) (f : Nat) (x : Fr) : Cs := { c with fr := upd c.fr f x, at_ := setAt c.at_ x.block (some f), order := c.order.erase f }

theorem CInv.put (h : CInv F blocks bytes hole c) (f : Nat) (x : Fr) (hf : f < F) (hn : c.order.Nodup) (hx : x.used = true) (hp : x.pins ≠ 0) (hb : x.block < blocks ∧ x.bs.length = bytes)
    (hc : (hole = some f ∧ (c.fr f).used = false ∧ c.at_ x.block = none) ∨ (hole = none ∧ (c.fr f).used = true ∧ (c.fr f).block = x.block)) : CInv F blocks bytes none (putC c f x) := by
  have hat : ∀ g, c.at_ x.block = some g → g = f := by
    intro g hg
    rcases hc with ⟨_, _, h3⟩ | ⟨_, h2, h3⟩
    · rw [h3] at hg; cases hg
    · have := (h.at_ x.block f).2 ⟨hf, h2, h3⟩
      rw [this] at hg; injection hg with hg; exact hg.symm
  refine ⟨h.hF, fun i g => ?_, fun g => ?_, h.empN, fun g => ?_, fun g hg => ?_, fun g hg => ?_⟩
  · show setAt c.at_ x.block (some f) i = some g ↔ g < F ∧ (upd c.fr f x g).used = true ∧ (upd c.fr f x g).block = i
    unfold setAt
    by_cases e : g = f
    · subst e
      rw [upd_same]
      constructor
      · intro hi
        split at hi
        · rename_i e2; exact ⟨hf, hx, e2.symm⟩
        · rename_i e2
          have h4 := (h.at_ i g).1 hi
          rcases hc with ⟨_, h2, _⟩ | ⟨_, _, h3⟩
          · rw [h2] at h4; cases h4.2.1
          · exact absurd (h3.symm.trans h4.2.2).symm e2
      · rintro ⟨_, _, h4⟩
        rw [if_pos h4.symm]
    · rw [upd_other _ _ e]
      constructor
      · intro hi
        split at hi
        · injection hi with hi; exact absurd hi.symm e
        · exact (h.at_ i g).1 hi
      · intro hi
        rw [if_neg]
        · exact (h.at_ i g).2 hi
        · rintro rfl
          exact e (hat g ((h.at_ _ g).2 hi))
  · show g ∈ c.empty ↔ g < F ∧ (upd c.fr f x g).used = false ∧ (none : Option Nat) ≠ some g
    rw [h.emp g]
    by_cases e : g = f
    · subst e
      rw [upd_same, hx]
      constructor
      · rintro ⟨_, h2, h3⟩
        rcases hc with ⟨h4, _, _⟩ | ⟨_, h4, _⟩
        · exact absurd h4 h3
        · rw [h4] at h2; cases h2
      · rintro ⟨_, h2, _⟩; cases h2
    · rw [upd_other _ _ e]
      constructor
      · rintro ⟨h1, h2, _⟩; exact ⟨h1, h2, by simp⟩
      · rintro ⟨h1, h2, _⟩
        refine ⟨h1, h2, ?_⟩
        rcases hc with ⟨h4, _, _⟩ | ⟨h4, _, _⟩
        · rw [h4]; intro h5; injection h5 with h5; exact e h5.symm
        · rw [h4]; simp
  · show g ∈ c.order.erase f ↔ g < F ∧ (upd c.fr f x g).used = true ∧ (upd c.fr f x g).pins = 0
    rw [hn.mem_erase_iff, h.ord g]
    by_cases e : g = f
    · subst e
      rw [upd_same]
      exact ⟨fun hx => absurd rfl hx.1, fun hx => absurd hx.2.2 hp⟩
    · rw [upd_other _ _ e]
      simp [e]
  · have hg : (upd c.fr f x g).used = true := hg
    show (upd c.fr f x g).block < blocks ∧ (upd c.fr f x g).bs.length = bytes
    by_cases e : g = f
    · subst e; rw [upd_same]; exact hb
    · rw [upd_other _ _ e] at hg ⊢; exact h.blk g hg
  · have hg : (upd c.fr f x g).used = false := hg
    show upd c.fr f x g = Fr.zero
    by_cases e : g = f
    · subst e; rw [upd_same, hx] at hg; cases hg
    · rw [upd_other _ _ e] at hg ⊢; exact h.idle g hg

/-- Cut of a frame, in the row or not. -/
theorem chain_cut {w : World} {gc gl n : Nat} {o : List Nat} (i : Nat) (hi : i < n) (h : IsChain w gc gl n o) :
    Calls Tryz.prog 126 #[.pointer (some ⟨gc, 0, none⟩), .int .i64 i] w fun e w' => (∃ r : Int, e = .returned (.int .i64 r)) ∧ IsChain w' gc gl n (o.erase i) ∧ Keeps (fun k => k = gc ∨ k = gl) w w' := by
  have hnd : o.Nodup := by obtain ⟨_, _, _, hr, _⟩ := h; exact hr.nodup
  by_cases hm : i ∈ o
  · obtain ⟨p, s, rfl⟩ := List.append_of_mem hm
    refine (chain_cut_in i h).mono ?_
    rintro e w' ⟨rfl, h1, h2⟩
    rw [erase_mid hnd]
    exact ⟨⟨_, rfl⟩, h1, h2⟩
  · refine (chain_cut_no i hi hm h).mono ?_
    rintro e w' ⟨rfl, rfl⟩
    rw [List.erase_of_not_mem hm]
    exact ⟨⟨_, rfl⟩, h, Keeps.refl _ _⟩

set_option maxRecDepth 100000 in
set_option maxHeartbeats 1600000 in
theorem cache_put (h : IsCache w G F blocks bytes hole c) (f i g cc : Nat) (bs : List UInt8) (d : Bool) (p : Int) (hf : f < F) (hi : i < blocks) (hl : bs.length = bytes)
    (hg : BytesAt w g 0 bs) (hgb : ∃ cs, Blk w g 5 cs) (hgi : g ≠ G.gi)
    (hc : (hole = some f ∧ (c.fr f).used = false ∧ c.at_ i = none) ∨ (hole = none ∧ (c.fr f).used = true ∧ (c.fr f).block = i)) :
    Calls Tryz.prog 128 #[.pointer (some ⟨G.gc, 0, none⟩), .int .i64 f, .agg #[.int .u32 i, .slice (some ⟨g, 0, none⟩) bytes cc, .bool d, .int .i64 p]] w fun e w' => e = .returned (.tuple #[]) ∧ IsCache w' G F blocks bytes none (putC c f ⟨i, bs, d, 1, true⟩) ∧ Keeps (CFoot G) w w' := by
  have t := h.tags
  obtain ⟨gb, cb, hfr⟩ := h.frames
  have hF2 := h.inv.hF.2
  have hbk : blocks ≤ 65536 := h.dev.2.2.2.1
  have hnd : c.order.Nodup := by obtain ⟨_, _, _, hr, _⟩ := h.chain; exact hr.nodup
  have c1 : w.cell? ⟨G.gc, 1, none⟩ = some (.slice (some ⟨G.gf, 0, none⟩) F F) := h.box.cell 1
  have c2 : w.cell? ⟨G.gc, 2, none⟩ = some (.map (some G.gm)) := h.box.cell 2
  have c4 : w.cell? ⟨G.gc, 4, none⟩ = some (.pointer (some ⟨G.gch, 0, none⟩)) := h.box.cell 4
  have hcl := tag_lt t.c
  have hfl := tag_lt t.f
  have hne : G.gf ≠ G.gc := by have N := t.nes; simp [N]
  obtain ⟨p0, p1, p2, p3⟩ := hfr.cells hf
  have zf : ∀ k, w.frozen? ⟨G.gf, k, none⟩ = false := fun k => hfr.rows.frozen k
  have A0 := Hd.mk hc
  have A1 := Hd.mk hl
  have A2 := Hd.mk hg
  clear hc hl hg
  go_enter Tryz.func128, Tryz.ntmps128
  go_wp2_with fail
  go_region
  go_wp2_with fail
  generalize hW1 : (((((w.setCell ⟨G.gf, f * 4, none⟩ (.int .u32 i)).setCell ⟨G.gf, f * 4 + 1, none⟩ (.slice (some ⟨g, 0, none⟩) bytes cc)).setCell ⟨G.gf, f * 4 + 2, none⟩ (.bool d)).setCell ⟨G.gf, f * 4 + 3, none⟩ (.int .i64 1)).alloc (.cells #[.int .u32 i, .slice (some ⟨g, 0, none⟩) bytes cc, .bool d, .int .i64 1] 190)).drew = W1
  have hk1 : Keeps (fun k => k = G.gf) w W1 := by
    rw [← hW1]
    exact ((((((Keeps.refl (fun k => k = G.gf) w).setCell (fun _ => rfl) _).setCell (fun _ => rfl) _).setCell (fun _ => rfl) _).setCell (fun _ => rfl) _).alloc _).drew
  have hbox : Blk W1 w.heap.size 190 #[.int .u32 i, .slice (some ⟨g, 0, none⟩) bytes cc, .bool d, .int .i64 1] := by
    have hb := Blk.new ((((w.setCell ⟨G.gf, f * 4, none⟩ (.int .u32 i)).setCell ⟨G.gf, f * 4 + 1, none⟩ (.slice (some ⟨g, 0, none⟩) bytes cc)).setCell ⟨G.gf, f * 4 + 2, none⟩ (.bool d)).setCell ⟨G.gf, f * 4 + 3, none⟩ (.int .i64 1)) 190 #[.int .u32 i, .slice (some ⟨g, 0, none⟩) bytes cc, .bool d, .int .i64 1]
    rw [← hW1]
    have e : ((((w.setCell ⟨G.gf, f * 4, none⟩ (.int .u32 i)).setCell ⟨G.gf, f * 4 + 1, none⟩ (.slice (some ⟨g, 0, none⟩) bytes cc)).setCell ⟨G.gf, f * 4 + 2, none⟩ (.bool d)).setCell ⟨G.gf, f * 4 + 3, none⟩ (.int .i64 1)).heap.size = w.heap.size := by simp [World.setCell]
    rw [e] at hb
    exact hb.drew
  have hR1 : Blk W1 G.gf 190 (grid 4 F (frF bytes (upd c.fr f ⟨i, bs, d, 1, true⟩) (upd gb f g) (upd cb f cc))) := by
    have h1 := ((((hfr.rows.set_ (f * 4) (.int .u32 i)).set_ (f * 4 + 1) (.slice (some ⟨g, 0, none⟩) bytes cc)).set_ (f * 4 + 2) (.bool d)).set_ (f * 4 + 3) (.int .i64 1)).alloc (.cells #[.int .u32 i, .slice (some ⟨g, 0, none⟩) bytes cc, .bool d, .int .i64 1] 190)
    rw [← hW1, ← frF_all hf ⟨i, bs, d, 1, true⟩ g cc]
    exact h1.drew
  have N := t.nes
  have c2' : W1.cell? ⟨G.gc, 2, none⟩ = some (.map (some G.gm)) := (World.cell?_of_block (hk1.block _ hcl (by simp [N]))).trans c2
  have b0 : W1.cell? ⟨w.heap.size, 0, none⟩ = some (.int .u32 i) := hbox.cell 0
  have hm1 : IsMap32 W1.drew G.gm c.at_ := h.map.keep (hk1.block _ (tag_lt t.m) (by simp [N]))
  have hc1 : IsChain W1 G.gch G.gl F c.order := h.chain.keep hk1 (by simp [N]) (by simp [N])
  have c4' : W1.cell? ⟨G.gc, 4, none⟩ = some (.pointer (some ⟨G.gch, 0, none⟩)) := (World.cell?_of_block (hk1.block _ hcl (by simp [N]))).trans c4
  have Y1 := Hd.mk hW1
  have Y2 := Hd.mk N
  clear hW1 N c1 c2 c4 p0 p1 p2 p3 zf
  go_still_tail 7, (by kernel_rfl)
  go_wp2_with (refine wpList_map_put rfl _ _ _ rfl G.gm c.at_ hm1 i (by omega) f (by omega) rfl rfl rfl ?_)
  intro w2 hm2 hk2
  have hk2' : Keeps (fun k => k = G.gm) W1 w2 := (Keeps.refl (fun _ => False) W1).drew.trans hk2 (fun _ _ h => h.elim) (fun _ _ h => h)
  have N := Y2.out
  have c4'' : w2.cell? ⟨G.gc, 4, none⟩ = some (.pointer (some ⟨G.gch, 0, none⟩)) := (World.cell?_of_block (hk2'.block _ (Nat.lt_of_lt_of_le hcl hk1.size) (by simp [N]))).trans c4'
  have hc2 := hc1.keep hk2' (by simp [N]) (by simp [N])
  clear N hk2
  have Y3 := Hd.mk hk2'
  clear hk2'
  go_wp2_with fail
  refine (chain_cut f hf hc2).mono ?_
  rintro e w3 ⟨⟨r, rfl⟩, hc3, hk3⟩
  go_wp2_with fail
  refine bodyPost_end (results_none rfl _ _ _) rfl ?_
  have N := Y2.out
  have hk13 : Keeps (fun k => k = G.gm ∨ k = G.gch ∨ k = G.gl) W1 w3 := Y3.out.trans hk3 (fun _ _ e => .inl e) (fun _ _ e => .inr e)
  have hk03 : Keeps (fun k => k = G.gf ∨ k = G.gm ∨ k = G.gch ∨ k = G.gl) w w3 := hk1.trans hk13 (fun _ _ e => .inl e) (fun _ _ e => .inr e)
  have hk : Keeps (CFoot G) w w3 := hk03.mono fun k _ e => by rcases e with rfl | rfl | rfl | rfl <;> simp [CFoot]
  obtain ⟨cs0, hgb0⟩ := hgb
  have hgne : ¬ (g = G.gf ∨ g = G.gm ∨ g = G.gch ∨ g = G.gl) := by
    have hg := hgb0.tag
    rintro (e | e | e | e)
    · exact tag_ne hg t.f (by decide) e
    · exact tag_ne hg t.m (by decide) e
    · exact tag_ne hg t.ch (by decide) e
    · exact tag_ne hg t.l (by decide) e
  have hnot : ∀ a, a < F → (c.fr a).used = true → ¬ (gb a = G.gf ∨ gb a = G.gm ∨ gb a = G.gch ∨ gb a = G.gl) := by
    intro a ha hu e
    refine hfr.not_foot t ha hu ?_
    rcases e with e | e | e | e <;> rw [e] <;> simp [CFoot]
  refine ⟨rfl, ⟨h.dev.keep hk03 (by simp [N]) (by simp [N]), h.box.keep hk03 (by simp [N]), ⟨upd gb f g, upd cb f cc, hR1.keep hk13 (by simp [N]), ?_, ?_, ?_⟩, hm2.keep (hk3.block _ hm2.lt (by simp [N])), own_keep h.emp (hk03.block _ (tag_lt t.e) (by simp [N])), h.cap, hc3, ?_⟩, hk⟩
  · intro a ha hua
    show BytesAt w3 (upd gb f g a) 0 (upd c.fr f ⟨i, bs, d, 1, true⟩ a).bs
    by_cases e : a = f
    · subst e
      rw [upd_same, upd_same]
      exact A2.out.keep (hk03.block _ hgb0.lt hgne)
    · have hua' : (upd c.fr f ⟨i, bs, d, 1, true⟩ a).used = true := hua
      rw [upd_other _ _ e] at hua'
      rw [upd_other _ _ e, upd_other _ _ e]
      obtain ⟨cs, hb⟩ := hfr.byt a ha hua'
      exact (hfr.bytes a ha hua').keep (hk03.block _ hb.lt (hnot a ha hua'))
  · intro a ha hua
    by_cases e : a = f
    · subst e
      rw [upd_same]
      exact ⟨cs0, hgb0.keep hk03 hgne⟩
    · have hua' : (upd c.fr f ⟨i, bs, d, 1, true⟩ a).used = true := hua
      rw [upd_other _ _ e] at hua'
      rw [upd_other _ _ e]
      obtain ⟨cs, hb⟩ := hfr.byt a ha hua'
      exact ⟨cs, hb.keep hk03 (hnot a ha hua')⟩
  · intro a ha hua
    by_cases e : a = f
    · subst e
      rw [upd_same]
      exact hgi
    · have hua' : (upd c.fr f ⟨i, bs, d, 1, true⟩ a).used = true := hua
      rw [upd_other _ _ e] at hua'
      rw [upd_other _ _ e]
      exact hfr.ne a ha hua'
  · exact h.inv.put f ⟨i, bs, d, 1, true⟩ hf hnd rfl (by simp) ⟨hi, A1.out⟩ A0.out

end
end Go.Proofs.Sg
