/- The cache's methods that write: back, leave, put. -/
import Derived.Test.YthkbpcnbnhiefaaGreatDoorCache1
import Derived.StillTailTactics
namespace Go.Proofs.Sg
open Go.RowKit

section
variable {w w' : World} {G : Ids} {F blocks bytes : Nat} {hole : Option Nat} {c : Cs}

/-- back: a frame's block is on the device, if it was dirty. -/
def backC (c : Cs) (f : Nat) : Cs := if (c.fr f).dirty = true then { setFr c f { c.fr f with dirty := false } with D := updD c.D (c.fr f).block (c.fr f).bs, s := c.s + 1 } else c

theorem CInv.setFr {c : Cs} (h : CInv F blocks bytes hole c) (f : Nat) (x : Fr) (hf : f < F) (h1 : x.used = (c.fr f).used) (h2 : x.block = (c.fr f).block) (h3 : x.pins = 0 ↔ (c.fr f).pins = 0) (h4 : x.bs.length = (c.fr f).bs.length) (hu : (c.fr f).used = true) : CInv F blocks bytes hole (setFr c f x) := by
  have key : ∀ a, ((upd c.fr f x) a).used = (c.fr a).used ∧ ((upd c.fr f x) a).block = (c.fr a).block ∧ (((upd c.fr f x) a).pins = 0 ↔ (c.fr a).pins = 0) ∧ ((upd c.fr f x) a).bs.length = (c.fr a).bs.length := by
    intro a
    by_cases e : a = f
    · subst e; simp [upd, h1, h2, h3, h4]
    · simp [upd, e]
  refine ⟨h.hF, fun i g => ?_, fun g => ?_, h.empN, fun g => ?_, fun g hg => ?_, fun g hg => ?_⟩
  · show c.at_ i = some g ↔ _
    rw [h.at_ i g]; simp only [Sg.setFr, (key g).1, (key g).2.1]
  · show g ∈ c.empty ↔ _
    rw [h.emp g]; simp only [Sg.setFr, (key g).1]
  · show g ∈ c.order ↔ _
    rw [h.ord g]; simp only [Sg.setFr, (key g).1, (key g).2.2.1]
  · simp only [Sg.setFr, (key g).1] at hg
    simp only [Sg.setFr, (key g).2.1, (key g).2.2.2]
    exact h.blk g hg
  · simp only [Sg.setFr, (key g).1] at hg
    have e : g ≠ f := by rintro rfl; rw [hu] at hg; cases hg
    simp only [Sg.setFr, upd_other _ _ e]
    exact h.idle g hg

set_option maxRecDepth 100000 in
set_option maxHeartbeats 400000 in
theorem cache_back (h : IsCache w G F blocks bytes hole c) (f : Nat) (hf : f < F) (hu : (c.fr f).used = true) :
    Calls Tryz.prog 149 #[.pointer (some ⟨G.gc, 0, none⟩), .pointer (some ⟨G.gf, f * 4, none⟩)] w fun e w' => e = .returned (.tuple #[]) ∧ IsCache w' G F blocks bytes hole (backC c f) ∧ Keeps (CFoot G) w w' := by
  have t := h.tags
  obtain ⟨gb, cb, hfr⟩ := h.frames
  have hF2 := h.inv.hF.2
  have hblk := h.inv.blk f hu
  obtain ⟨p0, p1, p2, p3⟩ := hfr.cells hf
  rw [if_pos hu] at p1
  by_cases hd : (c.fr f).dirty = true
  · have c0 : w.cell? ⟨G.gc, 0, none⟩ = some (.pointer (some ⟨G.gd, 0, none⟩)) := h.box.cell 0
    rw [hd] at p2
    have hfz := hfr.rows.frozen (f * 4 + 2)
    have A1 := Hd.mk hu
    have A2 := Hd.mk hd
    have A3 := Hd.mk hblk
    clear hu hd hblk
    go_enter Tryz.func149, Tryz.ntmps149
    go_wp2_with fail
    go_still_tail 12, (by kernel_rfl)
    go_wp2_with fail
    have hdv : IsDev w.drew G.gd G.gi blocks bytes c.D c.r c.s := h.dev
    have hby : BytesAt w.drew (gb f) 0 (c.fr f).bs := hfr.bytes f hf A1.out
    refine (dev_write hdv (c.fr f).block A3.out.1 (gb f) 0 (cb f) (c.fr f).bs hby A3.out.2).mono ?_
    rintro e w1 ⟨rfl, hd1, hk1⟩
    have hk1' : Keeps (fun k => k = G.gd ∨ k = G.gi) w w1 := (Keeps.refl (fun _ => False) w).drew.trans hk1 (fun _ _ h => h.elim) (fun _ _ h => h)
    clear hk1
    have hgfS : ¬ (G.gf = G.gd ∨ G.gf = G.gi) := by
      rintro (e | e)
      · exact tag_ne t.f t.d (by decide) e
      · exact tag_ne t.f t.i (by decide) e
    have hR1 := hfr.rows.keep hk1' hgfS
    have p2' : w1.cell? ⟨G.gf, f * 4 + 2, none⟩ = some (.bool true) := (World.cell?_of_block (hk1'.block G.gf hfr.rows.lt hgfS)).trans p2
    have hfz' := hR1.frozen (f * 4 + 2)
    go_wp2
    refine bodyPost_end (results_none rfl _ _ _) rfl ?_
    generalize hw2 : w1.setCell ⟨G.gf, f * 4 + 2, none⟩ (.bool false) = w2
    have hk2 : Keeps (fun k => k = G.gf) w1 w2 := by rw [← hw2]; exact (Keeps.refl (fun k => k = G.gf) w1).setCell (fun _ => rfl) _
    have hR2 := hR1.set_ (f * 4 + 2) (.bool false)
    rw [hw2, frF_dirty hf] at hR2
    have hk : Keeps (fun k => k = G.gd ∨ k = G.gi ∨ k = G.gf) w w2 := hk1'.trans hk2 (fun _ _ e => e.imp id .inl) (fun _ _ e => .inr (.inr e))
    have hS : ∀ k, (k = G.gd ∨ k = G.gi ∨ k = G.gf) → CFoot G k := by
      rintro k (e | e | e)
      · exact .inl e
      · exact .inr (.inl e)
      · exact .inr (.inr (.inr (.inl e)))
    refine ⟨rfl, ?_, hk.mono fun k _ e => hS k e⟩
    unfold backC
    rw [if_pos A2.out]
    have hi := h.inv.setFr f { c.fr f with dirty := false } hf rfl rfl Iff.rfl rfl A1.out
    have hinv : CInv F blocks bytes hole { Sg.setFr c f { c.fr f with dirty := false } with D := updD c.D (c.fr f).block (c.fr f).bs, s := c.s + 1 } := ⟨hi.hF, hi.at_, hi.emp, hi.empN, hi.ord, hi.blk, hi.idle⟩
    refine ⟨hd1.keep hk2 (tag_ne t.d t.f (by decide)) (tag_ne t.i t.f (by decide)), h.box.keep hk ?_, ⟨gb, cb, hR2, ?_, ?_, ?_⟩, h.map.keep (hk.block _ (tag_lt t.m) ?_), own_keep h.emp (hk.block _ (tag_lt t.e) ?_), h.cap, h.chain.keep hk ?_ ?_, hinv⟩
    · rintro (e | e | e)
      · exact tag_ne t.c t.d (by decide) e
      · exact tag_ne t.c t.i (by decide) e
      · exact tag_ne t.c t.f (by decide) e
    · intro a ha hua
      have hua' : (c.fr a).used = true := by
        by_cases e : a = f
        · subst e; exact A1.out
        · simpa [Sg.setFr, upd, e] using hua
      have e1 : (upd c.fr f { c.fr f with dirty := false } a).bs = (c.fr a).bs := by
        by_cases e : a = f
        · subst e; simp [upd]
        · simp [upd, e]
      show BytesAt w2 (gb a) 0 (upd c.fr f { c.fr f with dirty := false } a).bs
      rw [e1]
      obtain ⟨cs, hb⟩ := hfr.byt a ha hua'
      exact (hfr.bytes a ha hua').keep (hk.block _ hb.lt fun e => hfr.not_foot t ha hua' (hS _ e))
    · intro a ha hua
      have hua' : (c.fr a).used = true := by
        by_cases e : a = f
        · subst e; exact A1.out
        · simpa [Sg.setFr, upd, e] using hua
      obtain ⟨cs, hb⟩ := hfr.byt a ha hua'
      exact ⟨cs, hb.keep hk fun e => hfr.not_foot t ha hua' (hS _ e)⟩
    · intro a ha hua
      have hua' : (c.fr a).used = true := by
        by_cases e : a = f
        · subst e; exact A1.out
        · simpa [Sg.setFr, upd, e] using hua
      exact hfr.ne a ha hua'
    · rintro (e | e | e)
      · exact tag_ne t.m t.d (by decide) e
      · exact tag_ne t.m t.i (by decide) e
      · exact tag_ne t.m t.f (by decide) e
    · rintro (e | e | e)
      · exact tag_ne t.e t.d (by decide) e
      · exact tag_ne t.e t.i (by decide) e
      · exact tag_ne t.e t.f (by decide) e
    · rintro (e | e | e)
      · exact tag_ne t.ch t.d (by decide) e
      · exact tag_ne t.ch t.i (by decide) e
      · exact tag_ne t.ch t.f (by decide) e
    · rintro (e | e | e)
      · exact tag_ne t.l t.d (by decide) e
      · exact tag_ne t.l t.i (by decide) e
      · exact tag_ne t.l t.f (by decide) e
  · have hd' : (c.fr f).dirty = false := by simpa using hd
    rw [hd'] at p2
    have A2 := Hd.mk hd
    clear hd hd' hu hblk
    go_enter Tryz.func149, Tryz.ntmps149
    go_wp2
    refine bodyPost_end (results_none rfl _ _ _) rfl ⟨rfl, ?_, Keeps.refl _ w⟩
    unfold backC
    rw [if_neg A2.out]
    exact h


/-- leave: a frame is empty. -/
def leaveC (c : Cs) (f : Nat) : Cs := { c with fr := upd c.fr f Fr.zero, at_ := setAt c.at_ (c.fr f).block none, order := c.order.erase f, empty := c.empty ++ [f] }

theorem Tryz.infoInt : (Tryz.prog.info? 3).map (fun i => (i.zero, i.size, i.bytes)) = some (some (.int .i64 0), 1, 8) := by kernel_rfl
theorem erase_mid {p s : List Nat} {f : Nat} (hn : (p ++ f :: s).Nodup) : (p ++ f :: s).erase f = p ++ s := by
  have hp : f ∉ p := fun h => (List.nodup_append.1 hn).2.2 f h f (by simp) rfl
  rw [List.erase_append_right _ hp, List.erase_cons_head]

theorem CInv.leave (h : CInv F blocks bytes hole c) (f : Nat) (hf : f < F) (hu : (c.fr f).used = true) (hh : hole ≠ some f) (hn : c.order.Nodup) : CInv F blocks bytes hole (leaveC c f) := by
  have hfe : f ∉ c.empty := fun hm => by have := ((h.emp f).1 hm).2.1; rw [hu] at this; cases this
  refine ⟨h.hF, fun i g => ?_, fun g => ?_, ?_, fun g => ?_, fun g hg => ?_, fun g hg => ?_⟩
  · show setAt c.at_ (c.fr f).block none i = some g ↔ g < F ∧ (upd c.fr f Fr.zero g).used = true ∧ (upd c.fr f Fr.zero g).block = i
    unfold setAt
    by_cases e : g = f
    · subst e
      rw [upd_same]
      constructor
      · intro hx
        split at hx
        · cases hx
        · rename_i hne
          exact absurd ((h.at_ i g).1 hx).2.2.symm hne
      · rintro ⟨_, hx, _⟩; cases hx
    · rw [upd_other _ _ e]
      constructor
      · intro hx
        split at hx
        · cases hx
        · exact (h.at_ i g).1 hx
      · intro hx
        rw [if_neg]
        · exact (h.at_ i g).2 hx
        · rintro rfl
          have h1 := (h.at_ _ g).2 hx
          have h2 := (h.at_ (c.fr f).block f).2 ⟨hf, hu, rfl⟩
          rw [h1] at h2; injection h2 with h2; exact e h2
  · show g ∈ c.empty ++ [f] ↔ g < F ∧ (upd c.fr f Fr.zero g).used = false ∧ hole ≠ some g
    rw [List.mem_append, h.emp g]
    by_cases e : g = f
    · subst e
      rw [upd_same]
      exact ⟨fun _ => ⟨hf, rfl, hh⟩, fun _ => .inr (by simp)⟩
    · rw [upd_other _ _ e]
      simp [e]
  · show (c.empty ++ [f]).Nodup
    exact List.nodup_append.2 ⟨h.empN, by simp, fun x hx y hy => by simp at hy; subst hy; rintro rfl; exact hfe hx⟩
  · show g ∈ c.order.erase f ↔ g < F ∧ (upd c.fr f Fr.zero g).used = true ∧ (upd c.fr f Fr.zero g).pins = 0
    rw [hn.mem_erase_iff, h.ord g]
    by_cases e : g = f
    · subst e
      rw [upd_same]
      exact ⟨fun hx => absurd rfl hx.1, fun hx => by cases hx.2.1⟩
    · rw [upd_other _ _ e]
      simp [e]
  · have hg : (upd c.fr f Fr.zero g).used = true := hg
    show (upd c.fr f Fr.zero g).block < blocks ∧ (upd c.fr f Fr.zero g).bs.length = bytes
    by_cases e : g = f
    · subst e; rw [upd_same] at hg; cases hg
    · rw [upd_other _ _ e] at hg ⊢; exact h.blk g hg
  · have hg : (upd c.fr f Fr.zero g).used = false := hg
    show upd c.fr f Fr.zero g = Fr.zero
    by_cases e : g = f
    · subst e; rw [upd_same]
    · rw [upd_other _ _ e] at hg ⊢; exact h.idle g hg

set_option maxRecDepth 100000 in
set_option maxHeartbeats 400000 in
theorem cache_leave (h : IsCache w G F blocks bytes hole c) (f : Nat) (hf : f < F) (hu : (c.fr f).used = true) (hp : (c.fr f).pins = 0) (hh : hole ≠ some f) (hel : c.empty.length < F) :
    Calls Tryz.prog 167 #[.pointer (some ⟨G.gc, 0, none⟩), .int .i64 f] w fun e w' => e = .returned (.tuple #[]) ∧ IsCache w' G F blocks bytes hole (leaveC c f) ∧ Keeps (CFoot G) w w' := by
  have t := h.tags
  obtain ⟨gb, cb, hfr⟩ := h.frames
  have hF2 := h.inv.hF.2
  have hblk := (h.inv.blk f hu).1
  have hbk : blocks ≤ 65536 := h.dev.2.2.2.1
  obtain ⟨p0, p1, p2, p3⟩ := hfr.cells hf
  rw [if_pos hu] at p1
  obtain ⟨p, s, hps⟩ := List.append_of_mem ((h.inv.ord f).2 ⟨hf, hu, hp⟩)
  have hch := h.chain
  rw [hps] at hch
  have hnd : (p ++ f :: s).Nodup := by obtain ⟨_, _, _, hr, _⟩ := hch; exact hr.nodup
  have c1 : w.cell? ⟨G.gc, 1, none⟩ = some (.slice (some ⟨G.gf, 0, none⟩) F F) := h.box.cell 1
  have c2 : w.cell? ⟨G.gc, 2, none⟩ = some (.map (some G.gm)) := h.box.cell 2
  have A0 := Hd.mk hps
  have A1 := Hd.mk hu
  have A2 := Hd.mk hp
  have A3 := Hd.mk hblk
  clear hu hp hblk hps
  go_enter Tryz.func167, Tryz.ntmps167
  go_wp2_with fail
  go_still_tail 12, (by kernel_rfl)
  have hmp : IsMap32 w.drew G.gm c.at_ := h.map
  go_wp2_with (refine wpList_map_del rfl _ _ rfl G.gm c.at_ hmp (c.fr f).block (by have := A3.out; omega) rfl rfl ?_)
  intro w1 hm1 hk1
  have hk1' : Keeps (fun k => k = G.gm) w w1 := (Keeps.refl (fun _ => False) w).drew.trans hk1 (fun _ _ h => h.elim) (fun _ _ h => h)
  clear hk1
  have N := t.nes
  have c4 : w1.cell? ⟨G.gc, 4, none⟩ = some (.pointer (some ⟨G.gch, 0, none⟩)) := (h.box.keep hk1' (by simp [N])).cell 4
  have hch1 := hch.keep hk1' (by simp [N]) (by simp [N])
  clear N
  go_wp2_with fail
  refine (chain_cut_in f hch1).mono ?_
  rintro e w2 ⟨rfl, hch2, hk2⟩
  have hk12 : Keeps (fun k => k = G.gm ∨ k = G.gch ∨ k = G.gl) w w2 := hk1'.trans hk2 (fun _ _ e => .inl e) (fun _ _ e => .inr e)
  have N := t.nes
  have hB2 := h.box.keep hk12 (by simp [N])
  have hR2 := hfr.rows.keep hk12 (by simp [N])
  have hE2 := own_keep h.emp (hk12.block _ (tag_lt t.e) (by simp [N]))
  have n1 : G.gf ≠ G.gc := by simp [N]
  have n2 : G.ge ≠ G.gf := by simp [N]
  clear N
  have c1' : w2.cell? ⟨G.gc, 1, none⟩ = some (.slice (some ⟨G.gf, 0, none⟩) F F) := hB2.cell 1
  have c3' : w2.cell? ⟨G.gc, 3, none⟩ = some (.slice (some ⟨G.ge, 0, none⟩) c.empty.length G.cap) := hB2.cell 3
  have z3 := hB2.frozen 3
  have zf : ∀ k, w2.frozen? ⟨G.gf, k, none⟩ = false := fun k => hR2.frozen k
  have q0 : w2.cell? ⟨G.gf, f * 4, none⟩ = some (.int .u32 (c.fr f).block) := (hR2.cell _).trans (grid_at (r := 0) _ hf (by omega))
  have q1 : w2.cell? ⟨G.gf, f * 4 + 1, none⟩ = some (.slice (some ⟨gb f, 0, none⟩) bytes (cb f)) := (World.cell?_of_block (hk12.block _ hfr.rows.lt (by have N := t.nes; simp [N]))).trans p1
  have q2 : w2.cell? ⟨G.gf, f * 4 + 2, none⟩ = some (.bool (c.fr f).dirty) := (hR2.cell _).trans (grid_at (r := 2) _ hf (by omega))
  have q3 : w2.cell? ⟨G.gf, f * 4 + 3, none⟩ = some (.int .i64 (c.fr f).pins) := (hR2.cell _).trans (grid_at (r := 3) _ hf (by omega))
  clear p0 p1 p2 p3 c1 c2 c4
  have X1 := Hd.mk hk1'
  have X2 := Hd.mk hk12
  have X3 := Hd.mk hE2
  have X4 := Hd.mk hh
  have hk2' := hk2
  clear hk1' hk12 hk2 hE2 hh
  obtain ⟨i0, hi, hz0, hz1, hz2⟩ := info_parts' Tryz.infoInt
  go_wp2_with (at_builtin; refine wpList_append_fits _ rfl (.tmp 33) (.tmp 35) 185 rfl 0 3 i0 1 ?h1 ?h2 ?h4 G.ge c.empty.length G.cap (natv c.empty) ?hs ?ho ⟨w2.heap.size, 0, none⟩ 1 1 [.int .i64 f] ?hx ?hn ?c1 ?c2 ?c3 ?_)
  case h1 => exact Tryz.underlying185
  case h2 => exact hi
  case h4 => exact hz1
  case hs => rfl
  case hx => rfl
  case hn => rfl
  case ho =>
    refine own_keep X3.out ?_
    refine (Below.heap_alloc _ _ _ ?_).trans ?_
    · simpa [World.setCell] using tag_lt (own_tag X3.out)
    · exact (Below.heap_setCell _ _ _ _ n2).trans ((Below.heap_setCell _ _ _ _ n2).trans ((Below.heap_setCell _ _ _ _ n2).trans (Below.heap_setCell _ _ _ _ n2)))
  case c1 => exact cell_one_at (by simp [World.setCell])
  case c2 => simp [Value.oneCell']
  case c3 => have := h.cap; omega
  intro w3 hown3 hg3
  have hk23 : Keeps (fun k => k = G.gf ∨ k = G.ge) w2 w3 := ((((((Keeps.refl (fun k => k = G.gf ∨ k = G.ge) w2).setCell (fun _ => .inl rfl) _).setCell (fun _ => .inl rfl) _).setCell (fun _ => .inl rfl) _).setCell (fun _ => .inl rfl) _).alloc _).grown hg3 (fun k e _ => by injection e with e; exact .inr e.symm)
  have hR3 := ((((hR2.set_ (f * 4) (.int .u32 0)).set_ (f * 4 + 1) (.slice none 0 0)).set_ (f * 4 + 2) (.bool false)).set_ (f * 4 + 3) (.int .i64 0)).alloc (.cells #[.int .i64 (f : Nat)] 3) |>.grown hg3 (by intro e; injection e with e; exact n2 e.symm)
  have eR := frF_all (fr := c.fr) (gb := gb) (cb := cb) (bytes := bytes) hf Fr.zero (gb f) (cb f)
  have N := t.nes
  have hB3 := hB2.keep hk23 (by simp [N])
  have c3'' : w3.cell? ⟨G.gc, 3, none⟩ = some (.slice (some ⟨G.ge, 0, none⟩) c.empty.length G.cap) := hB3.cell 3
  have z3' := hB3.frozen 3
  have hcell3 : (cells G F c.empty.length).setIfInBounds 3 (.slice (some ⟨G.ge, 0, none⟩) (c.empty.length + 1) G.cap) = cells G F (leaveC c f).empty.length := by simp [cells, leaveC]
  have Y1 := Hd.mk hk23
  have Y2 := Hd.mk eR
  have Y3 := Hd.mk hcell3
  have Y4 := Hd.mk N
  have Y5 := Hd.mk hown3
  clear hk23 eR hcell3 N hown3 c1' c3' z3 zf q0 q1 q2 q3
  go_wp2
  refine bodyPost_end (results_none rfl _ _ _) rfl ?_
  generalize hw4 : w3.setCell ⟨G.gc, 3, none⟩ (.slice (some ⟨G.ge, 0, none⟩) (c.empty.length + 1) G.cap) = w4
  have N := Y4.out
  have hk34 : Keeps (fun k => k = G.gc) w3 w4 := by rw [← hw4]; exact (Keeps.refl (fun k => k = G.gc) w3).setCell (fun _ => rfl) _
  have hk24 : Keeps (fun k => k = G.gf ∨ k = G.ge ∨ k = G.gc) w2 w4 := Y1.out.trans hk34 (fun _ _ e => e.imp id .inl) (fun _ _ e => .inr (.inr e))
  have hk14 : Keeps (fun k => k = G.gch ∨ k = G.gl ∨ k = G.gf ∨ k = G.ge ∨ k = G.gc) w1 w4 := hk2'.trans hk24 (fun _ _ e => e.imp id .inl) (fun _ _ e => .inr (.inr e))
  have hk : Keeps (CFoot G) w w4 := by
    refine X1.out.trans hk14 (fun _ _ e => ?_) (fun _ _ e => ?_)
    · subst e; simp [CFoot]
    · rcases e with rfl | rfl | rfl | rfl | rfl <;> simp [CFoot]
  have hk0 : Keeps (fun k => k = G.gm ∨ k = G.gch ∨ k = G.gl ∨ k = G.gf ∨ k = G.ge ∨ k = G.gc) w w4 := X1.out.trans hk14 (fun _ _ e => .inl e) (fun _ _ e => .inr e)
  have hR3' : Blk w3 G.gf 190 (grid 4 F (frF bytes (upd c.fr f Fr.zero) (upd gb f (gb f)) (upd cb f (cb f)))) := by rw [← Y2.out]; exact hR3
  have hB4 := hB3.set_ 3 (.slice (some ⟨G.ge, 0, none⟩) (c.empty.length + 1) G.cap)
  rw [hw4, Y3.out] at hB4
  have hused : ∀ a, ((leaveC c f).fr a).used = true → a ≠ f ∧ (c.fr a).used = true ∧ (leaveC c f).fr a = c.fr a := by
    intro a ha
    have ha' : (upd c.fr f Fr.zero a).used = true := ha
    by_cases e : a = f
    · subst e; rw [upd_same] at ha'; cases ha'
    · rw [upd_other _ _ e] at ha'; exact ⟨e, ha', upd_other _ _ e⟩
  have hnot : ∀ a, a < F → (c.fr a).used = true → ¬ (gb a = G.gm ∨ gb a = G.gch ∨ gb a = G.gl ∨ gb a = G.gf ∨ gb a = G.ge ∨ gb a = G.gc) := by
    intro a ha hu e
    refine hfr.not_foot t ha hu ?_
    rcases e with e | e | e | e | e | e <;> rw [e] <;> simp [CFoot]
  have hord : (leaveC c f).order = p ++ s := by
    show c.order.erase f = p ++ s
    rw [A0.out]; exact erase_mid hnd
  refine ⟨rfl, ⟨h.dev.keep hk0 (by simp [N]) (by simp [N]), hB4, ⟨upd gb f (gb f), upd cb f (cb f), hR3'.keep hk34 (by simp [N]), ?_, ?_, ?_⟩, hm1.keep (hk14.block _ hm1.lt (by simp [N])), ?_, h.cap, ?_, ?_⟩, hk⟩
  · intro a ha hua
    obtain ⟨e, hu, e2⟩ := hused a hua
    rw [upd_other _ _ e, e2]
    obtain ⟨cs, hb⟩ := hfr.byt a ha hu
    exact (hfr.bytes a ha hu).keep (hk0.block _ hb.lt (hnot a ha hu))
  · intro a ha hua
    obtain ⟨e, hu, e2⟩ := hused a hua
    rw [upd_other _ _ e]
    obtain ⟨cs, hb⟩ := hfr.byt a ha hu
    exact ⟨cs, hb.keep hk0 (hnot a ha hu)⟩
  · intro a ha hua
    obtain ⟨e, hu, e2⟩ := hused a hua
    rw [upd_other _ _ e]
    exact hfr.ne a ha hu
  · have h1 : (leaveC c f).empty.length = c.empty.length + 1 := by simp [leaveC]
    have h2 : natv (leaveC c f).empty = natv c.empty ++ [.int .i64 (f : Nat)] := by simp [leaveC, natv]
    rw [h1, h2]
    exact own_keep Y5.out (hk34.block _ (tag_lt (own_tag Y5.out)) (by simp [N]))
  · rw [hord]
    exact hch2.keep hk24 (by simp [N]) (by simp [N])
  · exact h.inv.leave f hf A1.out X4.out (by rw [A0.out]; exact hnd)

end
end Go.Proofs.Sg
