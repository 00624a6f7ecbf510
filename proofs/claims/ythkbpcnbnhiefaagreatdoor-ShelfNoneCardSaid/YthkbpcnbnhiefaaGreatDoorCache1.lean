/- The cache's methods that read. -/
import Derived.Test.YthkbpcnbnhiefaaGreatDoorCache0
import Derived.Deep.QuietTactic
import Derived.BigQuiet
namespace Go.Proofs.Sg
open Go.RowKit

section
variable {w w' : World} {G : Ids} {F blocks bytes : Nat} {hole : Option Nat} {c : Cs}

theorem cache_none (h : IsCache w G F blocks bytes hole c) :
    Calls Tryz.prog 147 #[.pointer (some ⟨G.gc, 0, none⟩)] w fun e w' => e = .returned (.bool false) ∧ w = w' := by
  have c0 : w.cell? ⟨G.gc, 0, none⟩ = some (.pointer (some ⟨G.gd, 0, none⟩)) := h.box.cell 0
  go_enter Tryz.func147, Tryz.ntmps147
  go_wp2
  go_ret
  exact ⟨rfl, rfl⟩

theorem cache_there (h : IsCache w G F blocks bytes hole c) (i : Nat) (hi : i < blocks) :
    Calls Tryz.prog 125 #[.pointer (some ⟨G.gc, 0, none⟩), .int .u32 i] w fun e w' => e = .returned (.int .i64 0) ∧ ∃ q, w' = w.drewN q := by
  have c0 : w.cell? ⟨G.gc, 0, none⟩ = some (.pointer (some ⟨G.gd, 0, none⟩)) := h.box.cell 0
  have hb : blocks ≤ 65536 := h.dev.2.2.2.1
  go_enter Tryz.func125, Tryz.ntmps125
  go_wp2_with fail
  refine (cache_none h).mono ?_
  rintro e w' ⟨rfl, rfl⟩
  go_wp2_with fail
  refine (dev_blocks h.dev).mono ?_
  rintro e w' ⟨rfl, q, rfl⟩
  go_wp2_with fail
  go_ret
  exact ⟨rfl, q, rfl⟩

theorem Frames.cells {fr : Nat → Fr} {gb cb : Nat → Nat} (h : Frames w G F bytes fr gb cb) {f : Nat} (hf : f < F) :
    w.cell? ⟨G.gf, f * 4, none⟩ = some (.int .u32 (fr f).block) ∧ w.cell? ⟨G.gf, f * 4 + 1, none⟩ = some (if (fr f).used = true then .slice (some ⟨gb f, 0, none⟩) bytes (cb f) else .slice none 0 0) ∧
    w.cell? ⟨G.gf, f * 4 + 2, none⟩ = some (.bool (fr f).dirty) ∧ w.cell? ⟨G.gf, f * 4 + 3, none⟩ = some (.int .i64 (fr f).pins) :=
  ⟨(h.rows.cell _).trans (grid_at (r := 0) _ hf (by omega)), (h.rows.cell _).trans (grid_at (r := 1) _ hf (by omega)), (h.rows.cell _).trans (grid_at (r := 2) _ hf (by omega)), (h.rows.cell _).trans (grid_at (r := 3) _ hf (by omega))⟩

theorem cache_pinned (h : IsCache w G F blocks bytes hole c) (i f : Nat) (hi : i < 65536) (hf : c.at_ i = some f) (hp : 0 < (c.fr f).pins) :
    Calls Tryz.prog 129 #[.pointer (some ⟨G.gc, 0, none⟩), .int .u32 i] w fun e w' => e = .returned (.tuple #[.pointer (some ⟨G.gf, f * 4, none⟩), .int .i64 0]) ∧ ∃ q, w' = w.drewN q := by
  have c1 : w.cell? ⟨G.gc, 1, none⟩ = some (.slice (some ⟨G.gf, 0, none⟩) F F) := h.box.cell 1
  have c2 : w.cell? ⟨G.gc, 2, none⟩ = some (.map (some G.gm)) := h.box.cell 2
  obtain ⟨gb, cb, hfr⟩ := h.frames
  have hfF := ((h.inv.at_ i f).1 hf).1
  have hF2 := h.inv.hF.2
  obtain ⟨p0, p1, p2, p3⟩ := hfr.cells hfF
  clear p1
  have hz : (((c.fr f).pins : Int) == 0) = false := by simp; omega
  have A1 := Hd.mk hf
  clear hf
  go_enter Tryz.func129, Tryz.ntmps129
  go_wp2_with fail
  refine (cache_none h).mono ?_
  rintro e w' ⟨rfl, rfl⟩
  go_wp2_with (refine wpList_look_some rfl _ _ rfl G.gm c.at_ h.map i hi f A1.out rfl rfl ?_)
  go_ret2
  exact ⟨rfl, 0, rfl⟩

theorem cache_read (h : IsCache w G F blocks bytes hole c) (i f : Nat) (hi : i < 65536) (hf : c.at_ i = some f) (hp : 0 < (c.fr f).pins) :
    Calls Tryz.prog 67 #[.pointer (some ⟨G.gc, 0, none⟩), .int .u32 i] w fun e w' => ∃ g cc, e = .returned (.tuple #[.slice (some ⟨g, 0, none⟩) bytes cc, .int .i64 0]) ∧
      w.heap.size ≤ g ∧ g < w'.heap.size ∧ (∃ cs, Blk w' g 5 cs) ∧ BytesAt w' g 0 (c.fr f).bs ∧ Below w.heap.size w w' := by
  obtain ⟨gb, cb, hfr⟩ := h.frames
  have hat := (h.inv.at_ i f).1 hf
  have hfF := hat.1
  have hF2 := h.inv.hF.2
  have hlen := (h.inv.blk f hat.2.1).2
  have hb4 : bytes ≤ 65536 := h.dev.2.2.2.2.2.1
  obtain ⟨p0, p1, p2, p3⟩ := hfr.cells hfF
  rw [if_pos hat.2.1] at p1
  have hu := hat.2.1
  have A3 := Hd.mk hlen
  have A4 := Hd.mk hu
  have A5 := Hd.mk hf
  have hcall := cache_pinned h i f hi hf hp
  clear hlen hat hu hf
  go_enter Tryz.func67, Tryz.ntmps67
  go_wp2_with fail
  refine hcall.mono ?_
  rintro e w' ⟨rfl, q, rfl⟩
  clear hcall
  go_wp2_with fail
  have hB : BytesAt (w.drewN q) (gb f) 0 (c.fr f).bs := hfr.bytes f hfF A4.out
  have hC := clone_bytes hB (cb f) (by rw [A3.out]; omega)
  rw [A3.out] at hC
  refine hC.mono ?_
  clear hC hB
  rintro e w1 ⟨g, cc, rfl, hg1, hg2, _, hg3, hg4, hb1⟩
  go_wp2_with fail
  go_ret2
  have hb : Below w.heap.size w w1 := by
    have := ((Keeps.refl (fun _ => False) w).drewN q).trans (U := fun _ => False) (Keeps.of_below (S := fun _ => False) hb1) (fun _ _ h => h) (fun _ _ h => h)
    exact this.below (Nat.le_refl _) (fun _ _ h => h)
  exact ⟨g, cc, rfl, by simpa using hg1, hg2, hg3, hg4, hb⟩

def setFr (c : Cs) (f : Nat) (x : Fr) : Cs := { c with fr := upd c.fr f x }

section
variable {fr : Nat → Fr} {gb cb : Nat → Nat} {f : Nat}
theorem frF_pins (hf : f < F) (p : Nat) : (grid 4 F (frF bytes fr gb cb)).setIfInBounds (f * 4 + 3) (.int .i64 p) = grid 4 F (frF bytes (upd fr f { fr f with pins := p }) gb cb) := by
  rw [grid_set _ hf (by omega)]
  apply grid_congr
  intro a r _ hr
  by_cases e : a = f
  · subst e
    rcases r with _ | _ | _ | _ | r
    · simp [frF, upd]
    · simp [frF, upd]
    · simp [frF, upd]
    · simp [frF, upd]
    · omega
  · simp [e, frF, upd]
theorem frF_dirty (hf : f < F) (b : Bool) : (grid 4 F (frF bytes fr gb cb)).setIfInBounds (f * 4 + 2) (.bool b) = grid 4 F (frF bytes (upd fr f { fr f with dirty := b }) gb cb) := by
  rw [grid_set _ hf (by omega)]
  apply grid_congr
  intro a r _ hr
  by_cases e : a = f
  · subst e
    rcases r with _ | _ | _ | r <;> simp [frF, upd]
  · simp [e, frF, upd]
theorem frF_bytes (hf : f < F) (hu : (fr f).used = true) (g cc : Nat) (bs : List UInt8) : (grid 4 F (frF bytes fr gb cb)).setIfInBounds (f * 4 + 1) (.slice (some ⟨g, 0, none⟩) bytes cc) = grid 4 F (frF bytes (upd fr f { fr f with bs := bs }) (upd gb f g) (upd cb f cc)) := by
  rw [grid_set _ hf (by omega)]
  apply grid_congr
  intro a r _ hr
  by_cases e : a = f
  · subst e
    rcases r with _ | _ | _ | r <;> simp [frF, upd, hu]
  · simp [e, frF, upd]
theorem frF_all (hf : f < F) (x : Fr) (g cc : Nat) : ((((grid 4 F (frF bytes fr gb cb)).setIfInBounds (f * 4) (.int .u32 x.block)).setIfInBounds (f * 4 + 1) (if x.used = true then .slice (some ⟨g, 0, none⟩) bytes cc else .slice none 0 0)).setIfInBounds (f * 4 + 2) (.bool x.dirty)).setIfInBounds (f * 4 + 3) (.int .i64 x.pins) = grid 4 F (frF bytes (upd fr f x) (upd gb f g) (upd cb f cc)) := by
  have h0 := grid_set (sz := 4) (r := 0) (frF bytes fr gb cb) hf (by omega) (.int .u32 x.block)
  rw [Nat.add_zero] at h0
  rw [h0, grid_set _ hf (by omega), grid_set _ hf (by omega), grid_set _ hf (by omega)]
  apply grid_congr
  intro a r _ hr
  by_cases e : a = f
  · subst e
    rcases r with _ | _ | _ | _ | r
    · simp [frF, upd]
    · simp [frF, upd]
    · simp [frF, upd]
    · simp [frF, upd]
    · omega
  · simp [e, frF, upd]
end

end
end Go.Proofs.Sg
