/- The cache's Fresh and Drop. -/
import Derived.Test.YthkbpcnbnhiefaaGreatDoorCache7
namespace Go.Proofs.Sg
open Go.RowKit

section
variable {w w' : World} {G : Ids} {F blocks bytes : Nat} {c : Cs}

/-- A block of noughts in a frame. -/
def freshC (c : Cs) (f i bytes : Nat) : Cs := putC c f ⟨i, List.replicate bytes 0, true, 1, true⟩

theorem make_bytes (bytes : Nat) (hb : bytes ≤ 65536) (W : World) : (Instr.makeSlice 26 (.int .i64 (bytes : Nat)) (.int .i64 (bytes : Nat))).run Tryz.prog W = .ok (.slice (some ⟨W.heap.size, 0, none⟩) bytes bytes) (W.alloc (.cells (madeCells #[.int .u8 0] bytes) 5)) :=
  run_make_row' 26 5 (.int .u8 0) 1 Tryz.underlying26 Tryz.infoU8 rfl .i64 .i64 bytes (by omega) (by omega) W

theorem made_bytesAt {w : World} {g n : Nat} (h : Blk w g 5 (madeCells #[.int .u8 0] n)) : BytesAt w g 0 (List.replicate n 0) := by
  intro j hj
  rw [h.cell]
  simp at hj
  simp [madeCells, hj, Nat.mod_one, bv]

theorem CInv.room_left {hole : Option Nat} (h : CInv F blocks bytes hole c) (f : Nat) (hf : f < F) (hu : (c.fr f).used = true) : c.empty.length < F := by
  have hn : f ∉ c.empty := fun hm => by have := ((h.emp f).1 hm).2.1; rw [hu] at this; cases this
  have hsub : (f :: c.empty) ⊆ List.range F := by
    intro a ha
    rw [List.mem_range]
    rcases List.mem_cons.1 ha with e | e
    · rw [e]; exact hf
    · exact ((h.emp a).1 e).1
  have := List.Nodup.length_le_of_subset (List.nodup_cons.2 ⟨hn, h.empN⟩) hsub
  simp at this
  omega

set_option maxRecDepth 100000 in
set_option maxHeartbeats 1600000 in
theorem cache_fresh_new (h : IsCache w G F blocks bytes none c) (i : Nat) (hi : i < blocks) (hf : c.at_ i = none) (hne : c.empty ≠ [] ∨ c.order ≠ []) :
    Calls Tryz.prog 134 #[.pointer (some ⟨G.gc, 0, none⟩), .int .u32 i] w fun e w' => e = .returned (.int .i64 0) ∧ ∃ f c', RoomOf c f c' ∧ IsCache w' G F blocks bytes none (freshC c' f i bytes) ∧ Keeps (CFoot G) w w' := by
  have t := h.tags
  have hbk : blocks ≤ 65536 := h.dev.2.2.2.1
  have hby : bytes ≤ 65536 := h.dev.2.2.2.2.2.1
  have c2 : w.cell? ⟨G.gc, 2, none⟩ = some (.map (some G.gm)) := h.box.cell 2
  have hmk := make_bytes bytes hby
  have A0 := Hd.mk hf
  have A1 := Hd.mk hne
  clear hf hne
  go_enter Tryz.func134, Tryz.ntmps134
  go_wp2_with fail
  refine (cache_there h i hi).mono ?_
  rintro e w' ⟨rfl, q, rfl⟩
  have hm : IsMap32 (w.drewN q) G.gm c.at_ := h.map
  go_wp2_with (refine wpList_look_none rfl _ _ rfl G.gm c.at_ hm i (by omega) A0.out rfl rfl ?_)
  refine (cache_room (h.drewN q) A1.out).mono ?_
  rintro e w1 ⟨f, c', rfl, hr, hc1, hk1⟩
  have hra := room_at h hr
  have c0 : w1.cell? ⟨G.gc, 0, none⟩ = some (.pointer (some ⟨G.gd, 0, none⟩)) := hc1.box.cell 0
  have A2 := Hd.mk hr
  have A3 := Hd.mk hra
  have A4 := Hd.mk hk1
  clear hr hra hk1
  go_wp2_with fail
  refine (dev_bytes hc1.dev).mono ?_
  rintro e w' ⟨rfl, rfl⟩
  go_wp2_with fail
  have hka : Keeps (fun _ => False) w1 (w1.alloc (.cells (madeCells #[.int .u8 0] bytes) 5)) := (Keeps.refl _ w1).alloc _
  have hnb := Blk.new w1 5 (madeCells #[.int .u8 0] bytes)
  have hgi : w1.heap.size ≠ G.gi := fun e => absurd (tag_lt hc1.tags.i) (by omega)
  refine (cache_put (hc1.keep hka (fun _ _ e => e)) f i _ bytes (List.replicate bytes 0) true 0 A3.out.1 hi (by simp) (made_bytesAt hnb) ⟨_, hnb⟩ hgi (.inl ⟨rfl, A3.out.2.1, A3.out.2.2 i A0.out⟩)).mono ?_
  rintro e w3 ⟨rfl, hc3, hk3⟩
  go_wp2_with fail
  go_ret
  refine ⟨rfl, f, c', A2.out, hc3, ?_⟩
  exact ((Keeps.refl (CFoot G) w).drewN q).trans (A4.out.trans (U := CFoot G) (hka.trans (U := CFoot G) hk3 (fun _ _ e => e.elim) (fun _ _ e => e)) (fun _ _ e => e) (fun _ _ e => e)) (fun _ _ e => e) (fun _ _ e => e)

set_option maxRecDepth 100000 in
set_option maxHeartbeats 1600000 in
theorem cache_fresh_old (h : IsCache w G F blocks bytes none c) (i f : Nat) (hi : i < blocks) (hf : c.at_ i = some f) (hp : (c.fr f).pins = 0) :
    Calls Tryz.prog 134 #[.pointer (some ⟨G.gc, 0, none⟩), .int .u32 i] w fun e w' => e = .returned (.int .i64 0) ∧ IsCache w' G F blocks bytes none (freshC c f i bytes) ∧ Keeps (CFoot G) w w' := by
  have t := h.tags
  obtain ⟨gb, cb, hfr⟩ := h.frames
  have hbk : blocks ≤ 65536 := h.dev.2.2.2.1
  have hby : bytes ≤ 65536 := h.dev.2.2.2.2.2.1
  have hat := (h.inv.at_ i f).1 hf
  have hfF := hat.1
  have hF2 := h.inv.hF.2
  have c0 : w.cell? ⟨G.gc, 0, none⟩ = some (.pointer (some ⟨G.gd, 0, none⟩)) := h.box.cell 0
  have c1 : w.cell? ⟨G.gc, 1, none⟩ = some (.slice (some ⟨G.gf, 0, none⟩) F F) := h.box.cell 1
  have c2 : w.cell? ⟨G.gc, 2, none⟩ = some (.map (some G.gm)) := h.box.cell 2
  have p3 : w.cell? ⟨G.gf, f * 4 + 3, none⟩ = some (.int .i64 0) := by
    have := (hfr.cells hfF).2.2.2
    rw [hp] at this; exact this
  have hmk := make_bytes bytes hby
  have A0 := Hd.mk hf
  have A1 := Hd.mk hat
  clear hf hat
  go_enter Tryz.func134, Tryz.ntmps134
  go_wp2_with fail
  refine (cache_there h i hi).mono ?_
  rintro e w' ⟨rfl, q, rfl⟩
  have hm : IsMap32 (w.drewN q) G.gm c.at_ := h.map
  go_wp2_with (refine wpList_look_some rfl _ _ rfl G.gm c.at_ hm i (by omega) f A0.out rfl rfl ?_)
  have hdv : IsDev (w.drewN q) G.gd G.gi blocks bytes c.D c.r c.s := h.dev
  refine (dev_bytes hdv).mono ?_
  rintro e w' ⟨rfl, rfl⟩
  go_wp2_with fail
  have hc1 := h.drewN q
  have hka : Keeps (fun _ => False) (w.drewN q) ((w.drewN q).alloc (.cells (madeCells #[.int .u8 0] bytes) 5)) := (Keeps.refl _ (w.drewN q)).alloc _
  have hnb := Blk.new (w.drewN q) 5 (madeCells #[.int .u8 0] bytes)
  have hgi : (w.drewN q).heap.size ≠ G.gi := fun e => absurd (tag_lt hc1.tags.i) (by omega)
  have hca := hc1.keep hka (fun _ _ e => e)
  have B0 := Hd.mk hnb
  have B1 := Hd.mk hka
  have B2 := Hd.mk (cache_put hca f i _ bytes (List.replicate bytes 0) true 0 hfF hi (by simp) (made_bytesAt hnb) ⟨_, hnb⟩ hgi (.inr ⟨rfl, A1.out.2.1, A1.out.2.2⟩))
  clear hnb hka hgi hca hc1 hdv hm
  refine B2.out.mono ?_
  rintro e w3 ⟨rfl, hc3, hk3⟩
  have hk01 : Keeps (CFoot G) w (w.drewN q) := (Keeps.refl (CFoot G) w).drewN q
  have hka := B1.out
  go_wp2_with fail
  go_ret
  exact ⟨rfl, hc3, hk01.trans (U := CFoot G) (hka.trans (U := CFoot G) hk3 (fun _ _ e => e.elim) (fun _ _ e => e)) (fun _ _ e => e) (fun _ _ e => e)⟩

set_option maxRecDepth 100000 in
theorem cache_drop_none (h : IsCache w G F blocks bytes none c) (i : Nat) (hi : i < 65536) (hf : c.at_ i = none) :
    Calls Tryz.prog 111 #[.pointer (some ⟨G.gc, 0, none⟩), .int .u32 i] w fun e w' => e = .returned (.int .i64 0) ∧ ∃ q, w' = w.drewN q := by
  have c2 : w.cell? ⟨G.gc, 2, none⟩ = some (.map (some G.gm)) := h.box.cell 2
  have A0 := Hd.mk hf
  clear hf
  go_enter Tryz.func111, Tryz.ntmps111
  go_wp2_with fail
  refine (cache_none h).mono ?_
  rintro e w' ⟨rfl, rfl⟩
  go_wp2_with (refine wpList_look_none rfl _ _ rfl G.gm c.at_ h.map i (by omega) A0.out rfl rfl ?_)
  go_ret
  exact ⟨rfl, 0, rfl⟩

set_option maxRecDepth 100000 in
theorem cache_drop_some (h : IsCache w G F blocks bytes none c) (i f : Nat) (hi : i < 65536) (hf : c.at_ i = some f) (hp : (c.fr f).pins = 0) :
    Calls Tryz.prog 111 #[.pointer (some ⟨G.gc, 0, none⟩), .int .u32 i] w fun e w' => e = .returned (.int .i64 0) ∧ IsCache w' G F blocks bytes none (leaveC c f) ∧ Keeps (CFoot G) w w' := by
  obtain ⟨gb, cb, hfr⟩ := h.frames
  have hat := (h.inv.at_ i f).1 hf
  have hfF := hat.1
  have hF2 := h.inv.hF.2
  have c1 : w.cell? ⟨G.gc, 1, none⟩ = some (.slice (some ⟨G.gf, 0, none⟩) F F) := h.box.cell 1
  have c2 : w.cell? ⟨G.gc, 2, none⟩ = some (.map (some G.gm)) := h.box.cell 2
  have p3 : w.cell? ⟨G.gf, f * 4 + 3, none⟩ = some (.int .i64 0) := by
    have := (hfr.cells hfF).2.2.2
    rw [hp] at this; exact this
  have A0 := Hd.mk hf
  have A1 := Hd.mk hat
  have hel : c.empty.length < F := h.inv.room_left f hfF hat.2.1
  have hlv := Hd.mk (cache_leave h f hfF hat.2.1 hp (by simp) hel)
  clear hf hat
  go_enter Tryz.func111, Tryz.ntmps111
  go_wp2_with fail
  refine (cache_none h).mono ?_
  rintro e w' ⟨rfl, rfl⟩
  go_wp2_with (refine wpList_look_some rfl _ _ rfl G.gm c.at_ h.map i hi f A0.out rfl rfl ?_)
  refine hlv.out.mono ?_
  rintro e w1 ⟨rfl, hc1, hk1⟩
  go_wp2_with fail
  go_ret
  exact ⟨rfl, hc1, hk1⟩

end
end Go.Proofs.Sg
