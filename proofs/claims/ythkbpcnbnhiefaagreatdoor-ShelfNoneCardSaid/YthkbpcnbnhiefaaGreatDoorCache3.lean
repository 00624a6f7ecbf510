/- The cache's room. -/
import Derived.Test.YthkbpcnbnhiefaaGreatDoorCache2
import Derived.WalkSmall
namespace Go.Proofs.Sg
open Go.RowKit

section
variable {w w' : World} {G : Ids} {F blocks bytes : Nat} {c : Cs}

/-- What room leaves: a frame f that was empty, or the last one in the row, its block written if it was dirty. -/
def RoomOf (c : Cs) (f : Nat) (c' : Cs) : Prop :=
  (∃ e, c.empty = e ++ [f] ∧ c' = { c with empty := e }) ∨ (c.empty = [] ∧ ∃ o, c.order = o ++ [f] ∧ c' = { leaveC (backC c f) f with empty := [] })

theorem CInv.pop {c : Cs} {e : List Nat} {f : Nat} (h : CInv F blocks bytes none c) (he : c.empty = e ++ [f]) : CInv F blocks bytes (some f) { c with empty := e } := by
  have hn := h.empN
  rw [he] at hn
  have hfe : f ∉ e := fun hm => (List.nodup_append.1 hn).2.2 f hm f (by simp) rfl
  refine ⟨h.hF, h.at_, fun g => ?_, (List.nodup_append.1 hn).1, h.ord, h.blk, h.idle⟩
  have hg := h.emp g
  rw [he] at hg
  show g ∈ e ↔ _
  constructor
  · intro hm
    have := hg.1 (by simp [hm])
    refine ⟨this.1, this.2.1, fun e1 => ?_⟩
    injection e1 with e1; subst e1; exact hfe hm
  · rintro ⟨h1, h2, h3⟩
    have := hg.2 ⟨h1, h2, by simp⟩
    rcases List.mem_append.1 this with h4 | h4
    · exact h4
    · simp at h4; subst h4; exact absurd rfl h3

theorem cache_popped {w : World} {e : List Nat} {f : Nat} (h : IsCache w G F blocks bytes none c) (he : c.empty = e ++ [f]) :
    IsCache (w.setCell ⟨G.gc, 3, none⟩ (.slice (some ⟨G.ge, 0, none⟩) e.length G.cap)) G F blocks bytes (some f) { c with empty := e } := by
  have t := h.tags
  have N := t.nes
  generalize hw2 : w.setCell ⟨G.gc, 3, none⟩ (.slice (some ⟨G.ge, 0, none⟩) e.length G.cap) = w2
  have hk : Keeps (fun k => k = G.gc) w w2 := by rw [← hw2]; exact (Keeps.refl (fun k => k = G.gc) w).setCell (fun _ => rfl) _
  obtain ⟨gb, cb, hf⟩ := h.frames
  have hB := h.box.set_ 3 (.slice (some ⟨G.ge, 0, none⟩) e.length G.cap)
  rw [hw2] at hB
  refine ⟨h.dev.keep hk (by simp [N]) (by simp [N]), ?_, ⟨gb, cb, hf.keep hk (by simp [N]) fun a h1 h2 e => hf.not_foot t h1 h2 (by rw [e]; simp [CFoot])⟩, h.map.keep (hk.block _ (tag_lt t.m) (by simp [N])), ?_, h.cap, h.chain.keep hk (by simp [N]) (by simp [N]), h.inv.pop he⟩
  · have e1 : (cells G F c.empty.length).setIfInBounds 3 (.slice (some ⟨G.ge, 0, none⟩) e.length G.cap) = cells G F e.length := by simp [cells]
    rw [e1] at hB
    exact hB
  · have ho := h.emp
    rw [he] at ho
    have ho2 : w.ownsRow 0 3 1 (.slice (some ⟨G.ge, 0, none⟩) (e.length + 1) G.cap) (e.length + 1) (natv e ++ [.int .i64 (f : Nat)]) := by
      have : natv (e ++ [f]) = natv e ++ [.int .i64 (f : Nat)] := by simp [natv]
      rw [this] at ho
      simpa using ho
    exact own_keep (ownsRow_pop (by simp [natv]) ho2) (hk.block _ (tag_lt t.e) (by simp [N]))

set_option maxRecDepth 100000 in
set_option maxHeartbeats 1000000 in
theorem cache_room_pop {e : List Nat} {f : Nat} (h : IsCache w G F blocks bytes none c) (he : c.empty = e ++ [f]) :
    Calls Tryz.prog 127 #[.pointer (some ⟨G.gc, 0, none⟩)] w fun en w' => en = .returned (.tuple #[.int .i64 (f : Nat), .bool true]) ∧ IsCache w' G F blocks bytes (some f) { c with empty := e } ∧ Keeps (CFoot G) w w' := by
  have hl : c.empty.length = e.length + 1 := by rw [he]; simp
  have c3 : w.cell? ⟨G.gc, 3, none⟩ = some (.slice (some ⟨G.ge, 0, none⟩) (e.length + 1) G.cap) := (h.box.cell 3).trans (by simp [cells, hl])
  have z3 := h.box.frozen 3
  have hcap := h.cap
  have hle : e.length + 1 ≤ G.cap := by
    rcases h.emp.2 with ⟨h1, _⟩ | ⟨g, cap, cur, h1, _, _, h2, _⟩
    · cases h1
    · injection h1 with _ _ h1; omega
  have hel : (natv c.empty)[e.length]? = some (.int .i64 (f : Nat)) := by rw [he]; simp [natv]
  have l0 : w.cell? ⟨G.ge, e.length, none⟩ = some (.int .i64 (f : Nat)) := (own_cell h.emp (by omega)).trans hel
  have hmax : e.length ≤ 64 := by
    have hn := h.inv.empN
    have hsub := List.Nodup.length_le_of_subset hn (l₂ := List.range F) (fun x hx => by simpa using ((h.inv.emp x).1 hx).1)
    rw [List.length_range, hl] at hsub
    have := h.inv.hF.2; omega
  have A0 := Hd.mk he
  have A1 := Hd.mk hl
  have A2 := Hd.mk hel
  clear he hl hel
  have t := h.tags
  go_enter Tryz.func127, Tryz.ntmps127
  go_wp2
  go_ret2
  exact ⟨rfl, cache_popped h A0.out, (Keeps.refl (CFoot G) w).setCell (fun _ => .inr (.inr (.inl rfl))) _⟩

theorem backC_parts (c : Cs) (f : Nat) : (backC c f).empty = c.empty ∧ (backC c f).order = c.order ∧ ((backC c f).fr f).used = (c.fr f).used ∧ ((backC c f).fr f).pins = (c.fr f).pins ∧ ((backC c f).fr f).block = (c.fr f).block ∧ (backC c f).at_ = c.at_ := by
  unfold backC
  split
  · simp [setFr, upd]
  · simp

set_option maxRecDepth 100000 in
set_option maxHeartbeats 1000000 in
theorem cache_room_last {o : List Nat} {f : Nat} (h : IsCache w G F blocks bytes none c) (he : c.empty = []) (ho : c.order = o ++ [f]) :
    Calls Tryz.prog 127 #[.pointer (some ⟨G.gc, 0, none⟩)] w fun en w' => en = .returned (.tuple #[.int .i64 (f : Nat), .bool true]) ∧ IsCache w' G F blocks bytes (some f) { leaveC (backC c f) f with empty := [] } ∧ Keeps (CFoot G) w w' := by
  have hf := (h.inv.ord f).1 (by rw [ho]; simp)
  have c3 : w.cell? ⟨G.gc, 3, none⟩ = some (.slice (some ⟨G.ge, 0, none⟩) 0 G.cap) := (h.box.cell 3).trans (by simp [cells, he])
  have c4 : w.cell? ⟨G.gc, 4, none⟩ = some (.pointer (some ⟨G.gch, 0, none⟩)) := h.box.cell 4
  have c1 : w.cell? ⟨G.gc, 1, none⟩ = some (.slice (some ⟨G.gf, 0, none⟩) F F) := h.box.cell 1
  have hch := h.chain
  rw [ho] at hch
  have hF2 := h.inv.hF.2
  have hfF := hf.1
  have A0 := Hd.mk he
  have A1 := Hd.mk ho
  have A2 := Hd.mk hf
  clear he ho hf
  go_enter Tryz.func127, Tryz.ntmps127
  go_wp2_with fail
  refine (chain_last_some hch).mono ?_
  rintro e w' ⟨rfl, q, rfl⟩
  go_wp2_with fail
  have hC := h.drewN q
  refine (cache_back hC f hfF A2.out.2.1).mono ?_
  rintro en w1 ⟨rfl, hc1, hk1⟩
  go_wp2_with fail
  obtain ⟨b1, b2, b3, b4, b5, b6⟩ := backC_parts c f
  refine (cache_leave hc1 f hfF (by rw [b3]; exact A2.out.2.1) (by rw [b4]; exact A2.out.2.2) (by simp) (by rw [b1, A0.out]; simp; omega)).mono ?_
  rintro en w2 ⟨rfl, hc2, hk2⟩
  have hce : (leaveC (backC c f) f).empty = [] ++ [f] := by simp [leaveC, b1, A0.out]
  have c3' : w2.cell? ⟨G.gc, 3, none⟩ = some (.slice (some ⟨G.ge, 0, none⟩) 1 G.cap) := (hc2.box.cell 3).trans (by simp [cells, hce])
  have z3 := hc2.box.frozen 3
  have hcap := h.cap
  have hel : (natv (leaveC (backC c f) f).empty)[0]? = some (.int .i64 (f : Nat)) := by rw [hce]; simp [natv]
  have l0 : w2.cell? ⟨G.ge, 0, none⟩ = some (.int .i64 (f : Nat)) := (own_cell hc2.emp (by rw [hce]; simp)).trans hel
  have A3 := Hd.mk hce
  have A4 := Hd.mk hc2
  have A5 := Hd.mk hk2
  have A6 := Hd.mk hk1
  have A7 := Hd.mk b1
  clear hce hel hc2 hk2 hk1 hc1 b1 b2 b3 b4 b5 b6 hC
  go_wp2_with fail
  go_ret2
  refine ⟨rfl, cache_popped A4.out A3.out, ?_⟩
  exact (((Keeps.refl (CFoot G) w).drewN q).trans (A6.out.trans A5.out (fun _ _ e => e) (fun _ _ e => e)) (fun _ _ e => e) (fun _ _ e => e)).setCell (fun _ => .inr (.inr (.inl rfl))) _

end
end Go.Proofs.Sg
