/- What a cache's states mean: each block's bytes, and who is pinned; no walk. -/
import Derived.Test.YthkbpcnbnhiefaaGreatDoorCache8
import Derived.Test.YthkbpcnbnhiefaaGreatDoorNew1
namespace Go.Proofs.Sg
open Go.RowKit

/-- A block's bytes. -/
def Cont (c : Cs) (i : Nat) : List UInt8 := match c.at_ i with | some f => (c.fr f).bs | none => c.D i

theorem Cont_some {c : Cs} {i f : Nat} (h : c.at_ i = some f) : Cont c i = (c.fr f).bs := by unfold Cont; rw [h]
theorem Cont_none {c : Cs} {i : Nat} (h : c.at_ i = none) : Cont c i = c.D i := by unfold Cont; rw [h]

/-- What is clean is as on the device; pins are P's. -/
structure Fine (P : Nat → Nat) (c : Cs) : Prop where
  clean : ∀ i f, c.at_ i = some f → (c.fr f).dirty = false → (c.fr f).bs = c.D i
  pins : ∀ i f, c.at_ i = some f → (c.fr f).pins = P i
  held : ∀ i, P i ≠ 0 → c.at_ i ≠ none

section
variable {F blocks bytes : Nat} {hole : Option Nat} {c c' : Cs} {P : Nat → Nat}

theorem at_inj (h : CInv F blocks bytes hole c) {i j f : Nat} (h1 : c.at_ i = some f) (h2 : c.at_ j = some f) : i = j := by
  rw [← ((h.at_ i f).1 h1).2.2, ← ((h.at_ j f).1 h2).2.2]

theorem fine_put {f i : Nat} {x : Fr} (h1 : c'.fr = upd c.fr f x) (h2 : ∀ j, c'.at_ j = if j = i then some f else c.at_ j) (h3 : c'.D = c.D)
    (hf : ∀ j, c.at_ j = some f → j = i) (hc : x.dirty = false → x.bs = c.D i) (h : Fine P c) : Fine (upd P i x.pins) c' ∧ ∀ j, Cont c' j = updD (Cont c) i x.bs j := by
  have key : ∀ j g, c'.at_ j = some g → (j = i ∧ c'.fr g = x) ∨ (j ≠ i ∧ c.at_ j = some g ∧ c'.fr g = c.fr g) := by
    intro j g hj
    rw [h2] at hj
    by_cases e : j = i
    · rw [if_pos e] at hj
      injection hj with hj
      subst hj
      exact .inl ⟨e, by rw [h1]; simp [upd]⟩
    · rw [if_neg e] at hj
      have : g ≠ f := by rintro rfl; exact e (hf j hj)
      exact .inr ⟨e, hj, by rw [h1]; simp [upd, this]⟩
  refine ⟨⟨fun j g hj hd => ?_, fun j g hj => ?_, fun j hj => ?_⟩, fun j => ?_⟩
  · rcases key j g hj with ⟨rfl, e⟩ | ⟨_, e1, e2⟩
    · rw [e] at hd ⊢; rw [h3]; exact hc hd
    · rw [e2] at hd ⊢; rw [h3]; exact h.clean j g e1 hd
  · rcases key j g hj with ⟨rfl, e⟩ | ⟨e0, e1, e2⟩
    · rw [e]; simp [upd]
    · rw [e2]; simp only [upd, if_neg e0]; exact h.pins j g e1
  · rw [h2]
    by_cases e : j = i
    · rw [if_pos e]; simp
    · rw [if_neg e]; simp only [upd, if_neg e] at hj; exact h.held j hj
  · unfold updD
    by_cases e : j = i
    · subst e
      rw [if_pos rfl, Cont_some (f := f) (by rw [h2, if_pos rfl]), h1]
      simp [upd]
    · rw [if_neg e]
      cases hg : c.at_ j with
      | none => rw [Cont_none hg, Cont_none (by rw [h2, if_neg e, hg]), h3]
      | some g =>
        have : g ≠ f := by rintro rfl; exact e (hf j hg)
        rw [Cont_some hg, Cont_some (f := g) (by rw [h2, if_neg e, hg]), h1]
        simp [upd, this]

theorem fine_room {f : Nat} (h : CInv F blocks bytes none c) (hf : Fine P c) (hr : RoomOf c f c') :
    Fine P c' ∧ (∀ i, Cont c' i = Cont c i) ∧ c'.r = c.r ∧ c.s ≤ c'.s ∧ c'.s ≤ c.s + 1 ∧ (∀ i, c.at_ i = none → c'.at_ i = none) ∧ (∀ j, c'.at_ j ≠ some f) := by
  rcases hr with ⟨e, he, rfl⟩ | ⟨he, o, ho, rfl⟩
  · refine ⟨⟨hf.clean, hf.pins, hf.held⟩, fun i => rfl, rfl, Nat.le_refl _, Nat.le_succ _, fun i h => h, fun j hj => ?_⟩
    have h1 := (h.emp f).1 (by rw [he]; simp)
    have h2 := (h.at_ j f).1 hj
    rw [h1.2.1] at h2
    exact absurd h2.2.1 (by simp)
  · have hfo := (h.ord f).1 (by rw [ho]; simp)
    have hb := (h.at_ _ f).2 ⟨hfo.1, hfo.2.1, rfl⟩
    have hp := hf.pins _ f hb
    rw [hfo.2.2] at hp
    have hcl := hf.clean _ f hb
    generalize hbb : (c.fr f).block = b at hb hp hcl
    have pa := backC_parts c f
    have ea : ∀ j, ({ leaveC (backC c f) f with empty := [] } : Cs).at_ j = if j = b then none else c.at_ j := by
      intro j
      show setAt (backC c f).at_ ((backC c f).fr f).block none j = _
      rw [pa.2.2.2.2.2, pa.2.2.2.2.1, hbb]
      rfl
    have ef : ∀ g, g ≠ f → ({ leaveC (backC c f) f with empty := [] } : Cs).fr g = c.fr g := by
      intro g hg
      show upd (backC c f).fr f Fr.zero g = _
      rw [show upd (backC c f).fr f Fr.zero g = (backC c f).fr g by simp [upd, hg]]
      unfold backC
      split
      · show upd c.fr f _ g = _
        simp [upd, hg]
      · rfl
    have eD : ∀ j, j ≠ b → ({ leaveC (backC c f) f with empty := [] } : Cs).D j = c.D j := by
      intro j hj
      show (backC c f).D j = _
      unfold backC
      split
      · show updD c.D (c.fr f).block (c.fr f).bs j = _
        rw [hbb]; simp [updD, hj]
      · rfl
    have eb : ({ leaveC (backC c f) f with empty := [] } : Cs).D b = (c.fr f).bs := by
      show (backC c f).D b = _
      unfold backC
      split
      · show updD c.D (c.fr f).block (c.fr f).bs b = _
        rw [hbb]; simp [updD]
      · rename_i hd
        exact (hcl (by simpa using hd)).symm
    have er : ({ leaveC (backC c f) f with empty := [] } : Cs).r = c.r := by
      show (backC c f).r = _
      unfold backC; split <;> rfl
    have es : ({ leaveC (backC c f) f with empty := [] } : Cs).s = (backC c f).s := rfl
    have es2 : (backC c f).s = c.s ∨ (backC c f).s = c.s + 1 := by
      unfold backC; split
      · exact .inr rfl
      · exact .inl rfl
    have hj : ∀ j g, j ≠ b → c.at_ j = some g → g ≠ f := by
      rintro j g e1 e2 rfl
      exact e1 (at_inj h e2 hb)
    generalize ({ leaveC (backC c f) f with empty := [] } : Cs) = c2 at *
    refine ⟨⟨fun i g hi hd => ?_, fun i g hi => ?_, fun i hi => ?_⟩, fun i => ?_, er, by omega, by omega, fun i hi => ?_, fun j hjf => ?_⟩
    · rw [ea] at hi
      split at hi
      · cases hi
      · rename_i e
        have hg := hj i g e hi
        rw [ef g hg] at hd ⊢
        rw [eD i e]
        exact hf.clean i g hi hd
    · rw [ea] at hi
      split at hi
      · cases hi
      · rename_i e
        rw [ef g (hj i g e hi)]
        exact hf.pins i g hi
    · rw [ea]
      have : i ≠ b := by rintro rfl; omega
      rw [if_neg this]
      exact hf.held i hi
    · by_cases e : i = b
      · subst e
        rw [Cont_some hb, Cont_none (by rw [ea, if_pos rfl]), eb]
      · cases hg : c.at_ i with
        | none => rw [Cont_none hg, Cont_none (by rw [ea, if_neg e, hg]), eD i e]
        | some g => rw [Cont_some hg, Cont_some (f := g) (by rw [ea, if_neg e, hg]), ef g (hj i g e hg)]
    · rw [ea, hi]; simp
    · rw [ea] at hjf
      split at hjf
      · cases hjf
      · rename_i e
        exact hj j f e hjf rfl

/-- One block is pinned, or none (0). -/
def keptP (k : Nat) : Nat → Nat := fun j => if j = k ∧ k ≠ 0 then 1 else 0

theorem room_has {k : Nat} (h : CInv F blocks bytes none c) (hf : Fine (keptP k) c) (hF : 2 ≤ F) : c.empty ≠ [] ∨ c.order ≠ [] := by
  by_cases he : c.empty = []
  · right
    intro ho
    have hu : ∀ f, f < F → (c.fr f).used = true := by
      intro f hfF
      cases hh : (c.fr f).used with
      | true => rfl
      | false =>
        have := (h.emp f).2 ⟨hfF, hh, by simp⟩
        rw [he] at this; cases this
    have hp : ∀ f, f < F → c.at_ k = some f := by
      intro f hfF
      have hat := (h.at_ _ f).2 ⟨hfF, hu f hfF, rfl⟩
      have h1 := hf.pins _ f hat
      have h2 : (c.fr f).pins ≠ 0 := by
        intro e
        have := (h.ord f).2 ⟨hfF, hu f hfF, e⟩
        rw [ho] at this; cases this
      rw [h1] at h2
      unfold keptP at h2
      split at h2
      · rename_i e; rw [← e.1]; exact hat
      · exact absurd rfl h2
    have h0 := hp 0 (by omega)
    have h1 := hp 1 (by omega)
    rw [h0] at h1
    injection h1 with h1
    omega
  · exact .inl he

theorem newC_fine (F : Nat) (D : Nat → List UInt8) (r s : Nat) : Fine (keptP 0) (newC F D r s) ∧ ∀ i, Cont (newC F D r s) i = D i :=
  ⟨⟨(fun _ _ h => by simp [newC] at h), (fun _ _ h => by simp [newC] at h), (fun i h => by simp [keptP] at h)⟩, fun _ => rfl⟩

theorem fine_pinC {i f : Nat} (h : CInv F blocks bytes none c) (hf : Fine P c) (hi : c.at_ i = some f) : Fine (upd P i (P i + 1)) (pinC c f) ∧ ∀ j, Cont (pinC c f) j = Cont c j := by
  have h1 := fine_put (c' := pinC c f) (f := f) (i := i) (x := { c.fr f with pins := (c.fr f).pins + 1 }) rfl (fun j => by
    show c.at_ j = _
    split
    · rename_i e; rw [e, hi]
    · rfl) rfl (fun j hj => at_inj h hj hi) (fun hd => hf.clean i f hi hd) hf
  rw [show ({ c.fr f with pins := (c.fr f).pins + 1 } : Fr).pins = P i + 1 by rw [← hf.pins i f hi]] at h1
  refine ⟨h1.1, fun j => ?_⟩
  rw [h1.2]
  unfold updD
  split
  · rename_i e; subst e; rw [Cont_some hi]
  · rfl

theorem fine_unpinC {i f : Nat} (h : CInv F blocks bytes none c) (hf : Fine P c) (hi : c.at_ i = some f) : Fine (upd P i (P i - 1)) (unpinC c f) ∧ ∀ j, Cont (unpinC c f) j = Cont c j := by
  have h1 := fine_put (c' := unpinC c f) (f := f) (i := i) (x := { c.fr f with pins := (c.fr f).pins - 1 }) rfl (fun j => by
    show c.at_ j = _
    split
    · rename_i e; rw [e, hi]
    · rfl) rfl (fun j hj => at_inj h hj hi) (fun hd => hf.clean i f hi hd) hf
  rw [show ({ c.fr f with pins := (c.fr f).pins - 1 } : Fr).pins = P i - 1 by rw [← hf.pins i f hi]] at h1
  refine ⟨h1.1, fun j => ?_⟩
  rw [h1.2]
  unfold updD
  split
  · rename_i e; subst e; rw [Cont_some hi]
  · rfl

theorem fine_writeC {i f : Nat} {bs : List UInt8} (h : CInv F blocks bytes none c) (hf : Fine P c) (hi : c.at_ i = some f) : Fine P (writeC c f bs) ∧ ∀ j, Cont (writeC c f bs) j = updD (Cont c) i bs j := by
  have h1 := fine_put (c' := writeC c f bs) (f := f) (i := i) (x := { c.fr f with bs := bs, dirty := true }) rfl (fun j => by
    show c.at_ j = _
    split
    · rename_i e; rw [e, hi]
    · rfl) rfl (fun j hj => at_inj h hj hi) (fun hd => by cases hd) hf
  refine ⟨?_, h1.2⟩
  have h2 := h1.1
  rw [show ({ c.fr f with bs := bs, dirty := true } : Fr).pins = P i from hf.pins i f hi] at h2
  rwa [show upd P i (P i) = P by funext j; unfold upd; split <;> simp_all] at h2

theorem fine_readC {i f : Nat} (hf : Fine P c) (hi : c.at_ i = none) (hfr : ∀ j, c.at_ j ≠ some f) : Fine (upd P i 1) (readC c f i) ∧ ∀ j, Cont (readC c f i) j = Cont c j := by
  have h1 := fine_put (c' := readC c f i) (f := f) (i := i) (x := ⟨i, c.D i, false, 1, true⟩) rfl (fun j => rfl) rfl (fun j hj => absurd hj (hfr j)) (fun _ => rfl) (c := { c with r := c.r + 1 }) ⟨hf.clean, hf.pins, hf.held⟩
  refine ⟨h1.1, fun j => ?_⟩
  rw [h1.2]
  unfold updD
  split
  · rename_i e; subst e; rw [Cont_none hi]
  · rfl

theorem fine_freshC {i f : Nat} (bytes : Nat) (hf : Fine P c) (hfr : ∀ j, c.at_ j = some f → j = i) : Fine (upd P i 1) (freshC c f i bytes) ∧ ∀ j, Cont (freshC c f i bytes) j = updD (Cont c) i (List.replicate bytes 0) j :=
  fine_put (c' := freshC c f i bytes) (f := f) (i := i) (x := ⟨i, List.replicate bytes 0, true, 1, true⟩) rfl (fun j => rfl) rfl hfr (fun hd => by cases hd) hf

end
end Go.Proofs.Sg
