/- The map of blocks to frames: its operations, by what it says of each block. -/
import Derived.Test.YthkbpcnbnhiefaaGreatDoorProg
import Derived.Test.YthkbpcnbnhiefaaGreatDoorMem
import Derived.WalkKit
import Derived.Maps.OwnSet
import Derived.Maps.Range
namespace Go.Proofs.Sg
open Go.RowKit Go.Maps

theorem Tryz.lawU32 : Keyed Tryz.prog 30 := int_keyed Tryz.underlying30
theorem Tryz.zeroInt (w : World) : (zeroValue 3).run Tryz.prog w = .ok (.int .i64 0) w := by kernel_rfl

/-- A block's number as a key's datum; a frame's as an element's. -/
def kl (i : Nat) : Lit := .int .u32 (i : Nat)
def fl (f : Nat) : DataW Unit := .lit (.int .i64 (f : Nat))

theorem wfk (i : Nat) (hi : i < 65536) : (Lit.int .u32 (i : Nat)).wf = true := WalkArith.wf_u32 (by omega)
theorem wff (f : Nat) (hf : f < 65536) : (Lit.int .i64 (f : Nat)).wf = true := WalkArith.wf_i64 (by omega)
theorem keyk (i : Nat) (hi : i < 65536) : keyOf Tryz.prog 30 (.int .u32 (i : Nat)) = some (kl i) := keyOf_int_mk Tryz.underlying30 (wfk i hi)
theorem kl_inj {i j : Nat} (h : kl i = kl j) : i = j := by unfold kl at h; injection h with _ h; omega

/-- Block b is a map: block i is in the frame that 'at_ i' says, if it is in one. -/
def IsMap32 (w : World) (b : Nat) (at_ : Nat → Option Nat) : Prop :=
  ∃ D : DataW Unit, w.ownsMap Tryz.prog 30 (plainElem Tryz.prog 3) b 65536 D ∧ (∀ i, i < 65536 → Maps.has D (kl i) = (at_ i).isSome ∧ ∀ f, at_ i = some f → D.atKey (kl i) (fl 0) = fl f) ∧ (∀ k, Maps.has D k = true → ∃ i, i < 65536 ∧ k = kl i)

theorem IsMap32.keep {w w' : World} {b : Nat} {at_ : Nat → Option Nat} (h : IsMap32 w b at_) (e : w'.heap[b]? = w.heap[b]?) : IsMap32 w' b at_ := by
  obtain ⟨D, ⟨es, clock, h1, h2⟩, h3⟩ := h
  exact ⟨D, ⟨es, clock, e.trans h1, h2⟩, h3⟩
theorem IsMap32.lt {w : World} {b : Nat} {at_ : Nat → Option Nat} (h : IsMap32 w b at_) : b < w.heap.size := by
  obtain ⟨D, ⟨es, clock, h1, _⟩, _⟩ := h
  exact (Array.getElem?_eq_some_iff.1 h1).1
theorem IsMap32.ne_blk {w : World} {b g : Nat} {t : TypeId} {cs : Array Value} {at_ : Nat → Option Nat} (h : IsMap32 w b at_) (hg : Blk w g t cs) : b ≠ g := by
  obtain ⟨D, ⟨es, clock, h1, _⟩, _⟩ := h
  rintro rfl
  unfold Blk at hg
  rw [h1] at hg
  cases hg

theorem tidy_length {D : DataW Unit} (ht : ∃ es, D = .map es ∧ es.Pairwise (fun p q => p.1 ≠ q.1) ∧ ∀ p ∈ es, WideAt.IsKeyLit p.1) (hk : ∀ k, Maps.has D k = true → ∃ i, i < 65536 ∧ k = kl i) : Maps.size D ≤ 65536 := by
  obtain ⟨es, rfl, hp, hkl⟩ := ht
  have hall : ∀ p ∈ es, ∃ i, i < 65536 ∧ p.1 = kl i := fun p hp => hk p.1 (by
    rw [has_eq, List.any_eq_true]
    exact ⟨p, hp, WideAt.sameKey_self (hkl p hp)⟩)
  rw [size_eq]
  have : ∀ l : List (Lit × DataW Unit), l.Pairwise (fun p q => p.1 ≠ q.1) → (∀ p ∈ l, ∃ i, i < 65536 ∧ p.1 = kl i) → ∃ ns : List Nat, ns.length = l.length ∧ ns.Nodup ∧ (∀ i ∈ ns, i < 65536 ∧ ∃ p ∈ l, p.1 = kl i) := by
    intro l
    induction l with
    | nil => intro _ _; exact ⟨[], rfl, List.nodup_nil, by simp⟩
    | cons a t ih =>
      intro hpw ha
      obtain ⟨h1, h2⟩ := List.pairwise_cons.1 hpw
      obtain ⟨ns, e1, e2, e3⟩ := ih h2 (fun p hp => ha p (List.mem_cons_of_mem _ hp))
      obtain ⟨i, hi, hai⟩ := ha a (List.mem_cons_self ..)
      refine ⟨i :: ns, by simp [e1], List.nodup_cons.2 ⟨fun hm => ?_, e2⟩, ?_⟩
      · obtain ⟨_, p, hp, hpe⟩ := e3 i hm
        exact h1 p hp (by rw [hai, hpe])
      · intro j hj
        rcases List.mem_cons.1 hj with rfl | hj
        · exact ⟨hi, a, List.mem_cons_self .., hai⟩
        · obtain ⟨e4, p, hp, e5⟩ := e3 j hj
          exact ⟨e4, p, List.mem_cons_of_mem _ hp, e5⟩
  obtain ⟨ns, e1, e2, e3⟩ := this es hp hall
  rw [← e1]
  have hsub := List.Nodup.length_le_of_subset e2 (l₂ := List.range 65536) (fun x hx => by simpa using (e3 x hx).1)
  rwa [List.length_range] at hsub

theorem retight {w : World} {b n : Nat} {D : DataW Unit} (h : w.ownsMap Tryz.prog 30 (plainElem Tryz.prog 3) b n D) (hk : ∀ k, Maps.has D k = true → ∃ i, i < 65536 ∧ k = kl i) :
    w.ownsMap Tryz.prog 30 (plainElem Tryz.prog 3) b 65536 D := by
  have ht := tidy_length (h.entries Tryz.lawU32) hk
  obtain ⟨es, clock, h1, h2, _, rfl⟩ := h
  refine ⟨es, clock, h1, h2, ?_, rfl⟩
  rw [size_eq, length_read] at ht
  exact ht

section
variable {w : World} {ops : Array Oper} {rest : List Oper} {o : Oper} {a : Act} {Q : Exit → Act → World → Prop}

theorem wpList_look_some (hg : o.guard = none) (m x : Operand) (hop : o.op = Op.lookup 184 m x true) (b : Nat) (at_ : Nat → Option Nat) (hown : IsMap32 w b at_) (i : Nat) (hi : i < 65536) (f : Nat) (hf : at_ i = some f)
    (hm : a.eval m = .map (some b)) (hx : a.eval x = .int .u32 (i : Nat))
    (hK : wpList Tryz.prog ops Q rest (a.put o.dst (.tuple #[.int .i64 (f : Nat), .bool true])) w) : wpList Tryz.prog ops Q (o :: rest) a w := by
  obtain ⟨D, h1, h2, _⟩ := hown
  refine wpList_lookup_own_ok_int w hg m x _ hop 30 3 .i64 Tryz.lawU32 Tryz.underlying184 Tryz.underlying3 (Tryz.zeroInt w) b _ D hm h1 _ _ hx (keyk i hi) ?_
  intro c hat _
  have e := (h2 i hi).2 f hf
  have e2 : c = (f : Nat) := by
    have : (DataW.lit (.int .i64 c) : DataW Unit) = fl f := hat.symm.trans e
    injection this with this
    injection this
  rw [(h2 i hi).1, hf, e2]
  exact hK
theorem wpList_look_none (hg : o.guard = none) (m x : Operand) (hop : o.op = Op.lookup 184 m x true) (b : Nat) (at_ : Nat → Option Nat) (hown : IsMap32 w b at_) (i : Nat) (hi : i < 65536) (hf : at_ i = none)
    (hm : a.eval m = .map (some b)) (hx : a.eval x = .int .u32 (i : Nat))
    (hK : wpList Tryz.prog ops Q rest (a.put o.dst (.tuple #[.int .i64 0, .bool false])) w) : wpList Tryz.prog ops Q (o :: rest) a w := by
  obtain ⟨D, h1, h2, _⟩ := hown
  refine wpList_lookup_own_ok_int w hg m x _ hop 30 3 .i64 Tryz.lawU32 Tryz.underlying184 Tryz.underlying3 (Tryz.zeroInt w) b _ D hm h1 _ _ hx (keyk i hi) ?_
  intro c hat _
  have hh : Maps.has D (kl i) = false := by rw [(h2 i hi).1, hf]; rfl
  have e2 : c = 0 := by
    have h3 := atKey_of_not_has hh (.lit (.int .i64 0))
    have : (DataW.lit (.int .i64 c) : DataW Unit) = .lit (.int .i64 0) := hat.symm.trans h3
    injection this with this
    injection this
  rw [hh, e2]
  exact hK
theorem wpList_look_at (hg : o.guard = none) (m x : Operand) (hop : o.op = Op.lookup 184 m x false) (b : Nat) (at_ : Nat → Option Nat) (hown : IsMap32 w b at_) (i : Nat) (hi : i < 65536) (f : Nat) (hf : at_ i = some f)
    (hm : a.eval m = .map (some b)) (hx : a.eval x = .int .u32 (i : Nat))
    (hK : wpList Tryz.prog ops Q rest (a.put o.dst (.int .i64 (f : Nat))) w) : wpList Tryz.prog ops Q (o :: rest) a w := by
  obtain ⟨D, h1, h2, _⟩ := hown
  refine wpList_lookup_own_int w hg m x _ hop 30 3 .i64 Tryz.lawU32 Tryz.underlying184 Tryz.underlying3 (Tryz.zeroInt w) b _ D hm h1 _ _ hx (keyk i hi) ?_
  intro c hat _
  have e := (h2 i hi).2 f hf
  have e2 : c = (f : Nat) := by
    have : (DataW.lit (.int .i64 c) : DataW Unit) = fl f := hat.symm.trans e
    injection this with this
    injection this
  rw [e2]
  exact hK

set_option maxRecDepth 100000 in
theorem look_run {w : World} {b : Nat} {at_ : Nat → Option Nat} (hown : IsMap32 w b at_) {i f : Nat} (hi : i < 65536) (hf : at_ i = some f) :
    (Instr.lookup 184 (.map (some b)) (.int .u32 (i : Nat)) false).run Tryz.prog w = .ok (.int .i64 (f : Nat)) w := by
  obtain ⟨D, h1, h2, _⟩ := hown
  obtain ⟨c, hrun, hat, _⟩ := h1.lookup_int Tryz.lawU32 Tryz.underlying184 Tryz.underlying3 (Tryz.zeroInt w) (keyk i hi)
  have e := (h2 i hi).2 f hf
  have e2 : c = (f : Nat) := by
    have : (DataW.lit (.int .i64 c) : DataW Unit) = fl f := hat.symm.trans e
    injection this with this
    injection this
  rw [hrun, e2]

theorem turned_keeps {w w' : World} {b : Nat} (h : w.mapTurned w' b) : Keeps (fun k => k = b) w w' :=
  ⟨h.grown.os, h.grown.tape, h.grown.output, h.grown.size, fun k hk hn => h.grown.block k hk (fun e => hn (by injection e))⟩

def setAt (at_ : Nat → Option Nat) (i : Nat) (v : Option Nat) : Nat → Option Nat := fun j => if j = i then v else at_ j

theorem wpList_map_put (hg : o.guard = none) (m x v : Operand) (hop : o.op = Op.mapUpdate 184 m x v) (b : Nat) (at_ : Nat → Option Nat) (hown : IsMap32 w b at_) (i : Nat) (hi : i < 65536) (f : Nat) (hf : f < 65536)
    (hm : a.eval m = .map (some b)) (hx : a.eval x = .int .u32 (i : Nat)) (hv : a.eval v = .int .i64 (f : Nat))
    (hK : ∀ w', IsMap32 w' b (setAt at_ i (some f)) → Keeps (fun k => k = b) w w' → wpList Tryz.prog ops Q rest (a.put o.dst undef) w') : wpList Tryz.prog ops Q (o :: rest) a w := by
  obtain ⟨D, h1, h2, h3⟩ := hown
  have him := (h1.tidy Tryz.lawU32).isMap
  refine wpList_mapUpdate_in w hg m x v _ hop 30 3 Tryz.lawU32 Tryz.underlying184 _ b _ D hm h1 (by unfold maxLen; omega) _ _ (kl i) hx hv (keyk i hi) (fl f) [] (plainElem_int Tryz.underlying3 (wff f hf)) ?_
  intro w' hown' hturn
  have hkl : WideAt.IsKeyLit (kl i) := by unfold kl; trivial
  have hkeys : ∀ k, Maps.has (D.put (kl i) (fl f)) k = true → ∃ j, j < 65536 ∧ k = kl j := by
    intro k hk
    by_cases e : k = kl i
    · exact ⟨i, hi, e⟩
    · rw [has_put_other e] at hk; exact h3 k hk
  refine hK w' ⟨_, retight hown' hkeys, fun j hj => ?_, hkeys⟩ (turned_keeps hturn)
  unfold setAt
  by_cases e : j = i
  · subst e
    rw [if_pos rfl]
    exact ⟨has_put_same him hkl _, fun g hg => by injection hg with hg; subst hg; exact atKey_put_same him hkl _ _⟩
  · have e' : kl j ≠ kl i := fun h => e (kl_inj h)
    rw [if_neg e, has_put_other e', atKey_put_other e']
    exact h2 j hj

theorem wpList_map_del (hg : o.guard = none) (m x : Operand) (hop : o.op = Op.call { callee := Callee.builtin Builtin.delete, args := #[m, x], argTypes := #[184, 30] }) (b : Nat) (at_ : Nat → Option Nat) (hown : IsMap32 w b at_) (i : Nat) (hi : i < 65536)
    (hm : a.eval m = .map (some b)) (hx : a.eval x = .int .u32 (i : Nat))
    (hK : ∀ w', IsMap32 w' b (setAt at_ i none) → Keeps (fun k => k = b) w w' → wpList Tryz.prog ops Q rest (a.put o.dst (.tuple #[])) w') : wpList Tryz.prog ops Q (o :: rest) a w := by
  obtain ⟨D, h1, h2, h3⟩ := hown
  refine wpList_delete_own w hg m x _ _ hop 3 Tryz.lawU32 Tryz.underlying184 _ b _ D hm h1 _ (kl i) hx (keyk i hi) ?_
  intro w' hown' hturn
  have hkeys : ∀ k, Maps.has (D.del (kl i)) k = true → ∃ j, j < 65536 ∧ k = kl j := by
    intro k hk
    by_cases e : k = kl i
    · exact ⟨i, hi, e⟩
    · rw [has_del_other e] at hk; exact h3 k hk
  refine hK w' ⟨_, hown', fun j hj => ?_, hkeys⟩ (turned_keeps hturn)
  unfold setAt
  by_cases e : j = i
  · subst e
    rw [if_pos rfl]
    exact ⟨has_del_same, fun g hg => by cases hg⟩
  · have e' : kl j ≠ kl i := fun h => e (kl_inj h)
    rw [if_neg e, has_del_other e', atKey_del_other e']
    exact h2 j hj
end

end Go.Proofs.Sg
