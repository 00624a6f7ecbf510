/- Great · Arg · LaidP, in one. -/
import Derived.LoopTactic
import Derived.ProofKit
import Derived.Deep.Slices
import Derived.Carry
import Derived.OpenShut
import Derived.DataShut
import Derived.Test.YthkbpcnbnhiefaaGreatDoorRows
import Derived.Test.YthkbpcnbnhiefaaGreatDoorTie
import Derived.Test.YthkbpcnbnhiefaaGreatDoorCards
import Derived.LaidMore
import Derived.Stop.Joined
import Derived.SevenTiedAt
import Derived.Lib.LaidTab
import Derived.Test.YthkbpcnbnhiefaaGreatDoorJNone0
/-! L13.Great: of whatever node. -/
namespace Go.Proofs.Sg
set_option linter.unusedSimpArgs false
set_option linter.unusedVariables false
open Go.RowKit Go.Lib

/-- A row of m records of sz cells each; the first cell of each is a text. -/
def StrRow (w : World) (v : Value) (sz m : Nat) : Prop := m ≤ 9223372036854775807 ∧ ∃ p c, v = .slice p m c ∧ ∀ j, j < m → ∃ b off, p = some ⟨b, off, none⟩ ∧ ∃ s : ByteArray, w.cell? ⟨b, off + j * sz, none⟩ = some (.string s) ∧ s.size ≤ 9223372036854775807

theorem StrRow.keep {w w' : World} {v : Value} {sz m : Nat} (h : StrRow w v sz m) (hk : Keeps (fun _ => False) w w') : StrRow w' v sz m := by
  obtain ⟨h0, p, c, rfl, h1⟩ := h
  refine ⟨h0, p, c, rfl, fun j hj => ?_⟩
  obtain ⟨b, off, e, s, h2, h3⟩ := h1 j hj
  exact ⟨b, off, e, s, (World.cell?_of_block (hk.block b (World.block_lt_of_cell? w _ h2) (fun e => e))).trans h2, h3⟩

/-- A bool, whichever. -/
def IsB (e : Ending) : Prop := ∃ b, e = .returned (.bool b)

set_option maxRecDepth 100000 in
set_option maxHeartbeats 4000000 in
theorem great {w : World} (l : Int) (a1 a2 a3 a4 : Value) (m1 m2 m3 m4 : Nat) (h1 : ∃ p c, a1 = .slice p m1 c) (h2 : StrRow w a2 1 m2) (h3 : StrRow w a3 3 m3) (h4 : StrRow w a4 2 m4) :
    Calls Tryz.prog 19 #[nodeV l a1 a2 a3 a4] w fun e w' => IsB e ∧ Keeps (fun _ => False) w w' := by
  have kN := (Keeps.refl (fun _ => False) w).alloc (.cells #[.int .i64 l, a1, a2, a3, a4] 42)
  obtain ⟨n0, n1, n2, n3, n4⟩ := (Blk.new w 42 #[.int .i64 l, a1, a2, a3, a4]).five
  have g2 := h2.keep kN
  have g3 := h3.keep kN
  have g4 := h4.keep kN
  clear h2 h3 h4
  obtain ⟨p1, c1, rfl⟩ := h1
  obtain ⟨b2, p2, c2, rfl, g2⟩ := g2
  obtain ⟨b3, p3, c3, rfl, g3⟩ := g3
  obtain ⟨b4, p4, c4, rfl, g4⟩ := g4
  have G2 := Hd.mk g2
  have G3 := Hd.mk g3
  have G4 := Hd.mk g4
  have K := Hd.mk kN
  clear g2 g3 g4 kN
  unfold nodeV
  go_enter Tryz.func19, Tryz.ntmps19
  go_wp2_with fail
  all_goals generalize hw0 : w.alloc (.cells #[.int .i64 l, .slice p1 m1 c1, .slice p2 m2 c2, .slice p3 m3 c3, .slice p4 m4 c4] 42) = w0 at *
  all_goals clear hw0
  all_goals first
    | (go_ret; exact ⟨⟨true, rfl⟩, K.out⟩)
    | skip
  go_loopw [3] (fun v wr => ∃ j : Nat, v = .int .i64 j ∧ j ≤ m2 ∧ w0 = wr) (fun v _ => m2 - (RowKit.intOf v).toNat)
  case atStart => exact ⟨0, by go_num, by omega, rfl⟩
  case round =>
    obtain ⟨j, rfl, hj, rfl⟩ := hrel
    by_cases hlt : j < m2
    · obtain ⟨b, off, rfl, s, hc, hs⟩ := G2.out j hlt
      try rw [Nat.mul_one] at hc
      go_wp2_with fail
      all_goals first
        | (go_ret; exact ⟨⟨true, rfl⟩, K.out⟩)
        | exact ⟨⟨j + 1, by go_num, by omega, trivial⟩, by simp [RowKit.intOf]; omega⟩
    · go_wp2_with fail
      go_loopw [4] (fun v wr => ∃ j : Nat, v = .int .i64 j ∧ j ≤ m3 ∧ w0 = wr) (fun v _ => m3 - (RowKit.intOf v).toNat)
      case atStart => exact ⟨0, by go_num, by omega, rfl⟩
      case round =>
        obtain ⟨j, rfl, hj, rfl⟩ := hrel
        by_cases hlt : j < m3
        · obtain ⟨b, off, rfl, s, hc, hs⟩ := G3.out j hlt
          try rw [Nat.mul_one] at hc
          go_wp2_with fail
          all_goals first
            | (go_ret; exact ⟨⟨true, rfl⟩, K.out⟩)
            | exact ⟨⟨j + 1, by go_num, by omega, trivial⟩, by simp [RowKit.intOf]; omega⟩
        · go_wp2_with fail
          go_loopw [5] (fun v wr => ∃ j : Nat, v = .int .i64 j ∧ j ≤ m4 ∧ w0 = wr) (fun v _ => m4 - (RowKit.intOf v).toNat)
          case atStart => exact ⟨0, by go_num, by omega, rfl⟩
          case round =>
            obtain ⟨j, rfl, hj, rfl⟩ := hrel
            by_cases hlt : j < m4
            · obtain ⟨b, off, rfl, s, hc, hs⟩ := G4.out j hlt
              try rw [Nat.mul_one] at hc
              go_wp2_with fail
              all_goals first
                | (go_ret; exact ⟨⟨true, rfl⟩, K.out⟩)
                | exact ⟨⟨j + 1, by go_num, by omega, trivial⟩, by simp [RowKit.intOf]; omega⟩
            · go_wp2_with fail
              go_ret
              exact ⟨⟨false, rfl⟩, K.out⟩

end Go.Proofs.Sg
/-! Arguments, from what is known of them as data: settings, nodes. -/
namespace Go.Proofs.Sg
set_option linter.unusedSimpArgs false
set_option linter.unusedVariables false
open Go.RowKit Go.ChangeShapes Go.WideShapes Go.Deep

section
variable {H : Type} {enc : TypeId × Value → H} {w : World} {base : Nat} {sp : Nat → Bool} {hd : Bool} {rc : Reach} {b0 : Nat}

theorem trodAll_cons {P : Program} {t : TypeId} {ts : List TypeId} {vs : List Value} {ds : List (DataW H)} {p : List MemPlace} (h : DataW.TrodAll enc P w base sp hd (t :: ts) vs ds p) :
    ∃ v vs' d ds' q r, vs = v :: vs' ∧ ds = d :: ds' ∧ p = q ++ r ∧ DataW.Trod enc P w base sp hd t v d q ∧ DataW.TrodAll enc P w base sp hd ts vs' ds' r := by
  cases vs with
  | nil => exact absurd h (by intro h; cases h)
  | cons v vs' =>
    cases ds with
    | nil => exact absurd h (by intro h; cases h)
    | cons d ds' =>
      obtain ⟨q, r, h1, h2, h3⟩ := h
      exact ⟨v, vs', d, ds', q, r, rfl, rfl, h3, h1, h2⟩
theorem trodAll_nil {P : Program} {vs : List Value} {ds : List (DataW H)} {p : List MemPlace} (h : DataW.TrodAll enc P w base sp hd [] vs ds p) : vs = [] ∧ ds = [] ∧ p = [] := by
  cases vs with
  | cons _ _ => exact absurd h (by intro h; cases h)
  | nil =>
    cases ds with
    | cons _ _ => exact absurd h (by intro h; cases h)
    | nil => exact ⟨rfl, rfl, h⟩

theorem in64_of {n : Int} (h : (Lit.int .i64 n).wf = true) : in64 n := by
  obtain ⟨h1, h2⟩ := (Lit.wf_int_iff _ _).1 h
  exact ⟨h1, h2⟩

theorem one_int {n : Nat} {x : Value} {y : Option (DataW H × List MemPlace)} (h : DataW.trod enc Tryz.prog w base sp hd n 3 [x] = y) (hy : y.isSome = true) : ∃ m, x = .int .i64 m ∧ in64 m := by
  obtain ⟨z, rfl⟩ := Option.isSome_iff_exists.1 hy
  obtain ⟨m, h1, _, h2⟩ := DataW.trod_int Tryz.underlying3 h
  exact ⟨m, by simpa using h1, in64_of h2⟩

theorem Tryz.cellsCfg : Tryz.prog.cellsOf 23 = 8 := by kernel_rfl
theorem Tryz.cellsNode : Tryz.prog.cellsOf 42 = 5 := by kernel_rfl
theorem Tryz.cellsInt : Tryz.prog.cellsOf 3 = 1 := by kernel_rfl
theorem Tryz.cellsStr : Tryz.prog.cellsOf 9 = 1 := by kernel_rfl
theorem Tryz.cellsBool : Tryz.prog.cellsOf 4 = 1 := by kernel_rfl
theorem Tryz.cellsU32 : Tryz.prog.cellsOf 30 = 1 := by kernel_rfl
theorem Tryz.cellsMsg : Tryz.prog.cellsOf 127 = 3 := by kernel_rfl
theorem Tryz.cellsPair : Tryz.prog.cellsOf 125 = 2 := by kernel_rfl
theorem Tryz.cellsK : Tryz.prog.cellsOf 39 = 1 := by kernel_rfl
theorem Tryz.cellsS : Tryz.prog.cellsOf 40 = 1 := by kernel_rfl
theorem Tryz.cellsM : Tryz.prog.cellsOf 25 = 1 := by kernel_rfl
theorem Tryz.cellsP : Tryz.prog.cellsOf 24 = 1 := by kernel_rfl

theorem field_at {P : Program} {n : Nat} {cs ys : List Value} {xs : List (DataW H × List MemPlace)} {fs : Array Field} (hel : ∀ (i : Nat) (f : Field), fs[i]? = some f → DataW.trod enc P w base sp hd n f.type ((cs.drop f.offset).take (P.cellsOf f.type)) = xs[i]?)
    (i t o sz : Nat) (hf : ∃ f, fs[i]? = some f ∧ f.type = t ∧ f.offset = o) (hc : P.cellsOf t = sz) (hcs : (cs.drop o).take sz = ys) : DataW.trod enc P w base sp hd n t ys = xs[i]? := by
  obtain ⟨f, h1, rfl, rfl⟩ := hf
  have := hel i f h1
  rwa [hc, hcs] at this

set_option maxRecDepth 10000 in
theorem open_cfg {v : Value} {d : DataW H} {p : List MemPlace} (hv : Value.okWide Tryz.prog w rc b0 23 v) (h : DataW.Trod enc Tryz.prog w base sp hd 23 v d p) : ∃ c : Cfg, v = c.v ∧ c.In := by
  obtain ⟨cs, rfl, hsz⟩ := okWide_struct Tryz.underlying23 hv
  rw [Tryz.cellsCfg] at hsz
  obtain ⟨fuel, hf⟩ := h
  obtain ⟨xs, n, _, _, _, hxl, hel⟩ := DataW.trod_struct Tryz.underlying23 hf
  obtain ⟨l⟩ := cs
  match l, hsz with
  | [x0, x1, x2, x3, x4, x5, x6, x7], _ =>
    have hx : ∀ i, i < 8 → (xs[i]?).isSome = true := fun i hi => by rw [List.getElem?_eq_getElem (by rw [hxl]; exact hi)]; rfl
    have e0 := field_at (ys := [x0]) hel 0 3 0 1 ⟨_, rfl, rfl, rfl⟩ Tryz.cellsInt rfl
    have e1 := field_at (ys := [x1]) hel 1 3 1 1 ⟨_, rfl, rfl, rfl⟩ Tryz.cellsInt rfl
    have e2 := field_at (ys := [x2]) hel 2 3 2 1 ⟨_, rfl, rfl, rfl⟩ Tryz.cellsInt rfl
    have e3 := field_at (ys := [x3]) hel 3 3 3 1 ⟨_, rfl, rfl, rfl⟩ Tryz.cellsInt rfl
    have e4 := field_at (ys := [x4]) hel 4 3 4 1 ⟨_, rfl, rfl, rfl⟩ Tryz.cellsInt rfl
    have e5 := field_at (ys := [x5]) hel 5 3 5 1 ⟨_, rfl, rfl, rfl⟩ Tryz.cellsInt rfl
    have e6 := field_at (ys := [x6]) hel 6 3 6 1 ⟨_, rfl, rfl, rfl⟩ Tryz.cellsInt rfl
    have e7 := field_at (ys := [x7]) hel 7 3 7 1 ⟨_, rfl, rfl, rfl⟩ Tryz.cellsInt rfl
    obtain ⟨m0, rfl, g0⟩ := one_int e0 (hx 0 (by omega))
    obtain ⟨m1, rfl, g1⟩ := one_int e1 (hx 1 (by omega))
    obtain ⟨m2, rfl, g2⟩ := one_int e2 (hx 2 (by omega))
    obtain ⟨m3, rfl, g3⟩ := one_int e3 (hx 3 (by omega))
    obtain ⟨m4, rfl, g4⟩ := one_int e4 (hx 4 (by omega))
    obtain ⟨m5, rfl, g5⟩ := one_int e5 (hx 5 (by omega))
    obtain ⟨m6, rfl, g6⟩ := one_int e6 (hx 6 (by omega))
    obtain ⟨m7, rfl, g7⟩ := one_int e7 (hx 7 (by omega))
    exact ⟨⟨m0, m1, m2, m3, m4, m5, m6, m7⟩, rfl, g0, g1, g2, g3, g4, g5, g6, g7⟩

/-- A slice, of whatever. -/
theorem one_slice {t e : TypeId} (ht : Tryz.prog.underlying t = some (.slice e)) {n : Nat} {x : Value} {y : Option (DataW H × List MemPlace)} (h : DataW.trod enc Tryz.prog w base sp hd n t [x] = y) (hy : y.isSome = true) :
    ∃ p m c, x = .slice p m c ∧ m ≤ maxLen ∧ (p = none → m = 0) ∧ ∀ a, p = some a → ∀ j, j < m → ∃ k cs z, w.cells? base (a.add (j * Tryz.prog.cellsOf e)) (Tryz.prog.cellsOf e) = some cs ∧ DataW.trod enc Tryz.prog w base sp hd k e cs = some z := by
  obtain ⟨z, rfl⟩ := Option.isSome_iff_exists.1 hy
  rcases open_slice ht h with ⟨h1, _⟩ | ⟨a, len, cap, m, k, D, Pl, h1, _, hl, hm, hmm, _, hx⟩
  · exact ⟨none, 0, 0, by simpa using h1, Nat.zero_le _, fun _ => rfl, (fun a e => by cases e)⟩
  · refine ⟨some a, len, cap, by simpa using h1, Nat.le_trans hl hm, (fun e => by cases e), fun a' e j hj => ?_⟩
    injection e with e
    subst e
    obtain ⟨cs, h2, h3⟩ := hx j (by rw [hmm]; split <;> omega)
    exact ⟨k, cs, _, h2, h3⟩

theorem spot_of {a : Addr} {n : Nat} {v : Value} (h : w.cell? (a.add n) = some v) (h0 : w.cell? (a.add 0) ≠ none) : ∃ b off, a = ⟨b, off, none⟩ ∧ w.cell? ⟨b, off + n, none⟩ = some v := by
  obtain ⟨b, off, spot⟩ := a
  obtain ⟨u, hu⟩ := Option.ne_none_iff_exists'.1 h0
  have hspot : spot = none := by simpa [Addr.add] using World.cell?_spot hu
  subst hspot
  exact ⟨b, off, rfl, by rw [← Go.WideShapes.add_plain]; exact h⟩

theorem row_strs {t e sz : Nat} (ht : Tryz.prog.underlying t = some (.slice e)) (hsz : Tryz.prog.cellsOf e = sz) (h0 : 0 < sz)
    (hfst : ∀ k cs z, DataW.trod enc Tryz.prog w base sp hd k e cs = some z → ∃ s : ByteArray, cs[0]? = some (.string s) ∧ s.size ≤ maxLen)
    {n : Nat} {x : Value} {y : Option (DataW H × List MemPlace)} (h : DataW.trod enc Tryz.prog w base sp hd n t [x] = y) (hy : y.isSome = true) : ∃ m, StrRow w x sz m := by
  obtain ⟨p, m, c, rfl, hm, hp, hx⟩ := one_slice ht h hy
  refine ⟨m, by unfold maxLen at hm; omega, p, c, rfl, fun j hj => ?_⟩
  cases p with
  | none => have := hp rfl; omega
  | some a =>
    have key : ∀ j, j < m → ∃ s : ByteArray, w.cell? (a.add (j * sz)) = some (.string s) ∧ s.size ≤ maxLen := fun j hj => by
      obtain ⟨k, cs, z, h1, h2⟩ := hx a rfl j hj
      rw [hsz] at h1
      obtain ⟨s, h3, h4⟩ := hfst k cs z h2
      obtain ⟨_, _, h5⟩ := World.cells?_some h1
      have h6 := h5 0 h0
      rw [h3] at h6
      have e : (a.add (j * sz)).add 0 = a.add (j * sz) := by simp [Addr.add]
      rw [e] at h6
      exact ⟨s, h6, h4⟩
    obtain ⟨s, h3, h4⟩ := key j hj
    obtain ⟨s0, h5, _⟩ := key 0 (by omega)
    rw [Nat.zero_mul] at h5
    obtain ⟨b, off, rfl, h6⟩ := spot_of h3 (by rw [h5]; simp)
    exact ⟨b, off, rfl, s, h6, by unfold maxLen at h4; omega⟩

theorem fst_str {k : Nat} {cs : List Value} {z : DataW H × List MemPlace} (h : DataW.trod enc Tryz.prog w base sp hd k 9 cs = some z) : ∃ s : ByteArray, cs[0]? = some (.string s) ∧ s.size ≤ maxLen := by
  obtain ⟨s, rfl, _, h2⟩ := DataW.trod_string Tryz.underlying9 h
  exact ⟨s, rfl, h2⟩
theorem fst_msg {k : Nat} {cs : List Value} {z : DataW H × List MemPlace} (h : DataW.trod enc Tryz.prog w base sp hd k 127 cs = some z) : ∃ s : ByteArray, cs[0]? = some (.string s) ∧ s.size ≤ maxLen := by
  obtain ⟨xs, n, _, _, hl, hxl, hel⟩ := DataW.trod_struct Tryz.underlying127 h
  have e0 := field_at hel 0 9 0 1 ⟨_, rfl, rfl, rfl⟩ Tryz.cellsStr rfl
  rw [List.drop_zero] at e0
  rw [List.getElem?_eq_getElem (by rw [hxl]; decide)] at e0
  obtain ⟨s, h1, _, h2⟩ := DataW.trod_string Tryz.underlying9 e0
  refine ⟨s, ?_, h2⟩
  have := congrArg (·[0]?) h1
  simpa using this
theorem fst_pair {k : Nat} {cs : List Value} {z : DataW H × List MemPlace} (h : DataW.trod enc Tryz.prog w base sp hd k 125 cs = some z) : ∃ s : ByteArray, cs[0]? = some (.string s) ∧ s.size ≤ maxLen := by
  obtain ⟨xs, n, _, _, hl, hxl, hel⟩ := DataW.trod_struct Tryz.underlying125 h
  have e0 := field_at hel 0 9 0 1 ⟨_, rfl, rfl, rfl⟩ Tryz.cellsStr rfl
  rw [List.drop_zero] at e0
  rw [List.getElem?_eq_getElem (by rw [hxl]; decide)] at e0
  obtain ⟨s, h1, _, h2⟩ := DataW.trod_string Tryz.underlying9 e0
  refine ⟨s, ?_, h2⟩
  have := congrArg (·[0]?) h1
  simpa using this

set_option maxRecDepth 10000 in
/-- A node: enough for Great. -/
theorem open_node {v : Value} {d : DataW H} {p : List MemPlace} (hv : Value.okWide Tryz.prog w rc b0 42 v) (h : DataW.Trod enc Tryz.prog w base sp hd 42 v d p) :
    ∃ l a1 a2 a3 a4 m1 m2 m3 m4, v = nodeV l a1 a2 a3 a4 ∧ (∃ p c, a1 = .slice p m1 c) ∧ StrRow w a2 1 m2 ∧ StrRow w a3 3 m3 ∧ StrRow w a4 2 m4 := by
  obtain ⟨cs, rfl, hsz⟩ := okWide_struct Tryz.underlying42 hv
  rw [Tryz.cellsNode] at hsz
  obtain ⟨fuel, hf⟩ := h
  obtain ⟨xs, n, _, _, _, hxl, hel⟩ := DataW.trod_struct Tryz.underlying42 hf
  obtain ⟨l⟩ := cs
  match l, hsz with
  | [x0, x1, x2, x3, x4], _ =>
    have hx : ∀ i, i < 5 → (xs[i]?).isSome = true := fun i hi => by rw [List.getElem?_eq_getElem (by rw [hxl]; exact hi)]; rfl
    have e0 := field_at (ys := [x0]) hel 0 3 0 1 ⟨_, rfl, rfl, rfl⟩ Tryz.cellsInt rfl
    have e1 := field_at (ys := [x1]) hel 1 39 1 1 ⟨_, rfl, rfl, rfl⟩ Tryz.cellsK rfl
    have e2 := field_at (ys := [x2]) hel 2 40 2 1 ⟨_, rfl, rfl, rfl⟩ Tryz.cellsS rfl
    have e3 := field_at (ys := [x3]) hel 3 25 3 1 ⟨_, rfl, rfl, rfl⟩ Tryz.cellsM rfl
    have e4 := field_at (ys := [x4]) hel 4 24 4 1 ⟨_, rfl, rfl, rfl⟩ Tryz.cellsP rfl
    obtain ⟨m0, rfl, g0⟩ := one_int e0 (hx 0 (by omega))
    obtain ⟨p1, m1, c1, rfl, _⟩ := one_slice Tryz.underlying39 e1 (hx 1 (by omega))
    obtain ⟨m2, g2⟩ := row_strs Tryz.underlying40 Tryz.cellsStr (by omega) (fun k cs z h => fst_str h) e2 (hx 2 (by omega))
    obtain ⟨m3, g3⟩ := row_strs Tryz.underlying25 Tryz.cellsMsg (by omega) (fun k cs z h => fst_msg h) e3 (hx 3 (by omega))
    obtain ⟨m4, g4⟩ := row_strs Tryz.underlying24 Tryz.cellsPair (by omega) (fun k cs z h => fst_pair h) e4 (hx 4 (by omega))
    exact ⟨m0, _, _, _, _, m1, m2, m3, m4, rfl, ⟨_, _, rfl⟩, g2, g3, g4⟩

theorem trodAll_stays {P : Program} (hl : laidOutB P = true) {W W' : World} (hb : Below W.heap.size W W') :
    ∀ {ts : List TypeId} {vs : List Value} {ds : List (DataW H)} {ps : List MemPlace}, (ts.all fun t => P.readableRec t && decide (t < P.types.size)) = true → DataW.TrodAll enc P W 0 (fun _ => true) true ts vs ds ps → (∀ x ∈ ps, x.block < W.heap.size) →
      DataW.TrodAll enc P W' 0 (fun b => decide (b < W.heap.size)) true ts vs ds ps
  | [], vs, ds, ps, _, h, _ => by
    obtain ⟨rfl, rfl, rfl⟩ := trodAll_nil h
    rfl
  | t :: ts, vs, ds, ps, ha, h, hlt => by
    obtain ⟨v, vs', d, ds', q, r, rfl, rfl, rfl, h1, h2⟩ := trodAll_cons h
    simp only [List.all_cons, Bool.and_eq_true, decide_eq_true_eq] at ha
    exact ⟨q, r, Below.trod hl ha.1.1 ha.1.2 h1 hb (fun x hx => hlt x (List.mem_append_left _ hx)), trodAll_stays hl hb ha.2 h2 (fun x hx => hlt x (List.mem_append_right _ hx)), rfl⟩

end
end Go.Proofs.Sg
/-! From a row's condition to the table that the walks read; a world that meets it. -/
namespace Go.Proofs.YthkbpcnbnhiefaaGreatDoor
set_option linter.unusedSimpArgs false
set_option linter.unusedVariables false
open Go.Proofs.Sg Go.ChangeShapes Go.WideShapes Go.RowKit

theorem own0 : ownKnob Tryz.prog.godebug = none := by kernel_rfl
theorem gTab : Tryz.prog.globalNamed "math/bits.deBruijn64tab" = some 0 := by kernel_rfl

abbrev laidT : List (String × DataW Unit) := [("math/bits.deBruijn64tab", Rows.laid_math_bits_deBruijn64tab)]

theorem tab_data : (Rows.laid_math_bits_deBruijn64tab : DataW Unit) = Lib.tabData .u8 (Lib.deBruijn64tab.map fun (n : Nat) => (n : Int)) := by rfl

theorem tab_of_laid {W : World} (h : laidMetH Tryz.prog laidT W) : Tab W := by
  rw [MakeChecks.laidMetH_plain _ _ _ (by kernel_rfl)] at h
  rw [laidT, tab_data] at h
  have ht := Lib.tabIs_of_head (k := .u8) gTab (t := 291) (by kernel_rfl) Tryz.underlying291 Tryz.underlying5 (by kernel_rfl) (by kernel_rfl) h
  intro j hj
  have h1 := World.var?_cell gTab ht j
  rw [h1]
  have hl : Lib.deBruijn64tab.length = 64 := by decide
  simp [List.getD_eq_getElem?_getD, hl, hj]

theorem door_met (os : Os) (args : Array Value) : laidMetH Tryz.prog laidT ((World.doorLaid Tryz.prog 400 os).forCall (fun _ _ => 0) ⟨#[], args, []⟩).memory :=
  laidMetH_of_parts (laidMet_of_run' 8 (by kernel_rfl) (by kernel_rfl)) (by kernel_rfl)

theorem keeps_below {W W' : World} (h : Keeps (fun _ => False) W W') : Below W.heap.size W W' := h.below (Nat.le_refl _) (fun _ _ e => e)

def zeroN : Value := .agg #[.int .i64 0, .slice none 0 0, .slice none 0 0, .slice none 0 0, .slice none 0 0]
def zeroC : Value := .agg #[.int .i64 0, .int .i64 0, .int .i64 0, .int .i64 0, .int .i64 0, .int .i64 0, .int .i64 0, .int .i64 0]

theorem small {n : Int} (h : (Lit.int .u8 n).wf = true) : ∃ m : Nat, n = m ∧ m < 256 := by
  obtain ⟨h1, h2⟩ := (Lit.wf_int_iff _ _).1 h
  have h1' : 0 ≤ n := h1
  have h2' : n ≤ 255 := h2
  exact ⟨n.toNat, by omega, by omega⟩
theorem small32 {n : Int} (h : (Lit.int .u32 n).wf = true) : ∃ m : Nat, n = m ∧ m < 4294967296 := by
  obtain ⟨h1, h2⟩ := (Lit.wf_int_iff _ _).1 h
  have h1' : 0 ≤ n := h1
  have h2' : n ≤ 4294967295 := h2
  exact ⟨n.toNat, by omega, by omega⟩

end Go.Proofs.YthkbpcnbnhiefaaGreatDoor
