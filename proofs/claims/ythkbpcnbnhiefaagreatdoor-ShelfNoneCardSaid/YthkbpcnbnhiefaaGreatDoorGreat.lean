/- L13.Great: of whatever node. -/
import Derived.Test.YthkbpcnbnhiefaaGreatDoorNone0
import Derived.LoopTactic
namespace Go.Proofs.Sg
set_option linter.unusedSimpArgs false
set_option linter.unusedVariables false
open Go.RowKit Go.Lib

/-- A row of m records of sz cells each; the first cell of each is a text. -/
def StrRow (w : World) (v : Value) (sz m : Nat) : Prop := m ≤ 9223372036854775807 ∧ ∃ p c, v = .slice p m c ∧ ∀ j, j < m → ∃ b off, p = some ⟨b, off, none⟩ ∧ ∃ s : ByteArray, w.cell? ⟨b, off + j * sz, none⟩ = some (.string s) ∧ s.size ≤ 9223372036854775807

theorem StrRow.keep {w w' : World} {v : Value} {sz m : Nat} (h : StrRow w v sz m) (hk : Keeps (fun _ => False) w w') : StrRow w' v sz m := by
  obtain ⟨h0, p, c, rfl, h1⟩ := h
  refine ⟨h0, p, c, rfl, fun j hj => ?_⟩
  obtain ⟨b, off, e, s, h2, h3⟩ := h1 j hj
  exact ⟨b, off, e, s, (World.cell?_of_block (hk.block b (World.block_lt_of_cell? w _ h2) (fun e => e))).trans h2, h3⟩

/-- A bool, whichever. -/
def IsB (e : Ending) : Prop := ∃ b, e = .returned (.bool b)

set_option maxRecDepth 100000 in
set_option maxHeartbeats 4000000 in
theorem great {w : World} (l : Int) (a1 a2 a3 a4 : Value) (m1 m2 m3 m4 : Nat) (h1 : ∃ p c, a1 = .slice p m1 c) (h2 : StrRow w a2 1 m2) (h3 : StrRow w a3 3 m3) (h4 : StrRow w a4 2 m4) :
    Calls Tryz.prog 19 #[nodeV l a1 a2 a3 a4] w fun e w' => IsB e ∧ Keeps (fun _ => False) w w' := by
  have kN := (Keeps.refl (fun _ => False) w).alloc (.cells #[.int .i64 l, a1, a2, a3, a4] 42)
  obtain ⟨n0, n1, n2, n3, n4⟩ := (Blk.new w 42 #[.int .i64 l, a1, a2, a3, a4]).five
  have g2 := h2.keep kN
  have g3 := h3.keep kN
  have g4 := h4.keep kN
  clear h2 h3 h4
  obtain ⟨p1, c1, rfl⟩ := h1
  obtain ⟨b2, p2, c2, rfl, g2⟩ := g2
  obtain ⟨b3, p3, c3, rfl, g3⟩ := g3
  obtain ⟨b4, p4, c4, rfl, g4⟩ := g4
  have G2 := Hd.mk g2
  have G3 := Hd.mk g3
  have G4 := Hd.mk g4
  have K := Hd.mk kN
  clear g2 g3 g4 kN
  unfold nodeV
  go_enter Tryz.func19, Tryz.ntmps19
  go_wp2_with fail
  all_goals generalize hw0 : w.alloc (.cells #[.int .i64 l, .slice p1 m1 c1, .slice p2 m2 c2, .slice p3 m3 c3, .slice p4 m4 c4] 42) = w0 at *
  all_goals clear hw0
  all_goals first
    | (go_ret; exact ⟨⟨true, rfl⟩, K.out⟩)
    | skip
  go_loopw [3] (fun v wr => ∃ j : Nat, v = .int .i64 j ∧ j ≤ m2 ∧ w0 = wr) (fun v _ => m2 - (RowKit.intOf v).toNat)
  case atStart => exact ⟨0, by go_num, by omega, rfl⟩
  case round =>
    obtain ⟨j, rfl, hj, rfl⟩ := hrel
    by_cases hlt : j < m2
    · obtain ⟨b, off, rfl, s, hc, hs⟩ := G2.out j hlt
      try rw [Nat.mul_one] at hc
      go_wp2_with fail
      all_goals first
        | (go_ret; exact ⟨⟨true, rfl⟩, K.out⟩)
        | exact ⟨⟨j + 1, by go_num, by omega, trivial⟩, by simp [RowKit.intOf]; omega⟩
    · go_wp2_with fail
      go_loopw [4] (fun v wr => ∃ j : Nat, v = .int .i64 j ∧ j ≤ m3 ∧ w0 = wr) (fun v _ => m3 - (RowKit.intOf v).toNat)
      case atStart => exact ⟨0, by go_num, by omega, rfl⟩
      case round =>
        obtain ⟨j, rfl, hj, rfl⟩ := hrel
        by_cases hlt : j < m3
        · obtain ⟨b, off, rfl, s, hc, hs⟩ := G3.out j hlt
          try rw [Nat.mul_one] at hc
          go_wp2_with fail
          all_goals first
            | (go_ret; exact ⟨⟨true, rfl⟩, K.out⟩)
            | exact ⟨⟨j + 1, by go_num, by omega, trivial⟩, by simp [RowKit.intOf]; omega⟩
        · go_wp2_with fail
          go_loopw [5] (fun v wr => ∃ j : Nat, v = .int .i64 j ∧ j ≤ m4 ∧ w0 = wr) (fun v _ => m4 - (RowKit.intOf v).toNat)
          case atStart => exact ⟨0, by go_num, by omega, rfl⟩
          case round =>
            obtain ⟨j, rfl, hj, rfl⟩ := hrel
            by_cases hlt : j < m4
            · obtain ⟨b, off, rfl, s, hc, hs⟩ := G4.out j hlt
              try rw [Nat.mul_one] at hc
              go_wp2_with fail
              all_goals first
                | (go_ret; exact ⟨⟨true, rfl⟩, K.out⟩)
                | exact ⟨⟨j + 1, by go_num, by omega, trivial⟩, by simp [RowKit.intOf]; omega⟩
            · go_wp2_with fail
              go_ret
              exact ⟨⟨false, rfl⟩, K.out⟩

end Go.Proofs.Sg
