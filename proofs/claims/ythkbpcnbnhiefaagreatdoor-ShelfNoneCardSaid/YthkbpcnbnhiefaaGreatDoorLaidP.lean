/- From a row's condition to the table that the walks read; a world that meets it. -/
import Derived.Test.YthkbpcnbnhiefaaGreatDoorRows
import Derived.Test.YthkbpcnbnhiefaaGreatDoorTie
import Derived.Test.YthkbpcnbnhiefaaGreatDoorCards
import Derived.Test.YthkbpcnbnhiefaaGreatDoorArg
import Derived.LaidMore
import Derived.Stop.Joined
import Derived.SevenTiedAt
import Derived.Lib.LaidTab
namespace Go.Proofs.YthkbpcnbnhiefaaGreatDoor
set_option linter.unusedSimpArgs false
set_option linter.unusedVariables false
open Go.Proofs.Sg Go.ChangeShapes Go.WideShapes Go.RowKit

theorem own0 : ownKnob Tryz.prog.godebug = none := by kernel_rfl
theorem gTab : Tryz.prog.globalNamed "math/bits.deBruijn64tab" = some 0 := by kernel_rfl

abbrev laidT : List (String × DataW Unit) := [("math/bits.deBruijn64tab", Rows.laid_math_bits_deBruijn64tab)]

theorem tab_data : (Rows.laid_math_bits_deBruijn64tab : DataW Unit) = Lib.tabData .u8 (Lib.deBruijn64tab.map fun (n : Nat) => (n : Int)) := by rfl

theorem tab_of_laid {W : World} (h : laidMetH Tryz.prog laidT W) : Tab W := by
  rw [MakeChecks.laidMetH_plain _ _ _ (by kernel_rfl)] at h
  rw [laidT, tab_data] at h
  have ht := Lib.tabIs_of_head (k := .u8) gTab (t := 291) (by kernel_rfl) Tryz.underlying291 Tryz.underlying5 (by kernel_rfl) (by kernel_rfl) h
  intro j hj
  have h1 := World.var?_cell gTab ht j
  rw [h1]
  have hl : Lib.deBruijn64tab.length = 64 := by decide
  simp [List.getD_eq_getElem?_getD, hl, hj]

theorem door_met (os : Os) (args : Array Value) : laidMetH Tryz.prog laidT ((World.doorLaid Tryz.prog 400 os).forCall (fun _ _ => 0) ⟨#[], args, []⟩).memory :=
  laidMetH_of_parts (laidMet_of_run' 8 (by kernel_rfl) (by kernel_rfl)) (by kernel_rfl)

theorem keeps_below {W W' : World} (h : Keeps (fun _ => False) W W') : Below W.heap.size W W' := h.below (Nat.le_refl _) (fun _ _ e => e)

def zeroN : Value := .agg #[.int .i64 0, .slice none 0 0, .slice none 0 0, .slice none 0 0, .slice none 0 0]
def zeroC : Value := .agg #[.int .i64 0, .int .i64 0, .int .i64 0, .int .i64 0, .int .i64 0, .int .i64 0, .int .i64 0, .int .i64 0]

theorem small {n : Int} (h : (Lit.int .u8 n).wf = true) : ∃ m : Nat, n = m ∧ m < 256 := by
  obtain ⟨h1, h2⟩ := (Lit.wf_int_iff _ _).1 h
  have h1' : 0 ≤ n := h1
  have h2' : n ≤ 255 := h2
  exact ⟨n.toNat, by omega, by omega⟩
theorem small32 {n : Int} (h : (Lit.int .u32 n).wf = true) : ∃ m : Nat, n = m ∧ m < 4294967296 := by
  obtain ⟨h1, h2⟩ := (Lit.wf_int_iff _ _).1 h
  have h1' : 0 ≤ n := h1
  have h2' : n ≤ 4294967295 := h2
  exact ⟨n.toNat, by omega, by omega⟩

end Go.Proofs.YthkbpcnbnhiefaaGreatDoor
