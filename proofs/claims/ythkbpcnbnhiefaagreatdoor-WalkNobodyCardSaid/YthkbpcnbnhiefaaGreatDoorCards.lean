/-
  DERIVED. GIVEN WITH THE SEED: THE CARDS: each row of YthkbpcnbnhiefaaGreatDoorRows.lean that lists a variable, with what it lists TIED to the program's text (the seventh form; the later family's looks); each row that meets fmt, with fmt's text TOLD by the authors' own Lean function (tested against real Go, not proved from fmt's source: count such statements apart). THE CARD IS WHAT COUNTS. Prove the row's statement (the work); the ties are given (YthkbpcnbnhiefaaGreatDoorTie.lean); close each card by the builder's one call (the guide's Derived/Test/ToyasCard.lean, 'card_holds'). Laid BY PROGRAM, IN A SANDBOX (cutbox-door.mjs). By AI agents, Wed Nov 11 2026. No macro, syntax, notation, axiom, sorry.
-/
import Derived.Test.YthkbpcnbnhiefaaGreatDoorRows
import GoSem.ClaimSeven
namespace Go.Proofs.YthkbpcnbnhiefaaGreatDoor
namespace Rows

/-- THE TIED CARD OF 'sluicegatelaw20.WalkTells'. -/
def walkTellsCard : Claim7 := { stood := { row := walkTellsRow, standIns := [], harness := (true, "35d819fbf56d32459144236722df16d7cf6601ee004155f3b4993dfeb3727dc1"), looks := false }, kinds := [], alts := [], laidByText := true, laidKinds := [.data], laidTests := true, laidLooks := .later }
def WalkTellsCardSaid : Prop := Claim7.holds Tryz.pinned (.plain (OpenSpec.ofChange walkTellsSpec)) walkTellsCard

/-- THE TIED CARD OF 'sluicegatelaw20.WalkCorrupt'. -/
def walkCorruptCard : Claim7 := { stood := { row := walkCorruptRow, standIns := [], harness := (true, "35d819fbf56d32459144236722df16d7cf6601ee004155f3b4993dfeb3727dc1"), looks := false }, kinds := [], alts := [], laidByText := true, laidKinds := [.data], laidTests := true, laidLooks := .later }
def WalkCorruptCardSaid : Prop := Claim7.holds Tryz.pinned (.plain (OpenSpec.ofChange walkCorruptSpec)) walkCorruptCard

/-- THE TIED CARD OF 'sluicegatelaw20.WalkNobody'. -/
def walkNobodyCard : Claim7 := { stood := { row := walkNobodyRow, standIns := [], harness := (true, "35d819fbf56d32459144236722df16d7cf6601ee004155f3b4993dfeb3727dc1"), looks := false }, kinds := [], alts := [], laidByText := true, laidKinds := [.data], laidTests := true, laidLooks := .later }
def WalkNobodyCardSaid : Prop := Claim7.holds Tryz.pinned (.plain (OpenSpec.ofChange walkNobodySpec)) walkNobodyCard

/-- THE TIED CARD OF 'sluicegatelaw20.WalkLeaves'. -/
def walkLeavesCard : Claim7 := { stood := { row := walkLeavesRow, standIns := [], harness := (true, "35d819fbf56d32459144236722df16d7cf6601ee004155f3b4993dfeb3727dc1"), looks := false }, kinds := [], alts := [], laidByText := true, laidKinds := [.data], laidTests := true, laidLooks := .later }
def WalkLeavesCardSaid : Prop := Claim7.holds Tryz.pinned (.plain (OpenSpec.ofChange walkLeavesSpec)) walkLeavesCard

/-- THE TIED CARD OF 'sluicegatelaw18.ShelfFlushed'. -/
def shelfFlushedCard : Claim7 := { stood := { row := shelfFlushedRow, standIns := [], harness := (true, "35d819fbf56d32459144236722df16d7cf6601ee004155f3b4993dfeb3727dc1"), looks := false }, kinds := [], alts := [], laidByText := true, laidKinds := [.data], laidTests := true, laidLooks := .later }
def ShelfFlushedCardSaid : Prop := Claim7.holds Tryz.pinned (.plain (OpenSpec.ofChange shelfFlushedSpec)) shelfFlushedCard

/-- THE TIED CARD OF 'sluicegatelaw20.WalkLooks'. -/
def walkLooksCard : Claim7 := { stood := { row := walkLooksRow, standIns := [], harness := (true, "35d819fbf56d32459144236722df16d7cf6601ee004155f3b4993dfeb3727dc1"), looks := false }, kinds := [], alts := [], laidByText := true, laidKinds := [.data], laidTests := true, laidLooks := .later }
def WalkLooksCardSaid : Prop := Claim7.holds Tryz.pinned (.plain (OpenSpec.ofChange walkLooksSpec)) walkLooksCard

/-- THE TIED CARD OF 'sluicegatelaw18.ShelfCosts'. -/
def shelfCostsCard : Claim7 := { stood := { row := shelfCostsRow, standIns := [], harness := (true, "35d819fbf56d32459144236722df16d7cf6601ee004155f3b4993dfeb3727dc1"), looks := false }, kinds := [], alts := [], laidByText := true, laidKinds := [.data], laidTests := true, laidLooks := .later }
def ShelfCostsCardSaid : Prop := Claim7.holds Tryz.pinned (.plain (OpenSpec.ofChange shelfCostsSpec)) shelfCostsCard

/-- THE TIED CARD OF 'sluicegatelaw18.ShelfPlays'. -/
def shelfPlaysCard : Claim7 := { stood := { row := shelfPlaysRow, standIns := [], harness := (true, "35d819fbf56d32459144236722df16d7cf6601ee004155f3b4993dfeb3727dc1"), looks := false }, kinds := [], alts := [], laidByText := true, laidKinds := [.data], laidTests := true, laidLooks := .later }
def ShelfPlaysCardSaid : Prop := Claim7.holds Tryz.pinned (.plain (OpenSpec.ofChange shelfPlaysSpec)) shelfPlaysCard

/-- THE TIED CARD OF 'sluicegatelaw18.ShelfNone'. -/
def shelfNoneCard : Claim7 := { stood := { row := shelfNoneRow, standIns := [], harness := (true, "35d819fbf56d32459144236722df16d7cf6601ee004155f3b4993dfeb3727dc1"), looks := false }, kinds := [], alts := [], laidByText := true, laidKinds := [.data], laidTests := true, laidLooks := .later }
def ShelfNoneCardSaid : Prop := Claim7.holds Tryz.pinned (.plain (OpenSpec.ofChange shelfNoneSpec)) shelfNoneCard

/-- THE SECOND FORM's CARD OF 'sluicegatelaw20.WalkTells'. -/
def walkTellsUptoCard : Claim7 := { stood := { row := walkTellsUptoRow, standIns := [], harness := (true, "35d819fbf56d32459144236722df16d7cf6601ee004155f3b4993dfeb3727dc1"), looks := false }, kinds := [], alts := [], laidByText := true, laidKinds := [.data], laidTests := true, laidLooks := .later }
def WalkTellsUptoCardSaid : Prop := Claim7.holds Tryz.pinned (.plain (OpenSpec.upto walkTellsSpec)) walkTellsUptoCard

/-- THE SECOND FORM's CARD OF 'sluicegatelaw20.WalkCorrupt'. -/
def walkCorruptUptoCard : Claim7 := { stood := { row := walkCorruptUptoRow, standIns := [], harness := (true, "35d819fbf56d32459144236722df16d7cf6601ee004155f3b4993dfeb3727dc1"), looks := false }, kinds := [], alts := [], laidByText := true, laidKinds := [.data], laidTests := true, laidLooks := .later }
def WalkCorruptUptoCardSaid : Prop := Claim7.holds Tryz.pinned (.plain (OpenSpec.upto walkCorruptSpec)) walkCorruptUptoCard

/-- THE SECOND FORM's CARD OF 'sluicegatelaw20.WalkNobody'. -/
def walkNobodyUptoCard : Claim7 := { stood := { row := walkNobodyUptoRow, standIns := [], harness := (true, "35d819fbf56d32459144236722df16d7cf6601ee004155f3b4993dfeb3727dc1"), looks := false }, kinds := [], alts := [], laidByText := true, laidKinds := [.data], laidTests := true, laidLooks := .later }
def WalkNobodyUptoCardSaid : Prop := Claim7.holds Tryz.pinned (.plain (OpenSpec.upto walkNobodySpec)) walkNobodyUptoCard

/-- THE SECOND FORM's CARD OF 'sluicegatelaw20.WalkLeaves'. -/
def walkLeavesUptoCard : Claim7 := { stood := { row := walkLeavesUptoRow, standIns := [], harness := (true, "35d819fbf56d32459144236722df16d7cf6601ee004155f3b4993dfeb3727dc1"), looks := false }, kinds := [], alts := [], laidByText := true, laidKinds := [.data], laidTests := true, laidLooks := .later }
def WalkLeavesUptoCardSaid : Prop := Claim7.holds Tryz.pinned (.plain (OpenSpec.upto walkLeavesSpec)) walkLeavesUptoCard

/-- THE SECOND FORM's CARD OF 'sluicegatelaw18.ShelfFlushed'. -/
def shelfFlushedUptoCard : Claim7 := { stood := { row := shelfFlushedUptoRow, standIns := [], harness := (true, "35d819fbf56d32459144236722df16d7cf6601ee004155f3b4993dfeb3727dc1"), looks := false }, kinds := [], alts := [], laidByText := true, laidKinds := [.data], laidTests := true, laidLooks := .later }
def ShelfFlushedUptoCardSaid : Prop := Claim7.holds Tryz.pinned (.plain (OpenSpec.upto shelfFlushedSpec)) shelfFlushedUptoCard

/-- THE SECOND FORM's CARD OF 'sluicegatelaw20.WalkLooks'. -/
def walkLooksUptoCard : Claim7 := { stood := { row := walkLooksUptoRow, standIns := [], harness := (true, "35d819fbf56d32459144236722df16d7cf6601ee004155f3b4993dfeb3727dc1"), looks := false }, kinds := [], alts := [], laidByText := true, laidKinds := [.data], laidTests := true, laidLooks := .later }
def WalkLooksUptoCardSaid : Prop := Claim7.holds Tryz.pinned (.plain (OpenSpec.upto walkLooksSpec)) walkLooksUptoCard

/-- THE SECOND FORM's CARD OF 'sluicegatelaw18.ShelfCosts'. -/
def shelfCostsUptoCard : Claim7 := { stood := { row := shelfCostsUptoRow, standIns := [], harness := (true, "35d819fbf56d32459144236722df16d7cf6601ee004155f3b4993dfeb3727dc1"), looks := false }, kinds := [], alts := [], laidByText := true, laidKinds := [.data], laidTests := true, laidLooks := .later }
def ShelfCostsUptoCardSaid : Prop := Claim7.holds Tryz.pinned (.plain (OpenSpec.upto shelfCostsSpec)) shelfCostsUptoCard

/-- THE SECOND FORM's CARD OF 'sluicegatelaw18.ShelfPlays'. -/
def shelfPlaysUptoCard : Claim7 := { stood := { row := shelfPlaysUptoRow, standIns := [], harness := (true, "35d819fbf56d32459144236722df16d7cf6601ee004155f3b4993dfeb3727dc1"), looks := false }, kinds := [], alts := [], laidByText := true, laidKinds := [.data], laidTests := true, laidLooks := .later }
def ShelfPlaysUptoCardSaid : Prop := Claim7.holds Tryz.pinned (.plain (OpenSpec.upto shelfPlaysSpec)) shelfPlaysUptoCard

/-- THE SECOND FORM's CARD OF 'sluicegatelaw18.ShelfNone'. -/
def shelfNoneUptoCard : Claim7 := { stood := { row := shelfNoneUptoRow, standIns := [], harness := (true, "35d819fbf56d32459144236722df16d7cf6601ee004155f3b4993dfeb3727dc1"), looks := false }, kinds := [], alts := [], laidByText := true, laidKinds := [.data], laidTests := true, laidLooks := .later }
def ShelfNoneUptoCardSaid : Prop := Claim7.holds Tryz.pinned (.plain (OpenSpec.upto shelfNoneSpec)) shelfNoneUptoCard
end Rows
end Go.Proofs.YthkbpcnbnhiefaaGreatDoor
