/-
  DERIVED. GIVEN WITH THE SEED: THE CARDS: each row of YtjdpgakkphdjlaaGreatDoorRows.lean that lists a variable, with what it lists TIED to the program's text (the seventh form; the later family's looks); each row that meets fmt, with fmt's text TOLD by the authors' own Lean function (tested against real Go, not proved from fmt's source: count such statements apart). THE CARD IS WHAT COUNTS. Prove the row's statement (the work); the ties are given (YtjdpgakkphdjlaaGreatDoorTie.lean); close each card by the builder's one call (the guide's Derived/Test/ToyasCard.lean, 'card_holds'). Laid BY PROGRAM, IN A SANDBOX (cutbox-door.mjs). By AI agents, Wed Nov 11 2026. No macro, syntax, notation, axiom, sorry.
-/
import Derived.Test.YtjdpgakkphdjlaaGreatDoorRows
import GoSem.ClaimSeven
namespace Go.Proofs.YtjdpgakkphdjlaaGreatDoor
namespace Rows

/-- THE TIED CARD OF 'hornlaw3.RunAnswers'. -/
def runAnswersCard : Claim7 := { stood := { row := runAnswersRow, standIns := [], harness := (true, "5235b1575d8cc94e9ebf61f9d903858b5dae57b847ad4ad7c6083deb759a32c5"), looks := true }, kinds := [], alts := [], laidByText := true, laidKinds := [.data, .data, .data, .data, .handle, .sentinel, .sentinel, .wider, .pinned], laidTests := true, laidLooks := .later }
def RunAnswersCardSaid : Prop := Claim7.holds Tryz.pinned (.plain (OpenSpec.ofChange runAnswersSpec)) runAnswersCard

/-- THE TIED CARD OF 'hornlaw3.RunBegins'. -/
def runBeginsCard : Claim7 := { stood := { row := runBeginsRow, standIns := [], harness := (true, "5235b1575d8cc94e9ebf61f9d903858b5dae57b847ad4ad7c6083deb759a32c5"), looks := true }, kinds := [], alts := [], laidByText := true, laidKinds := [.data, .data, .data, .data, .handle, .sentinel, .sentinel, .wider, .pinned], laidTests := true, laidLooks := .later }
def RunBeginsCardSaid : Prop := Claim7.holds Tryz.pinned (.plain (OpenSpec.ofChange runBeginsSpec)) runBeginsCard

/-- THE TIED CARD OF 'hornlaw3.RunTank'. -/
def runTankCard : Claim7 := { stood := { row := runTankRow, standIns := [], harness := (true, "5235b1575d8cc94e9ebf61f9d903858b5dae57b847ad4ad7c6083deb759a32c5"), looks := true }, kinds := [], alts := [], laidByText := true, laidKinds := [.data, .data, .data, .data, .handle, .sentinel, .sentinel, .wider, .pinned], laidTests := true, laidLooks := .later }
def RunTankCardSaid : Prop := Claim7.holds Tryz.pinned (.plain (OpenSpec.ofChange runTankSpec)) runTankCard

/-- THE SECOND FORM's CARD OF 'hornlaw3.RunAnswers'. -/
def runAnswersUptoCard : Claim7 := { stood := { row := runAnswersUptoRow, standIns := [], harness := (true, "5235b1575d8cc94e9ebf61f9d903858b5dae57b847ad4ad7c6083deb759a32c5"), looks := true }, kinds := [], alts := [], laidByText := true, laidKinds := [.data, .data, .data, .data, .handle, .sentinel, .sentinel, .wider, .pinned], laidTests := true, laidLooks := .later }
def RunAnswersUptoCardSaid : Prop := Claim7.holds Tryz.pinned (.plain (OpenSpec.upto runAnswersSpec)) runAnswersUptoCard

/-- THE SECOND FORM's CARD OF 'hornlaw3.RunBegins'. -/
def runBeginsUptoCard : Claim7 := { stood := { row := runBeginsUptoRow, standIns := [], harness := (true, "5235b1575d8cc94e9ebf61f9d903858b5dae57b847ad4ad7c6083deb759a32c5"), looks := true }, kinds := [], alts := [], laidByText := true, laidKinds := [.data, .data, .data, .data, .handle, .sentinel, .sentinel, .wider, .pinned], laidTests := true, laidLooks := .later }
def RunBeginsUptoCardSaid : Prop := Claim7.holds Tryz.pinned (.plain (OpenSpec.upto runBeginsSpec)) runBeginsUptoCard

/-- THE SECOND FORM's CARD OF 'hornlaw3.RunTank'. -/
def runTankUptoCard : Claim7 := { stood := { row := runTankUptoRow, standIns := [], harness := (true, "5235b1575d8cc94e9ebf61f9d903858b5dae57b847ad4ad7c6083deb759a32c5"), looks := true }, kinds := [], alts := [], laidByText := true, laidKinds := [.data, .data, .data, .data, .handle, .sentinel, .sentinel, .wider, .pinned], laidTests := true, laidLooks := .later }
def RunTankUptoCardSaid : Prop := Claim7.holds Tryz.pinned (.plain (OpenSpec.upto runTankSpec)) runTankUptoCard
end Rows
end Go.Proofs.YtjdpgakkphdjlaaGreatDoor
