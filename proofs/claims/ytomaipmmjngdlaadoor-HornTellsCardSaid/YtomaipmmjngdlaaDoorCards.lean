/-
  DERIVED. GIVEN WITH THE SEED: THE CARDS: each row of YtomaipmmjngdlaaDoorRows.lean that lists a variable, with what it lists TIED to the program's text (the seventh form; the later family's looks); each row that meets fmt, with fmt's text TOLD by the authors' own Lean function (tested against real Go, not proved from fmt's source: count such statements apart). THE CARD IS WHAT COUNTS. Prove the row's statement (the work); the ties are given (YtomaipmmjngdlaaDoorTie.lean); close each card by the builder's one call (the guide's Derived/Test/ToyasCard.lean, 'card_holds'). Laid BY PROGRAM, IN A SANDBOX (cutbox-door.mjs). By AI agents, Wed Nov 11 2026. No macro, syntax, notation, axiom, sorry.
-/
import Derived.Test.YtomaipmmjngdlaaDoorRows
import GoSem.ClaimSeven
namespace Go.Proofs.YtomaipmmjngdlaaDoor
namespace Rows

/-- THE TIED CARD OF 'hornlaw4.HornNone'. -/
def hornNoneCard : Claim7 := { stood := { row := hornNoneRow, standIns := [], harness := (true, "d43028e4902ca008fe84d723660686195479cd5829f548cd539f6bbcb5b4d3ed"), looks := true }, kinds := [], alts := [], laidByText := true, laidKinds := [.handle], laidTests := true, laidLooks := .later }
def HornNoneCardSaid : Prop := Claim7.holds Tryd.pinned (.plain (OpenSpec.ofChange hornNoneSpec)) hornNoneCard

/-- THE TIED CARD OF 'hornlaw2.HornTells'. -/
def hornTellsCard : Claim7 := { stood := { row := hornTellsRow, standIns := [], harness := (true, "d43028e4902ca008fe84d723660686195479cd5829f548cd539f6bbcb5b4d3ed"), looks := true }, kinds := [], alts := [], laidByText := true, laidKinds := [.handle], laidTests := true, laidLooks := .later }
def HornTellsCardSaid : Prop := Claim7.holds Tryd.pinned (.plain (OpenSpec.ofChange hornTellsSpec)) hornTellsCard

/-- THE TIED CARD OF 'hornlaw2.HornBack'. -/
def hornBackCard : Claim7 := { stood := { row := hornBackRow, standIns := [], harness := (true, "d43028e4902ca008fe84d723660686195479cd5829f548cd539f6bbcb5b4d3ed"), looks := true }, kinds := [], alts := [], laidByText := true, laidKinds := [.handle], laidTests := true, laidLooks := .later }
def HornBackCardSaid : Prop := Claim7.holds Tryd.pinned (.plain (OpenSpec.ofChange hornBackSpec)) hornBackCard

/-- THE TIED CARD OF 'hornlaw2.WidthTells'. -/
def widthTellsCard : Claim7 := { stood := { row := widthTellsRow, standIns := [], harness := (true, "d43028e4902ca008fe84d723660686195479cd5829f548cd539f6bbcb5b4d3ed"), looks := true }, kinds := [], alts := [], laidByText := true, laidKinds := [.handle], laidTests := true, laidLooks := .later }
def WidthTellsCardSaid : Prop := Claim7.holds Tryd.pinned (.plain (OpenSpec.ofChange widthTellsSpec)) widthTellsCard

/-- THE TIED CARD OF 'hornlaw2.LearnTells'. -/
def learnTellsCard : Claim7 := { stood := { row := learnTellsRow, standIns := [], harness := (true, "d43028e4902ca008fe84d723660686195479cd5829f548cd539f6bbcb5b4d3ed"), looks := true }, kinds := [], alts := [], laidByText := true, laidKinds := [.handle], laidTests := true, laidLooks := .later }
def LearnTellsCardSaid : Prop := Claim7.holds Tryd.pinned (.plain (OpenSpec.ofChange learnTellsSpec)) learnTellsCard

/-- THE SECOND FORM's CARD OF 'hornlaw4.HornNone'. -/
def hornNoneUptoCard : Claim7 := { stood := { row := hornNoneUptoRow, standIns := [], harness := (true, "d43028e4902ca008fe84d723660686195479cd5829f548cd539f6bbcb5b4d3ed"), looks := true }, kinds := [], alts := [], laidByText := true, laidKinds := [.handle], laidTests := true, laidLooks := .later }
def HornNoneUptoCardSaid : Prop := Claim7.holds Tryd.pinned (.plain (OpenSpec.upto hornNoneSpec)) hornNoneUptoCard

/-- THE SECOND FORM's CARD OF 'hornlaw2.HornTells'. -/
def hornTellsUptoCard : Claim7 := { stood := { row := hornTellsUptoRow, standIns := [], harness := (true, "d43028e4902ca008fe84d723660686195479cd5829f548cd539f6bbcb5b4d3ed"), looks := true }, kinds := [], alts := [], laidByText := true, laidKinds := [.handle], laidTests := true, laidLooks := .later }
def HornTellsUptoCardSaid : Prop := Claim7.holds Tryd.pinned (.plain (OpenSpec.upto hornTellsSpec)) hornTellsUptoCard

/-- THE SECOND FORM's CARD OF 'hornlaw2.HornBack'. -/
def hornBackUptoCard : Claim7 := { stood := { row := hornBackUptoRow, standIns := [], harness := (true, "d43028e4902ca008fe84d723660686195479cd5829f548cd539f6bbcb5b4d3ed"), looks := true }, kinds := [], alts := [], laidByText := true, laidKinds := [.handle], laidTests := true, laidLooks := .later }
def HornBackUptoCardSaid : Prop := Claim7.holds Tryd.pinned (.plain (OpenSpec.upto hornBackSpec)) hornBackUptoCard

/-- THE SECOND FORM's CARD OF 'hornlaw2.WidthTells'. -/
def widthTellsUptoCard : Claim7 := { stood := { row := widthTellsUptoRow, standIns := [], harness := (true, "d43028e4902ca008fe84d723660686195479cd5829f548cd539f6bbcb5b4d3ed"), looks := true }, kinds := [], alts := [], laidByText := true, laidKinds := [.handle], laidTests := true, laidLooks := .later }
def WidthTellsUptoCardSaid : Prop := Claim7.holds Tryd.pinned (.plain (OpenSpec.upto widthTellsSpec)) widthTellsUptoCard

/-- THE SECOND FORM's CARD OF 'hornlaw2.LearnTells'. -/
def learnTellsUptoCard : Claim7 := { stood := { row := learnTellsUptoRow, standIns := [], harness := (true, "d43028e4902ca008fe84d723660686195479cd5829f548cd539f6bbcb5b4d3ed"), looks := true }, kinds := [], alts := [], laidByText := true, laidKinds := [.handle], laidTests := true, laidLooks := .later }
def LearnTellsUptoCardSaid : Prop := Claim7.holds Tryd.pinned (.plain (OpenSpec.upto learnTellsSpec)) learnTellsUptoCard
end Rows
end Go.Proofs.YtomaipmmjngdlaaDoor
