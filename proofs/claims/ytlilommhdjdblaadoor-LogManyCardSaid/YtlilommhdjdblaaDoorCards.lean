/-
  DERIVED. GIVEN WITH THE SEED: THE CARDS: each row of YtlilommhdjdblaaDoorRows.lean that lists a variable, with what it lists TIED to the program's text (the seventh form; the later family's looks); each row that meets fmt, with fmt's text TOLD by the authors' own Lean function (tested against real Go, not proved from fmt's source: count such statements apart). THE CARD IS WHAT COUNTS. Prove the row's statement (the work); the ties are given (YtlilommhdjdblaaDoorTie.lean); close each card by the builder's one call (the guide's Derived/Test/ToyasCard.lean, 'card_holds'). Laid BY PROGRAM, IN A SANDBOX (cutbox-door.mjs). By AI agents, Wed Nov 11 2026. No macro, syntax, notation, axiom, sorry.
-/
import Derived.Test.YtlilommhdjdblaaDoorRows
import GoSem.ClaimSeven
namespace Go.Proofs.YtlilommhdjdblaaDoor
namespace Rows

/-- THE TIED CARD OF 'hornlaw2.WidthTells'. -/
def widthTellsCard : Claim7 := { stood := { row := widthTellsRow, standIns := [], harness := (true, "30359e4c9e3cf888196cf2801ebe8fb8d35aa870b6dbe2dba8f3f64c84c1ad45"), looks := true }, kinds := [], alts := [], laidByText := true, laidKinds := [.handle], laidTests := true, laidLooks := .later }
def WidthTellsCardSaid : Prop := Claim7.holds Tryd.pinned (.plain (OpenSpec.ofChange widthTellsSpec)) widthTellsCard

/-- THE TIED CARD OF 'hornlaw2.FrameTells'. -/
def frameTellsCard : Claim7 := { stood := { row := frameTellsRow, standIns := [], harness := (true, "30359e4c9e3cf888196cf2801ebe8fb8d35aa870b6dbe2dba8f3f64c84c1ad45"), looks := true }, kinds := [], alts := [], laidByText := true, laidKinds := [.handle], laidTests := true, laidLooks := .later }
def FrameTellsCardSaid : Prop := Claim7.holds Tryd.pinned (.plain (OpenSpec.ofChange frameTellsSpec)) frameTellsCard

/-- THE TIED CARD OF 'hornlaw3.PackTells'. -/
def packTellsCard : Claim7 := { stood := { row := packTellsRow, standIns := [], harness := (true, "30359e4c9e3cf888196cf2801ebe8fb8d35aa870b6dbe2dba8f3f64c84c1ad45"), looks := true }, kinds := [], alts := [], laidByText := true, laidKinds := [.handle], laidTests := true, laidLooks := .later }
def PackTellsCardSaid : Prop := Claim7.holds Tryd.pinned (.plain (OpenSpec.ofChange packTellsSpec)) packTellsCard

/-- THE TIED CARD OF 'hornlaw4.LogMany'. -/
def logManyCard : Claim7 := { stood := { row := logManyRow, standIns := [], harness := (true, "30359e4c9e3cf888196cf2801ebe8fb8d35aa870b6dbe2dba8f3f64c84c1ad45"), looks := true }, kinds := [], alts := [], laidByText := true, laidKinds := [.data, .data, .data, .handle], laidTests := true, laidLooks := .later }
def LogManyCardSaid : Prop := Claim7.holds Tryd.pinned (.plain (OpenSpec.ofChange logManySpec)) logManyCard

/-- THE SECOND FORM's CARD OF 'hornlaw2.WidthTells'. -/
def widthTellsUptoCard : Claim7 := { stood := { row := widthTellsUptoRow, standIns := [], harness := (true, "30359e4c9e3cf888196cf2801ebe8fb8d35aa870b6dbe2dba8f3f64c84c1ad45"), looks := true }, kinds := [], alts := [], laidByText := true, laidKinds := [.handle], laidTests := true, laidLooks := .later }
def WidthTellsUptoCardSaid : Prop := Claim7.holds Tryd.pinned (.plain (OpenSpec.upto widthTellsSpec)) widthTellsUptoCard

/-- THE SECOND FORM's CARD OF 'hornlaw2.FrameTells'. -/
def frameTellsUptoCard : Claim7 := { stood := { row := frameTellsUptoRow, standIns := [], harness := (true, "30359e4c9e3cf888196cf2801ebe8fb8d35aa870b6dbe2dba8f3f64c84c1ad45"), looks := true }, kinds := [], alts := [], laidByText := true, laidKinds := [.handle], laidTests := true, laidLooks := .later }
def FrameTellsUptoCardSaid : Prop := Claim7.holds Tryd.pinned (.plain (OpenSpec.upto frameTellsSpec)) frameTellsUptoCard

/-- THE SECOND FORM's CARD OF 'hornlaw3.PackTells'. -/
def packTellsUptoCard : Claim7 := { stood := { row := packTellsUptoRow, standIns := [], harness := (true, "30359e4c9e3cf888196cf2801ebe8fb8d35aa870b6dbe2dba8f3f64c84c1ad45"), looks := true }, kinds := [], alts := [], laidByText := true, laidKinds := [.handle], laidTests := true, laidLooks := .later }
def PackTellsUptoCardSaid : Prop := Claim7.holds Tryd.pinned (.plain (OpenSpec.upto packTellsSpec)) packTellsUptoCard

/-- THE SECOND FORM's CARD OF 'hornlaw4.LogMany'. -/
def logManyUptoCard : Claim7 := { stood := { row := logManyUptoRow, standIns := [], harness := (true, "30359e4c9e3cf888196cf2801ebe8fb8d35aa870b6dbe2dba8f3f64c84c1ad45"), looks := true }, kinds := [], alts := [], laidByText := true, laidKinds := [.data, .data, .data, .handle], laidTests := true, laidLooks := .later }
def LogManyUptoCardSaid : Prop := Claim7.holds Tryd.pinned (.plain (OpenSpec.upto logManySpec)) logManyUptoCard
end Rows
end Go.Proofs.YtlilommhdjdblaaDoor
