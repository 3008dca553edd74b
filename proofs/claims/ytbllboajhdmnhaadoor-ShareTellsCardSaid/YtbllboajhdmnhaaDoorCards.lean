/-
  DERIVED. GIVEN WITH THE SEED: THE CARDS: each row of YtbllboajhdmnhaaDoorRows.lean that lists a variable, with what it lists TIED to the program's text (the seventh form; the later family's looks); each row that meets fmt, with fmt's text TOLD by the authors' own Lean function (tested against real Go, not proved from fmt's source: count such statements apart). THE CARD IS WHAT COUNTS. Prove the row's statement (the work); the ties are given (YtbllboajhdmnhaaDoorTie.lean); close each card by the builder's one call (the guide's Derived/Test/ToyasCard.lean, 'card_holds'). Laid BY PROGRAM, IN A SANDBOX (cutbox-door.mjs). By AI agents, Wed Nov 11 2026. No macro, syntax, notation, axiom, sorry.
-/
import Derived.Test.YtbllboajhdmnhaaDoorRows
import GoSem.ClaimSeven
namespace Go.Proofs.YtbllboajhdmnhaaDoor
namespace Rows

/-- THE TIED CARD OF 'hornlaw1.PulseTells'. -/
def pulseTellsCard : Claim7 := { stood := { row := pulseTellsRow, standIns := [], harness := (true, "0e183cc233318ee8bcc8cf5674b2796e74d41e848a540968ba3c681db209bfae"), looks := true }, kinds := [], alts := [], laidByText := true, laidKinds := [.handle], laidTests := true, laidLooks := .later }
def PulseTellsCardSaid : Prop := Claim7.holds Tryd.pinned (.plain (OpenSpec.ofChange pulseTellsSpec)) pulseTellsCard

/-- THE TIED CARD OF 'hornlaw1.TreeTells'. -/
def treeTellsCard : Claim7 := { stood := { row := treeTellsRow, standIns := [], harness := (true, "0e183cc233318ee8bcc8cf5674b2796e74d41e848a540968ba3c681db209bfae"), looks := true }, kinds := [], alts := [], laidByText := true, laidKinds := [.handle], laidTests := true, laidLooks := .later }
def TreeTellsCardSaid : Prop := Claim7.holds Tryd.pinned (.plain (OpenSpec.ofChange treeTellsSpec)) treeTellsCard

/-- THE TIED CARD OF 'hornlaw1.ScaleTells'. -/
def scaleTellsCard : Claim7 := { stood := { row := scaleTellsRow, standIns := [], harness := (true, "0e183cc233318ee8bcc8cf5674b2796e74d41e848a540968ba3c681db209bfae"), looks := true }, kinds := [], alts := [], laidByText := true, laidKinds := [.handle], laidTests := true, laidLooks := .later }
def ScaleTellsCardSaid : Prop := Claim7.holds Tryd.pinned (.plain (OpenSpec.ofChange scaleTellsSpec)) scaleTellsCard

/-- THE TIED CARD OF 'hornlaw2.ShareTells'. -/
def shareTellsCard : Claim7 := { stood := { row := shareTellsRow, standIns := [], harness := (true, "0e183cc233318ee8bcc8cf5674b2796e74d41e848a540968ba3c681db209bfae"), looks := true }, kinds := [], alts := [], laidByText := true, laidKinds := [.handle], laidTests := true, laidLooks := .later }
def ShareTellsCardSaid : Prop := Claim7.holds Tryd.pinned (.plain (OpenSpec.ofChange shareTellsSpec)) shareTellsCard

/-- THE TIED CARD OF 'hornlaw4.HornNone'. -/
def hornNoneCard : Claim7 := { stood := { row := hornNoneRow, standIns := [], harness := (true, "0e183cc233318ee8bcc8cf5674b2796e74d41e848a540968ba3c681db209bfae"), looks := true }, kinds := [], alts := [], laidByText := true, laidKinds := [.handle], laidTests := true, laidLooks := .later }
def HornNoneCardSaid : Prop := Claim7.holds Tryd.pinned (.plain (OpenSpec.ofChange hornNoneSpec)) hornNoneCard

/-- THE TIED CARD OF 'hornlaw2.HornTells'. -/
def hornTellsCard : Claim7 := { stood := { row := hornTellsRow, standIns := [], harness := (true, "0e183cc233318ee8bcc8cf5674b2796e74d41e848a540968ba3c681db209bfae"), looks := true }, kinds := [], alts := [], laidByText := true, laidKinds := [.handle], laidTests := true, laidLooks := .later }
def HornTellsCardSaid : Prop := Claim7.holds Tryd.pinned (.plain (OpenSpec.ofChange hornTellsSpec)) hornTellsCard

/-- THE TIED CARD OF 'hornlaw2.HornBack'. -/
def hornBackCard : Claim7 := { stood := { row := hornBackRow, standIns := [], harness := (true, "0e183cc233318ee8bcc8cf5674b2796e74d41e848a540968ba3c681db209bfae"), looks := true }, kinds := [], alts := [], laidByText := true, laidKinds := [.handle], laidTests := true, laidLooks := .later }
def HornBackCardSaid : Prop := Claim7.holds Tryd.pinned (.plain (OpenSpec.ofChange hornBackSpec)) hornBackCard

/-- THE TIED CARD OF 'hornlaw2.WidthTells'. -/
def widthTellsCard : Claim7 := { stood := { row := widthTellsRow, standIns := [], harness := (true, "0e183cc233318ee8bcc8cf5674b2796e74d41e848a540968ba3c681db209bfae"), looks := true }, kinds := [], alts := [], laidByText := true, laidKinds := [.handle], laidTests := true, laidLooks := .later }
def WidthTellsCardSaid : Prop := Claim7.holds Tryd.pinned (.plain (OpenSpec.ofChange widthTellsSpec)) widthTellsCard

/-- THE TIED CARD OF 'hornlaw2.LearnTells'. -/
def learnTellsCard : Claim7 := { stood := { row := learnTellsRow, standIns := [], harness := (true, "0e183cc233318ee8bcc8cf5674b2796e74d41e848a540968ba3c681db209bfae"), looks := true }, kinds := [], alts := [], laidByText := true, laidKinds := [.handle], laidTests := true, laidLooks := .later }
def LearnTellsCardSaid : Prop := Claim7.holds Tryd.pinned (.plain (OpenSpec.ofChange learnTellsSpec)) learnTellsCard

/-- THE TIED CARD OF 'hornlaw1.NearTells'. -/
def nearTellsCard : Claim7 := { stood := { row := nearTellsRow, standIns := [], harness := (true, "0e183cc233318ee8bcc8cf5674b2796e74d41e848a540968ba3c681db209bfae"), looks := true }, kinds := [], alts := [], laidByText := true, laidKinds := [.handle], laidTests := true, laidLooks := .later }
def NearTellsCardSaid : Prop := Claim7.holds Tryd.pinned (.plain (OpenSpec.ofChange nearTellsSpec)) nearTellsCard

/-- THE TIED CARD OF 'hornlaw4.NearWhole'. -/
def nearWholeCard : Claim7 := { stood := { row := nearWholeRow, standIns := [], harness := (true, "0e183cc233318ee8bcc8cf5674b2796e74d41e848a540968ba3c681db209bfae"), looks := true }, kinds := [], alts := [], laidByText := true, laidKinds := [.handle], laidTests := true, laidLooks := .later }
def NearWholeCardSaid : Prop := Claim7.holds Tryd.pinned (.plain (OpenSpec.ofChange nearWholeSpec)) nearWholeCard

/-- THE TIED CARD OF 'hornlaw1.BandTells'. -/
def bandTellsCard : Claim7 := { stood := { row := bandTellsRow, standIns := [], harness := (true, "0e183cc233318ee8bcc8cf5674b2796e74d41e848a540968ba3c681db209bfae"), looks := true }, kinds := [], alts := [], laidByText := true, laidKinds := [.handle], laidTests := true, laidLooks := .later }
def BandTellsCardSaid : Prop := Claim7.holds Tryd.pinned (.plain (OpenSpec.ofChange bandTellsSpec)) bandTellsCard

/-- THE SECOND FORM's CARD OF 'hornlaw1.PulseTells'. -/
def pulseTellsUptoCard : Claim7 := { stood := { row := pulseTellsUptoRow, standIns := [], harness := (true, "0e183cc233318ee8bcc8cf5674b2796e74d41e848a540968ba3c681db209bfae"), looks := true }, kinds := [], alts := [], laidByText := true, laidKinds := [.handle], laidTests := true, laidLooks := .later }
def PulseTellsUptoCardSaid : Prop := Claim7.holds Tryd.pinned (.plain (OpenSpec.upto pulseTellsSpec)) pulseTellsUptoCard

/-- THE SECOND FORM's CARD OF 'hornlaw1.TreeTells'. -/
def treeTellsUptoCard : Claim7 := { stood := { row := treeTellsUptoRow, standIns := [], harness := (true, "0e183cc233318ee8bcc8cf5674b2796e74d41e848a540968ba3c681db209bfae"), looks := true }, kinds := [], alts := [], laidByText := true, laidKinds := [.handle], laidTests := true, laidLooks := .later }
def TreeTellsUptoCardSaid : Prop := Claim7.holds Tryd.pinned (.plain (OpenSpec.upto treeTellsSpec)) treeTellsUptoCard

/-- THE SECOND FORM's CARD OF 'hornlaw1.ScaleTells'. -/
def scaleTellsUptoCard : Claim7 := { stood := { row := scaleTellsUptoRow, standIns := [], harness := (true, "0e183cc233318ee8bcc8cf5674b2796e74d41e848a540968ba3c681db209bfae"), looks := true }, kinds := [], alts := [], laidByText := true, laidKinds := [.handle], laidTests := true, laidLooks := .later }
def ScaleTellsUptoCardSaid : Prop := Claim7.holds Tryd.pinned (.plain (OpenSpec.upto scaleTellsSpec)) scaleTellsUptoCard

/-- THE SECOND FORM's CARD OF 'hornlaw2.ShareTells'. -/
def shareTellsUptoCard : Claim7 := { stood := { row := shareTellsUptoRow, standIns := [], harness := (true, "0e183cc233318ee8bcc8cf5674b2796e74d41e848a540968ba3c681db209bfae"), looks := true }, kinds := [], alts := [], laidByText := true, laidKinds := [.handle], laidTests := true, laidLooks := .later }
def ShareTellsUptoCardSaid : Prop := Claim7.holds Tryd.pinned (.plain (OpenSpec.upto shareTellsSpec)) shareTellsUptoCard

/-- THE SECOND FORM's CARD OF 'hornlaw4.HornNone'. -/
def hornNoneUptoCard : Claim7 := { stood := { row := hornNoneUptoRow, standIns := [], harness := (true, "0e183cc233318ee8bcc8cf5674b2796e74d41e848a540968ba3c681db209bfae"), looks := true }, kinds := [], alts := [], laidByText := true, laidKinds := [.handle], laidTests := true, laidLooks := .later }
def HornNoneUptoCardSaid : Prop := Claim7.holds Tryd.pinned (.plain (OpenSpec.upto hornNoneSpec)) hornNoneUptoCard

/-- THE SECOND FORM's CARD OF 'hornlaw2.HornTells'. -/
def hornTellsUptoCard : Claim7 := { stood := { row := hornTellsUptoRow, standIns := [], harness := (true, "0e183cc233318ee8bcc8cf5674b2796e74d41e848a540968ba3c681db209bfae"), looks := true }, kinds := [], alts := [], laidByText := true, laidKinds := [.handle], laidTests := true, laidLooks := .later }
def HornTellsUptoCardSaid : Prop := Claim7.holds Tryd.pinned (.plain (OpenSpec.upto hornTellsSpec)) hornTellsUptoCard

/-- THE SECOND FORM's CARD OF 'hornlaw2.HornBack'. -/
def hornBackUptoCard : Claim7 := { stood := { row := hornBackUptoRow, standIns := [], harness := (true, "0e183cc233318ee8bcc8cf5674b2796e74d41e848a540968ba3c681db209bfae"), looks := true }, kinds := [], alts := [], laidByText := true, laidKinds := [.handle], laidTests := true, laidLooks := .later }
def HornBackUptoCardSaid : Prop := Claim7.holds Tryd.pinned (.plain (OpenSpec.upto hornBackSpec)) hornBackUptoCard

/-- THE SECOND FORM's CARD OF 'hornlaw2.WidthTells'. -/
def widthTellsUptoCard : Claim7 := { stood := { row := widthTellsUptoRow, standIns := [], harness := (true, "0e183cc233318ee8bcc8cf5674b2796e74d41e848a540968ba3c681db209bfae"), looks := true }, kinds := [], alts := [], laidByText := true, laidKinds := [.handle], laidTests := true, laidLooks := .later }
def WidthTellsUptoCardSaid : Prop := Claim7.holds Tryd.pinned (.plain (OpenSpec.upto widthTellsSpec)) widthTellsUptoCard

/-- THE SECOND FORM's CARD OF 'hornlaw2.LearnTells'. -/
def learnTellsUptoCard : Claim7 := { stood := { row := learnTellsUptoRow, standIns := [], harness := (true, "0e183cc233318ee8bcc8cf5674b2796e74d41e848a540968ba3c681db209bfae"), looks := true }, kinds := [], alts := [], laidByText := true, laidKinds := [.handle], laidTests := true, laidLooks := .later }
def LearnTellsUptoCardSaid : Prop := Claim7.holds Tryd.pinned (.plain (OpenSpec.upto learnTellsSpec)) learnTellsUptoCard

/-- THE SECOND FORM's CARD OF 'hornlaw1.NearTells'. -/
def nearTellsUptoCard : Claim7 := { stood := { row := nearTellsUptoRow, standIns := [], harness := (true, "0e183cc233318ee8bcc8cf5674b2796e74d41e848a540968ba3c681db209bfae"), looks := true }, kinds := [], alts := [], laidByText := true, laidKinds := [.handle], laidTests := true, laidLooks := .later }
def NearTellsUptoCardSaid : Prop := Claim7.holds Tryd.pinned (.plain (OpenSpec.upto nearTellsSpec)) nearTellsUptoCard

/-- THE SECOND FORM's CARD OF 'hornlaw4.NearWhole'. -/
def nearWholeUptoCard : Claim7 := { stood := { row := nearWholeUptoRow, standIns := [], harness := (true, "0e183cc233318ee8bcc8cf5674b2796e74d41e848a540968ba3c681db209bfae"), looks := true }, kinds := [], alts := [], laidByText := true, laidKinds := [.handle], laidTests := true, laidLooks := .later }
def NearWholeUptoCardSaid : Prop := Claim7.holds Tryd.pinned (.plain (OpenSpec.upto nearWholeSpec)) nearWholeUptoCard

/-- THE SECOND FORM's CARD OF 'hornlaw1.BandTells'. -/
def bandTellsUptoCard : Claim7 := { stood := { row := bandTellsUptoRow, standIns := [], harness := (true, "0e183cc233318ee8bcc8cf5674b2796e74d41e848a540968ba3c681db209bfae"), looks := true }, kinds := [], alts := [], laidByText := true, laidKinds := [.handle], laidTests := true, laidLooks := .later }
def BandTellsUptoCardSaid : Prop := Claim7.holds Tryd.pinned (.plain (OpenSpec.upto bandTellsSpec)) bandTellsUptoCard
end Rows
end Go.Proofs.YtbllboajhdmnhaaDoor
