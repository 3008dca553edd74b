/-
  DERIVED. GIVEN WITH THE SEED: THE CARDS: each row of YtfnbehjebmbbdaaDoorRows.lean that lists a variable, with what it lists TIED to the program's text (the seventh form; the later family's looks); each row that meets fmt, with fmt's text TOLD by the authors' own Lean function (tested against real Go, not proved from fmt's source: count such statements apart). THE CARD IS WHAT COUNTS. Prove the row's statement (the work); the ties are given (YtfnbehjebmbbdaaDoorTie.lean); close each card by the builder's one call (the guide's Derived/Test/ToyasCard.lean, 'card_holds'). Laid BY PROGRAM, IN A SANDBOX (cutbox-door.mjs). By AI agents, Wed Nov 11 2026. No macro, syntax, notation, axiom, sorry.
-/
import Derived.Test.YtfnbehjebmbbdaaDoorRows
import GoSem.ClaimSeven
namespace Go.Proofs.YtfnbehjebmbbdaaDoor
namespace Rows

/-- THE TIED CARD OF 'hornlaw1.PairTells'. -/
def pairTellsCard : Claim7 := { stood := { row := pairTellsRow, standIns := [], harness := (true, "62982f8de1a65b5b86e1554cd774da315bbcde81b636ea9a77fbdb753382d179"), looks := true }, kinds := [], alts := [], laidByText := true, laidKinds := [.handle], laidTests := true, laidLooks := .later }
def PairTellsCardSaid : Prop := Claim7.holds Tryd.pinned (.plain (OpenSpec.ofChange pairTellsSpec)) pairTellsCard

/-- THE TIED CARD OF 'hornlaw4.LapFlat'. -/
def lapFlatCard : Claim7 := { stood := { row := lapFlatRow, standIns := [], harness := (true, "62982f8de1a65b5b86e1554cd774da315bbcde81b636ea9a77fbdb753382d179"), looks := true }, kinds := [], alts := [], laidByText := true, laidKinds := [.handle], laidTests := true, laidLooks := .later }
def LapFlatCardSaid : Prop := Claim7.holds Tryd.pinned (.plain (OpenSpec.ofChange lapFlatSpec)) lapFlatCard

/-- THE TIED CARD OF 'hornlaw2.TankHolds'. -/
def tankHoldsCard : Claim7 := { stood := { row := tankHoldsRow, standIns := [], harness := (true, "62982f8de1a65b5b86e1554cd774da315bbcde81b636ea9a77fbdb753382d179"), looks := true }, kinds := [], alts := [], laidByText := true, laidKinds := [.handle], laidTests := true, laidLooks := .later }
def TankHoldsCardSaid : Prop := Claim7.holds Tryd.pinned (.plain (OpenSpec.ofChange tankHoldsSpec)) tankHoldsCard

/-- THE TIED CARD OF 'hornlaw2.TankTells'. -/
def tankTellsCard : Claim7 := { stood := { row := tankTellsRow, standIns := [], harness := (true, "62982f8de1a65b5b86e1554cd774da315bbcde81b636ea9a77fbdb753382d179"), looks := true }, kinds := [], alts := [], laidByText := true, laidKinds := [.handle], laidTests := true, laidLooks := .later }
def TankTellsCardSaid : Prop := Claim7.holds Tryd.pinned (.plain (OpenSpec.ofChange tankTellsSpec)) tankTellsCard

/-- THE TIED CARD OF 'hornlaw4.PulseEnds'. -/
def pulseEndsCard : Claim7 := { stood := { row := pulseEndsRow, standIns := [], harness := (true, "62982f8de1a65b5b86e1554cd774da315bbcde81b636ea9a77fbdb753382d179"), looks := true }, kinds := [], alts := [], laidByText := true, laidKinds := [.handle], laidTests := true, laidLooks := .later }
def PulseEndsCardSaid : Prop := Claim7.holds Tryd.pinned (.plain (OpenSpec.ofChange pulseEndsSpec)) pulseEndsCard

/-- THE TIED CARD OF 'hornlaw1.CountTells'. -/
def countTellsCard : Claim7 := { stood := { row := countTellsRow, standIns := [], harness := (true, "62982f8de1a65b5b86e1554cd774da315bbcde81b636ea9a77fbdb753382d179"), looks := true }, kinds := [], alts := [], laidByText := true, laidKinds := [.handle], laidTests := true, laidLooks := .later }
def CountTellsCardSaid : Prop := Claim7.holds Tryd.pinned (.plain (OpenSpec.ofChange countTellsSpec)) countTellsCard

/-- THE TIED CARD OF 'hornlaw1.GainTells'. -/
def gainTellsCard : Claim7 := { stood := { row := gainTellsRow, standIns := [], harness := (true, "62982f8de1a65b5b86e1554cd774da315bbcde81b636ea9a77fbdb753382d179"), looks := true }, kinds := [], alts := [], laidByText := true, laidKinds := [.handle], laidTests := true, laidLooks := .later }
def GainTellsCardSaid : Prop := Claim7.holds Tryd.pinned (.plain (OpenSpec.ofChange gainTellsSpec)) gainTellsCard

/-- THE TIED CARD OF 'hornlaw1.SoundTells'. -/
def soundTellsCard : Claim7 := { stood := { row := soundTellsRow, standIns := [], harness := (true, "62982f8de1a65b5b86e1554cd774da315bbcde81b636ea9a77fbdb753382d179"), looks := true }, kinds := [], alts := [], laidByText := true, laidKinds := [.handle], laidTests := true, laidLooks := .later }
def SoundTellsCardSaid : Prop := Claim7.holds Tryd.pinned (.plain (OpenSpec.ofChange soundTellsSpec)) soundTellsCard

/-- THE TIED CARD OF 'hornlaw1.LapTells'. -/
def lapTellsCard : Claim7 := { stood := { row := lapTellsRow, standIns := [], harness := (true, "62982f8de1a65b5b86e1554cd774da315bbcde81b636ea9a77fbdb753382d179"), looks := true }, kinds := [], alts := [], laidByText := true, laidKinds := [.handle], laidTests := true, laidLooks := .later }
def LapTellsCardSaid : Prop := Claim7.holds Tryd.pinned (.plain (OpenSpec.ofChange lapTellsSpec)) lapTellsCard

/-- THE TIED CARD OF 'hornlaw4.ScaleAlike'. -/
def scaleAlikeCard : Claim7 := { stood := { row := scaleAlikeRow, standIns := [], harness := (true, "62982f8de1a65b5b86e1554cd774da315bbcde81b636ea9a77fbdb753382d179"), looks := true }, kinds := [], alts := [], laidByText := true, laidKinds := [.handle], laidTests := true, laidLooks := .later }
def ScaleAlikeCardSaid : Prop := Claim7.holds Tryd.pinned (.plain (OpenSpec.ofChange scaleAlikeSpec)) scaleAlikeCard

/-- THE TIED CARD OF 'hornlaw4.WidthNone'. -/
def widthNoneCard : Claim7 := { stood := { row := widthNoneRow, standIns := [], harness := (true, "62982f8de1a65b5b86e1554cd774da315bbcde81b636ea9a77fbdb753382d179"), looks := true }, kinds := [], alts := [], laidByText := true, laidKinds := [.handle], laidTests := true, laidLooks := .later }
def WidthNoneCardSaid : Prop := Claim7.holds Tryd.pinned (.plain (OpenSpec.ofChange widthNoneSpec)) widthNoneCard

/-- THE TIED CARD OF 'hornlaw1.BandTells'. -/
def bandTellsCard : Claim7 := { stood := { row := bandTellsRow, standIns := [], harness := (true, "62982f8de1a65b5b86e1554cd774da315bbcde81b636ea9a77fbdb753382d179"), looks := true }, kinds := [], alts := [], laidByText := true, laidKinds := [.handle], laidTests := true, laidLooks := .later }
def BandTellsCardSaid : Prop := Claim7.holds Tryd.pinned (.plain (OpenSpec.ofChange bandTellsSpec)) bandTellsCard

/-- THE SECOND FORM's CARD OF 'hornlaw1.PairTells'. -/
def pairTellsUptoCard : Claim7 := { stood := { row := pairTellsUptoRow, standIns := [], harness := (true, "62982f8de1a65b5b86e1554cd774da315bbcde81b636ea9a77fbdb753382d179"), looks := true }, kinds := [], alts := [], laidByText := true, laidKinds := [.handle], laidTests := true, laidLooks := .later }
def PairTellsUptoCardSaid : Prop := Claim7.holds Tryd.pinned (.plain (OpenSpec.upto pairTellsSpec)) pairTellsUptoCard

/-- THE SECOND FORM's CARD OF 'hornlaw4.LapFlat'. -/
def lapFlatUptoCard : Claim7 := { stood := { row := lapFlatUptoRow, standIns := [], harness := (true, "62982f8de1a65b5b86e1554cd774da315bbcde81b636ea9a77fbdb753382d179"), looks := true }, kinds := [], alts := [], laidByText := true, laidKinds := [.handle], laidTests := true, laidLooks := .later }
def LapFlatUptoCardSaid : Prop := Claim7.holds Tryd.pinned (.plain (OpenSpec.upto lapFlatSpec)) lapFlatUptoCard

/-- THE SECOND FORM's CARD OF 'hornlaw2.TankHolds'. -/
def tankHoldsUptoCard : Claim7 := { stood := { row := tankHoldsUptoRow, standIns := [], harness := (true, "62982f8de1a65b5b86e1554cd774da315bbcde81b636ea9a77fbdb753382d179"), looks := true }, kinds := [], alts := [], laidByText := true, laidKinds := [.handle], laidTests := true, laidLooks := .later }
def TankHoldsUptoCardSaid : Prop := Claim7.holds Tryd.pinned (.plain (OpenSpec.upto tankHoldsSpec)) tankHoldsUptoCard

/-- THE SECOND FORM's CARD OF 'hornlaw2.TankTells'. -/
def tankTellsUptoCard : Claim7 := { stood := { row := tankTellsUptoRow, standIns := [], harness := (true, "62982f8de1a65b5b86e1554cd774da315bbcde81b636ea9a77fbdb753382d179"), looks := true }, kinds := [], alts := [], laidByText := true, laidKinds := [.handle], laidTests := true, laidLooks := .later }
def TankTellsUptoCardSaid : Prop := Claim7.holds Tryd.pinned (.plain (OpenSpec.upto tankTellsSpec)) tankTellsUptoCard

/-- THE SECOND FORM's CARD OF 'hornlaw4.PulseEnds'. -/
def pulseEndsUptoCard : Claim7 := { stood := { row := pulseEndsUptoRow, standIns := [], harness := (true, "62982f8de1a65b5b86e1554cd774da315bbcde81b636ea9a77fbdb753382d179"), looks := true }, kinds := [], alts := [], laidByText := true, laidKinds := [.handle], laidTests := true, laidLooks := .later }
def PulseEndsUptoCardSaid : Prop := Claim7.holds Tryd.pinned (.plain (OpenSpec.upto pulseEndsSpec)) pulseEndsUptoCard

/-- THE SECOND FORM's CARD OF 'hornlaw1.CountTells'. -/
def countTellsUptoCard : Claim7 := { stood := { row := countTellsUptoRow, standIns := [], harness := (true, "62982f8de1a65b5b86e1554cd774da315bbcde81b636ea9a77fbdb753382d179"), looks := true }, kinds := [], alts := [], laidByText := true, laidKinds := [.handle], laidTests := true, laidLooks := .later }
def CountTellsUptoCardSaid : Prop := Claim7.holds Tryd.pinned (.plain (OpenSpec.upto countTellsSpec)) countTellsUptoCard

/-- THE SECOND FORM's CARD OF 'hornlaw1.GainTells'. -/
def gainTellsUptoCard : Claim7 := { stood := { row := gainTellsUptoRow, standIns := [], harness := (true, "62982f8de1a65b5b86e1554cd774da315bbcde81b636ea9a77fbdb753382d179"), looks := true }, kinds := [], alts := [], laidByText := true, laidKinds := [.handle], laidTests := true, laidLooks := .later }
def GainTellsUptoCardSaid : Prop := Claim7.holds Tryd.pinned (.plain (OpenSpec.upto gainTellsSpec)) gainTellsUptoCard

/-- THE SECOND FORM's CARD OF 'hornlaw1.SoundTells'. -/
def soundTellsUptoCard : Claim7 := { stood := { row := soundTellsUptoRow, standIns := [], harness := (true, "62982f8de1a65b5b86e1554cd774da315bbcde81b636ea9a77fbdb753382d179"), looks := true }, kinds := [], alts := [], laidByText := true, laidKinds := [.handle], laidTests := true, laidLooks := .later }
def SoundTellsUptoCardSaid : Prop := Claim7.holds Tryd.pinned (.plain (OpenSpec.upto soundTellsSpec)) soundTellsUptoCard

/-- THE SECOND FORM's CARD OF 'hornlaw1.LapTells'. -/
def lapTellsUptoCard : Claim7 := { stood := { row := lapTellsUptoRow, standIns := [], harness := (true, "62982f8de1a65b5b86e1554cd774da315bbcde81b636ea9a77fbdb753382d179"), looks := true }, kinds := [], alts := [], laidByText := true, laidKinds := [.handle], laidTests := true, laidLooks := .later }
def LapTellsUptoCardSaid : Prop := Claim7.holds Tryd.pinned (.plain (OpenSpec.upto lapTellsSpec)) lapTellsUptoCard

/-- THE SECOND FORM's CARD OF 'hornlaw4.ScaleAlike'. -/
def scaleAlikeUptoCard : Claim7 := { stood := { row := scaleAlikeUptoRow, standIns := [], harness := (true, "62982f8de1a65b5b86e1554cd774da315bbcde81b636ea9a77fbdb753382d179"), looks := true }, kinds := [], alts := [], laidByText := true, laidKinds := [.handle], laidTests := true, laidLooks := .later }
def ScaleAlikeUptoCardSaid : Prop := Claim7.holds Tryd.pinned (.plain (OpenSpec.upto scaleAlikeSpec)) scaleAlikeUptoCard

/-- THE SECOND FORM's CARD OF 'hornlaw4.WidthNone'. -/
def widthNoneUptoCard : Claim7 := { stood := { row := widthNoneUptoRow, standIns := [], harness := (true, "62982f8de1a65b5b86e1554cd774da315bbcde81b636ea9a77fbdb753382d179"), looks := true }, kinds := [], alts := [], laidByText := true, laidKinds := [.handle], laidTests := true, laidLooks := .later }
def WidthNoneUptoCardSaid : Prop := Claim7.holds Tryd.pinned (.plain (OpenSpec.upto widthNoneSpec)) widthNoneUptoCard

/-- THE SECOND FORM's CARD OF 'hornlaw1.BandTells'. -/
def bandTellsUptoCard : Claim7 := { stood := { row := bandTellsUptoRow, standIns := [], harness := (true, "62982f8de1a65b5b86e1554cd774da315bbcde81b636ea9a77fbdb753382d179"), looks := true }, kinds := [], alts := [], laidByText := true, laidKinds := [.handle], laidTests := true, laidLooks := .later }
def BandTellsUptoCardSaid : Prop := Claim7.holds Tryd.pinned (.plain (OpenSpec.upto bandTellsSpec)) bandTellsUptoCard
end Rows
end Go.Proofs.YtfnbehjebmbbdaaDoor
