/-
  NARROWER THAN 'FOR EVERY INPUT', by the rows' own cells (each row's printed sentence says how): PairTells: laid · LapFlat: laid · TankHolds: laid · TankTells: laid · PulseEnds: laid · CountTells: laid · GainTells: laid · SoundTells: laid · LapTells: laid · ScaleAlike: laid · WidthNone: laid · BandTells: laid.
  DERIVED. THE GIVEN ROWS OF THIS SEAT. 12 by the template 'for every input the law returns true; each argument reads behind the call as it read before'; 0 by the template 'total and deterministic' (their statements: YtfnbehjebmbbdaaDoorTotals.lean).
  GIVEN WITH THE SEED: the statements are not yours to turn. If you find one false, say at which input.
  Laid BY PROGRAM, IN A SANDBOX (cutbox-rows.mjs): the forced cells as the released guide's own fill.sh prints them over the translation ad169089be3ab51e… (all of the seat's roots in one cut). By AI agents, Wed Nov 11 2026. No macro, syntax, notation, axiom, sorry.
-/
import Derived.Test.YtfnbehjebmbbdaaDoorChecked
import GoSem.Claim
import GoSem.ClaimJoined
import GoSem.ClaimMapViews
import Derived.JoinedTies
import Derived.KernelRfl
namespace Go.Proofs.YtfnbehjebmbbdaaDoor
/- THE CELL 'sum', in the pinned program and in every row, IS THE sha256 OF THE DUMP (.gsa) THAT YtfnbehjebmbbdaaDoorProg.lean LOADS. Nothing in Lean hashes anything: it is a label: what it is worth is what the hold of that sum in a sandbox is worth. -/
noncomputable def Tryd.pinned : Pinned := { name := "ytfnbehjebmbbdaadoor", sum := "ad169089be3ab51e3eeab822dbc082bd3455b08ae48fbd0d7e1f47f0fa82c876", checked := Tryd.checked }
namespace Rows
def none {H : Type} : Left H := { results := [], args := [] }

/- WHAT THE LISTED PACKAGE-LEVEL VARIABLES READ AS WHEN THE CALL BEGINS. Each datum BY PROGRAM (the guide's laid-datum.mjs) off the statement by which the dump's own 'gosem.cut.vars' lays the variable. In a bare row this is a premise. The card (YtfnbehjebmbbdaaDoorCards.lean) ties it to the program's text. -/
def laid_errors_errorType {H : Type} : DataW H := .iface "internal/reflectlite.rtype" (.agg [.ptr (.lit (.string [101, 114, 114, 111, 114]))])

/-- 'hornlaw1.PairTells': WHATEVER THE INPUT: true; the input reads as it did. -/
def pairTellsSpec : ChangeSpec := { name := "pairTells", fn := fun _ => fun
  | [d1, d2, d3] => { results := [.lit (.bool true)], args := [d1, d2, d3] }
  | _ => none }
def pairTellsRow : OpenClaim := { program := "ytfnbehjebmbbdaadoor", sum := "ad169089be3ab51e3eeab822dbc082bd3455b08ae48fbd0d7e1f47f0fa82c876", func := "pulsehorn/hornlaw1.PairTells", spec := "pairTells", inPlace := ["internal/reflectlite.ValueOf", "(internal/reflectlite.Value).Type", "(internal/reflectlite.Value).IsNil", "internal/reflectlite.TypeOf", "(internal/reflectlite.Value).Elem", "(internal/reflectlite.Value).Set"], unfollowed := true, recurses := true, named := ["errors.errorType"], apart := false, laid := [("errors.errorType", laid_errors_errorType)] }
def PairTellsSaid : Prop := pairTellsRow.holds Tryd.pinned (OpenSpec.ofChange pairTellsSpec)

/-- ITS FALSE NEIGHBOUR: 'it returns false'. Refute it at one input. -/
def pairTellsWrong : ChangeSpec := { name := "pairTells", fn := fun _ => fun
  | [d1, d2, d3] => { results := [.lit (.bool false)], args := [d1, d2, d3] }
  | _ => none }
def PairTellsWrongFalsely : Prop := pairTellsRow.holds Tryd.pinned (OpenSpec.ofChange pairTellsWrong)

/-- 'hornlaw4.LapFlat': WHATEVER THE INPUT: true; the input reads as it did. -/
def lapFlatSpec : ChangeSpec := { name := "lapFlat", fn := fun _ => fun
  | [d1, d2] => { results := [.lit (.bool true)], args := [d1, d2] }
  | _ => none }
def lapFlatRow : OpenClaim := { program := "ytfnbehjebmbbdaadoor", sum := "ad169089be3ab51e3eeab822dbc082bd3455b08ae48fbd0d7e1f47f0fa82c876", func := "pulsehorn/hornlaw4.LapFlat", spec := "lapFlat", inPlace := ["internal/reflectlite.ValueOf", "(internal/reflectlite.Value).Type", "(internal/reflectlite.Value).IsNil", "internal/reflectlite.TypeOf", "(internal/reflectlite.Value).Elem", "(internal/reflectlite.Value).Set"], unfollowed := true, recurses := true, named := ["errors.errorType"], apart := false, laid := [("errors.errorType", laid_errors_errorType)] }
def LapFlatSaid : Prop := lapFlatRow.holds Tryd.pinned (OpenSpec.ofChange lapFlatSpec)

/-- ITS FALSE NEIGHBOUR: 'it returns false'. Refute it at one input. -/
def lapFlatWrong : ChangeSpec := { name := "lapFlat", fn := fun _ => fun
  | [d1, d2] => { results := [.lit (.bool false)], args := [d1, d2] }
  | _ => none }
def LapFlatWrongFalsely : Prop := lapFlatRow.holds Tryd.pinned (OpenSpec.ofChange lapFlatWrong)

/-- 'hornlaw2.TankHolds': WHATEVER THE INPUT: true; the input reads as it did. -/
def tankHoldsSpec : ChangeSpec := { name := "tankHolds", fn := fun _ => fun
  | [d1, d2] => { results := [.lit (.bool true)], args := [d1, d2] }
  | _ => none }
def tankHoldsRow : OpenClaim := { program := "ytfnbehjebmbbdaadoor", sum := "ad169089be3ab51e3eeab822dbc082bd3455b08ae48fbd0d7e1f47f0fa82c876", func := "pulsehorn/hornlaw2.TankHolds", spec := "tankHolds", inPlace := ["internal/reflectlite.ValueOf", "(internal/reflectlite.Value).Type", "(internal/reflectlite.Value).IsNil", "internal/reflectlite.TypeOf", "(internal/reflectlite.Value).Elem", "(internal/reflectlite.Value).Set"], unfollowed := true, recurses := true, named := ["errors.errorType"], apart := false, laid := [("errors.errorType", laid_errors_errorType)] }
def TankHoldsSaid : Prop := tankHoldsRow.holds Tryd.pinned (OpenSpec.ofChange tankHoldsSpec)

/-- ITS FALSE NEIGHBOUR: 'it returns false'. Refute it at one input. -/
def tankHoldsWrong : ChangeSpec := { name := "tankHolds", fn := fun _ => fun
  | [d1, d2] => { results := [.lit (.bool false)], args := [d1, d2] }
  | _ => none }
def TankHoldsWrongFalsely : Prop := tankHoldsRow.holds Tryd.pinned (OpenSpec.ofChange tankHoldsWrong)

/-- 'hornlaw2.TankTells': WHATEVER THE INPUT: true; the input reads as it did. -/
def tankTellsSpec : ChangeSpec := { name := "tankTells", fn := fun _ => fun
  | [d1, d2, d3] => { results := [.lit (.bool true)], args := [d1, d2, d3] }
  | _ => none }
def tankTellsRow : OpenClaim := { program := "ytfnbehjebmbbdaadoor", sum := "ad169089be3ab51e3eeab822dbc082bd3455b08ae48fbd0d7e1f47f0fa82c876", func := "pulsehorn/hornlaw2.TankTells", spec := "tankTells", inPlace := ["internal/reflectlite.ValueOf", "(internal/reflectlite.Value).Type", "(internal/reflectlite.Value).IsNil", "internal/reflectlite.TypeOf", "(internal/reflectlite.Value).Elem", "(internal/reflectlite.Value).Set"], unfollowed := true, recurses := true, named := ["errors.errorType"], apart := false, laid := [("errors.errorType", laid_errors_errorType)] }
def TankTellsSaid : Prop := tankTellsRow.holds Tryd.pinned (OpenSpec.ofChange tankTellsSpec)

/-- ITS FALSE NEIGHBOUR: 'it returns false'. Refute it at one input. -/
def tankTellsWrong : ChangeSpec := { name := "tankTells", fn := fun _ => fun
  | [d1, d2, d3] => { results := [.lit (.bool false)], args := [d1, d2, d3] }
  | _ => none }
def TankTellsWrongFalsely : Prop := tankTellsRow.holds Tryd.pinned (OpenSpec.ofChange tankTellsWrong)

/-- 'hornlaw4.PulseEnds': WHATEVER THE INPUT: true; the input reads as it did. -/
def pulseEndsSpec : ChangeSpec := { name := "pulseEnds", fn := fun _ => fun
  | [d1, d2] => { results := [.lit (.bool true)], args := [d1, d2] }
  | _ => none }
def pulseEndsRow : OpenClaim := { program := "ytfnbehjebmbbdaadoor", sum := "ad169089be3ab51e3eeab822dbc082bd3455b08ae48fbd0d7e1f47f0fa82c876", func := "pulsehorn/hornlaw4.PulseEnds", spec := "pulseEnds", inPlace := ["internal/reflectlite.ValueOf", "(internal/reflectlite.Value).Type", "(internal/reflectlite.Value).IsNil", "internal/reflectlite.TypeOf", "(internal/reflectlite.Value).Elem", "(internal/reflectlite.Value).Set"], unfollowed := true, recurses := true, named := ["errors.errorType"], apart := false, laid := [("errors.errorType", laid_errors_errorType)] }
def PulseEndsSaid : Prop := pulseEndsRow.holds Tryd.pinned (OpenSpec.ofChange pulseEndsSpec)

/-- ITS FALSE NEIGHBOUR: 'it returns false'. Refute it at one input. -/
def pulseEndsWrong : ChangeSpec := { name := "pulseEnds", fn := fun _ => fun
  | [d1, d2] => { results := [.lit (.bool false)], args := [d1, d2] }
  | _ => none }
def PulseEndsWrongFalsely : Prop := pulseEndsRow.holds Tryd.pinned (OpenSpec.ofChange pulseEndsWrong)

/-- 'hornlaw1.CountTells': WHATEVER THE INPUT: true; the input reads as it did. -/
def countTellsSpec : ChangeSpec := { name := "countTells", fn := fun _ => fun
  | [d1, d2] => { results := [.lit (.bool true)], args := [d1, d2] }
  | _ => none }
def countTellsRow : OpenClaim := { program := "ytfnbehjebmbbdaadoor", sum := "ad169089be3ab51e3eeab822dbc082bd3455b08ae48fbd0d7e1f47f0fa82c876", func := "pulsehorn/hornlaw1.CountTells", spec := "countTells", inPlace := ["internal/reflectlite.ValueOf", "(internal/reflectlite.Value).Type", "(internal/reflectlite.Value).IsNil", "internal/reflectlite.TypeOf", "(internal/reflectlite.Value).Elem", "(internal/reflectlite.Value).Set"], unfollowed := true, recurses := true, named := ["errors.errorType"], apart := false, laid := [("errors.errorType", laid_errors_errorType)] }
def CountTellsSaid : Prop := countTellsRow.holds Tryd.pinned (OpenSpec.ofChange countTellsSpec)

/-- ITS FALSE NEIGHBOUR: 'it returns false'. Refute it at one input. -/
def countTellsWrong : ChangeSpec := { name := "countTells", fn := fun _ => fun
  | [d1, d2] => { results := [.lit (.bool false)], args := [d1, d2] }
  | _ => none }
def CountTellsWrongFalsely : Prop := countTellsRow.holds Tryd.pinned (OpenSpec.ofChange countTellsWrong)

/-- 'hornlaw1.GainTells': WHATEVER THE INPUT: true; the input reads as it did. -/
def gainTellsSpec : ChangeSpec := { name := "gainTells", fn := fun _ => fun
  | [d1, d2] => { results := [.lit (.bool true)], args := [d1, d2] }
  | _ => none }
def gainTellsRow : OpenClaim := { program := "ytfnbehjebmbbdaadoor", sum := "ad169089be3ab51e3eeab822dbc082bd3455b08ae48fbd0d7e1f47f0fa82c876", func := "pulsehorn/hornlaw1.GainTells", spec := "gainTells", inPlace := ["internal/reflectlite.ValueOf", "(internal/reflectlite.Value).Type", "(internal/reflectlite.Value).IsNil", "internal/reflectlite.TypeOf", "(internal/reflectlite.Value).Elem", "(internal/reflectlite.Value).Set"], unfollowed := true, recurses := true, named := ["errors.errorType"], apart := false, laid := [("errors.errorType", laid_errors_errorType)] }
def GainTellsSaid : Prop := gainTellsRow.holds Tryd.pinned (OpenSpec.ofChange gainTellsSpec)

/-- ITS FALSE NEIGHBOUR: 'it returns false'. Refute it at one input. -/
def gainTellsWrong : ChangeSpec := { name := "gainTells", fn := fun _ => fun
  | [d1, d2] => { results := [.lit (.bool false)], args := [d1, d2] }
  | _ => none }
def GainTellsWrongFalsely : Prop := gainTellsRow.holds Tryd.pinned (OpenSpec.ofChange gainTellsWrong)

/-- 'hornlaw1.SoundTells': WHATEVER THE INPUT: true; the input reads as it did. -/
def soundTellsSpec : ChangeSpec := { name := "soundTells", fn := fun _ => fun
  | [d1, d2] => { results := [.lit (.bool true)], args := [d1, d2] }
  | _ => none }
def soundTellsRow : OpenClaim := { program := "ytfnbehjebmbbdaadoor", sum := "ad169089be3ab51e3eeab822dbc082bd3455b08ae48fbd0d7e1f47f0fa82c876", func := "pulsehorn/hornlaw1.SoundTells", spec := "soundTells", inPlace := ["internal/reflectlite.ValueOf", "(internal/reflectlite.Value).Type", "(internal/reflectlite.Value).IsNil", "internal/reflectlite.TypeOf", "(internal/reflectlite.Value).Elem", "(internal/reflectlite.Value).Set"], unfollowed := true, recurses := true, named := ["errors.errorType"], apart := false, laid := [("errors.errorType", laid_errors_errorType)] }
def SoundTellsSaid : Prop := soundTellsRow.holds Tryd.pinned (OpenSpec.ofChange soundTellsSpec)

/-- ITS FALSE NEIGHBOUR: 'it returns false'. Refute it at one input. -/
def soundTellsWrong : ChangeSpec := { name := "soundTells", fn := fun _ => fun
  | [d1, d2] => { results := [.lit (.bool false)], args := [d1, d2] }
  | _ => none }
def SoundTellsWrongFalsely : Prop := soundTellsRow.holds Tryd.pinned (OpenSpec.ofChange soundTellsWrong)

/-- 'hornlaw1.LapTells': WHATEVER THE INPUT: true; the input reads as it did. -/
def lapTellsSpec : ChangeSpec := { name := "lapTells", fn := fun _ => fun
  | [d] => { results := [.lit (.bool true)], args := [d] }
  | _ => none }
def lapTellsRow : OpenClaim := { program := "ytfnbehjebmbbdaadoor", sum := "ad169089be3ab51e3eeab822dbc082bd3455b08ae48fbd0d7e1f47f0fa82c876", func := "pulsehorn/hornlaw1.LapTells", spec := "lapTells", inPlace := ["internal/reflectlite.ValueOf", "(internal/reflectlite.Value).Type", "(internal/reflectlite.Value).IsNil", "internal/reflectlite.TypeOf", "(internal/reflectlite.Value).Elem", "(internal/reflectlite.Value).Set"], unfollowed := true, recurses := true, named := ["errors.errorType"], apart := false, laid := [("errors.errorType", laid_errors_errorType)] }
def LapTellsSaid : Prop := lapTellsRow.holds Tryd.pinned (OpenSpec.ofChange lapTellsSpec)

/-- ITS FALSE NEIGHBOUR: 'it returns false'. Refute it at one input. -/
def lapTellsWrong : ChangeSpec := { name := "lapTells", fn := fun _ => fun
  | [d] => { results := [.lit (.bool false)], args := [d] }
  | _ => none }
def LapTellsWrongFalsely : Prop := lapTellsRow.holds Tryd.pinned (OpenSpec.ofChange lapTellsWrong)

/-- 'hornlaw4.ScaleAlike': WHATEVER THE INPUT: true; the input reads as it did. -/
def scaleAlikeSpec : ChangeSpec := { name := "scaleAlike", fn := fun _ => fun
  | [d1, d2] => { results := [.lit (.bool true)], args := [d1, d2] }
  | _ => none }
def scaleAlikeRow : OpenClaim := { program := "ytfnbehjebmbbdaadoor", sum := "ad169089be3ab51e3eeab822dbc082bd3455b08ae48fbd0d7e1f47f0fa82c876", func := "pulsehorn/hornlaw4.ScaleAlike", spec := "scaleAlike", inPlace := ["internal/reflectlite.ValueOf", "(internal/reflectlite.Value).Type", "(internal/reflectlite.Value).IsNil", "internal/reflectlite.TypeOf", "(internal/reflectlite.Value).Elem", "(internal/reflectlite.Value).Set"], unfollowed := true, recurses := true, named := ["errors.errorType"], apart := false, laid := [("errors.errorType", laid_errors_errorType)] }
def ScaleAlikeSaid : Prop := scaleAlikeRow.holds Tryd.pinned (OpenSpec.ofChange scaleAlikeSpec)

/-- ITS FALSE NEIGHBOUR: 'it returns false'. Refute it at one input. -/
def scaleAlikeWrong : ChangeSpec := { name := "scaleAlike", fn := fun _ => fun
  | [d1, d2] => { results := [.lit (.bool false)], args := [d1, d2] }
  | _ => none }
def ScaleAlikeWrongFalsely : Prop := scaleAlikeRow.holds Tryd.pinned (OpenSpec.ofChange scaleAlikeWrong)

/-- 'hornlaw4.WidthNone': WHATEVER THE INPUT: true; the input reads as it did. -/
def widthNoneSpec : ChangeSpec := { name := "widthNone", fn := fun _ => fun
  | [d1, d2] => { results := [.lit (.bool true)], args := [d1, d2] }
  | _ => none }
def widthNoneRow : OpenClaim := { program := "ytfnbehjebmbbdaadoor", sum := "ad169089be3ab51e3eeab822dbc082bd3455b08ae48fbd0d7e1f47f0fa82c876", func := "pulsehorn/hornlaw4.WidthNone", spec := "widthNone", inPlace := ["internal/reflectlite.ValueOf", "(internal/reflectlite.Value).Type", "(internal/reflectlite.Value).IsNil", "internal/reflectlite.TypeOf", "(internal/reflectlite.Value).Elem", "(internal/reflectlite.Value).Set"], unfollowed := true, recurses := true, named := ["errors.errorType"], apart := false, laid := [("errors.errorType", laid_errors_errorType)] }
def WidthNoneSaid : Prop := widthNoneRow.holds Tryd.pinned (OpenSpec.ofChange widthNoneSpec)

/-- ITS FALSE NEIGHBOUR: 'it returns false'. Refute it at one input. -/
def widthNoneWrong : ChangeSpec := { name := "widthNone", fn := fun _ => fun
  | [d1, d2] => { results := [.lit (.bool false)], args := [d1, d2] }
  | _ => none }
def WidthNoneWrongFalsely : Prop := widthNoneRow.holds Tryd.pinned (OpenSpec.ofChange widthNoneWrong)

/-- 'hornlaw1.BandTells': WHATEVER THE INPUT: true; the input reads as it did. -/
def bandTellsSpec : ChangeSpec := { name := "bandTells", fn := fun _ => fun
  | [d1, d2, d3] => { results := [.lit (.bool true)], args := [d1, d2, d3] }
  | _ => none }
def bandTellsRow : OpenClaim := { program := "ytfnbehjebmbbdaadoor", sum := "ad169089be3ab51e3eeab822dbc082bd3455b08ae48fbd0d7e1f47f0fa82c876", func := "pulsehorn/hornlaw1.BandTells", spec := "bandTells", inPlace := ["internal/reflectlite.ValueOf", "(internal/reflectlite.Value).Type", "(internal/reflectlite.Value).IsNil", "internal/reflectlite.TypeOf", "(internal/reflectlite.Value).Elem", "(internal/reflectlite.Value).Set"], unfollowed := true, recurses := true, named := ["errors.errorType"], apart := false, laid := [("errors.errorType", laid_errors_errorType)] }
def BandTellsSaid : Prop := bandTellsRow.holds Tryd.pinned (OpenSpec.ofChange bandTellsSpec)

/-- ITS FALSE NEIGHBOUR: 'it returns false'. Refute it at one input. -/
def bandTellsWrong : ChangeSpec := { name := "bandTells", fn := fun _ => fun
  | [d1, d2, d3] => { results := [.lit (.bool false)], args := [d1, d2, d3] }
  | _ => none }
def BandTellsWrongFalsely : Prop := bandTellsRow.holds Tryd.pinned (OpenSpec.ofChange bandTellsWrong)

/- THE SECOND FORM. 'bulk': how many values and letters a reading holds, each counted each time it is reached (what is shared counts as often as it is met; a slice's spare places count too). A statement '..UptoSaid' is the law's where the arguments, and the package variables that the reading takes, are together of bulk at most 1048576: NARROWER than '..Said'. Prove '..Said' where nothing that the law and all that it calls make is longer than what came in: it says more and counts as full. Else prove '..UptoSaid'. A law counts once. -/
mutual
def uptoBulk {H : Type} : DataW H → Nat
  | .lit (.string bytes) => bytes.length + 1
  | .lit _ => 1
  | .nil => 1
  | .ptr d => uptoBulk d + 1
  | .slice elems spare => uptoBulkAll elems + uptoBulkAll spare + 1
  | .agg parts => uptoBulkAll parts + 1
  | .iface _ d => uptoBulk d + 1
  | .map entries => uptoBulkEntries entries + 1
  | .held _ => 1
def uptoBulkAll {H : Type} : List (DataW H) → Nat
  | [] => 0
  | d :: r => uptoBulk d + uptoBulkAll r
def uptoBulkEntries {H : Type} : List (Lit × DataW H) → Nat
  | [] => 0
  | x :: r => uptoBulkEntry x + uptoBulkEntries r
def uptoBulkEntry {H : Type} : Lit × DataW H → Nat
  | (.string bytes, d) => bytes.length + uptoBulk d + 1
  | (_, d) => uptoBulk d + 1
 end
def uptoSmall : (H : Type) → List (DataW H) → Bool := fun _ ds => decide (uptoBulkAll ds ≤ 1048576)
def OpenSpec.upto (s : _root_.Go.ChangeSpec) : _root_.Go.OpenSpec := { _root_.Go.OpenSpec.ofChange s with cond := some uptoSmall }

/-- 'hornlaw1.PairTells', WHERE WHAT IT READS IS OF BULK AT MOST 1048576: true; the input reads as it did. -/
def pairTellsUptoRow : OpenClaim := { program := "ytfnbehjebmbbdaadoor", sum := "ad169089be3ab51e3eeab822dbc082bd3455b08ae48fbd0d7e1f47f0fa82c876", func := "pulsehorn/hornlaw1.PairTells", spec := "pairTells", inPlace := ["internal/reflectlite.ValueOf", "(internal/reflectlite.Value).Type", "(internal/reflectlite.Value).IsNil", "internal/reflectlite.TypeOf", "(internal/reflectlite.Value).Elem", "(internal/reflectlite.Value).Set"], unfollowed := true, recurses := true, named := ["errors.errorType"], apart := false, laid := [("errors.errorType", laid_errors_errorType)], narrowed := true }
def PairTellsUptoSaid : Prop := pairTellsUptoRow.holds Tryd.pinned (OpenSpec.upto pairTellsSpec)

/-- 'hornlaw4.LapFlat', WHERE WHAT IT READS IS OF BULK AT MOST 1048576: true; the input reads as it did. -/
def lapFlatUptoRow : OpenClaim := { program := "ytfnbehjebmbbdaadoor", sum := "ad169089be3ab51e3eeab822dbc082bd3455b08ae48fbd0d7e1f47f0fa82c876", func := "pulsehorn/hornlaw4.LapFlat", spec := "lapFlat", inPlace := ["internal/reflectlite.ValueOf", "(internal/reflectlite.Value).Type", "(internal/reflectlite.Value).IsNil", "internal/reflectlite.TypeOf", "(internal/reflectlite.Value).Elem", "(internal/reflectlite.Value).Set"], unfollowed := true, recurses := true, named := ["errors.errorType"], apart := false, laid := [("errors.errorType", laid_errors_errorType)], narrowed := true }
def LapFlatUptoSaid : Prop := lapFlatUptoRow.holds Tryd.pinned (OpenSpec.upto lapFlatSpec)

/-- 'hornlaw2.TankHolds', WHERE WHAT IT READS IS OF BULK AT MOST 1048576: true; the input reads as it did. -/
def tankHoldsUptoRow : OpenClaim := { program := "ytfnbehjebmbbdaadoor", sum := "ad169089be3ab51e3eeab822dbc082bd3455b08ae48fbd0d7e1f47f0fa82c876", func := "pulsehorn/hornlaw2.TankHolds", spec := "tankHolds", inPlace := ["internal/reflectlite.ValueOf", "(internal/reflectlite.Value).Type", "(internal/reflectlite.Value).IsNil", "internal/reflectlite.TypeOf", "(internal/reflectlite.Value).Elem", "(internal/reflectlite.Value).Set"], unfollowed := true, recurses := true, named := ["errors.errorType"], apart := false, laid := [("errors.errorType", laid_errors_errorType)], narrowed := true }
def TankHoldsUptoSaid : Prop := tankHoldsUptoRow.holds Tryd.pinned (OpenSpec.upto tankHoldsSpec)

/-- 'hornlaw2.TankTells', WHERE WHAT IT READS IS OF BULK AT MOST 1048576: true; the input reads as it did. -/
def tankTellsUptoRow : OpenClaim := { program := "ytfnbehjebmbbdaadoor", sum := "ad169089be3ab51e3eeab822dbc082bd3455b08ae48fbd0d7e1f47f0fa82c876", func := "pulsehorn/hornlaw2.TankTells", spec := "tankTells", inPlace := ["internal/reflectlite.ValueOf", "(internal/reflectlite.Value).Type", "(internal/reflectlite.Value).IsNil", "internal/reflectlite.TypeOf", "(internal/reflectlite.Value).Elem", "(internal/reflectlite.Value).Set"], unfollowed := true, recurses := true, named := ["errors.errorType"], apart := false, laid := [("errors.errorType", laid_errors_errorType)], narrowed := true }
def TankTellsUptoSaid : Prop := tankTellsUptoRow.holds Tryd.pinned (OpenSpec.upto tankTellsSpec)

/-- 'hornlaw4.PulseEnds', WHERE WHAT IT READS IS OF BULK AT MOST 1048576: true; the input reads as it did. -/
def pulseEndsUptoRow : OpenClaim := { program := "ytfnbehjebmbbdaadoor", sum := "ad169089be3ab51e3eeab822dbc082bd3455b08ae48fbd0d7e1f47f0fa82c876", func := "pulsehorn/hornlaw4.PulseEnds", spec := "pulseEnds", inPlace := ["internal/reflectlite.ValueOf", "(internal/reflectlite.Value).Type", "(internal/reflectlite.Value).IsNil", "internal/reflectlite.TypeOf", "(internal/reflectlite.Value).Elem", "(internal/reflectlite.Value).Set"], unfollowed := true, recurses := true, named := ["errors.errorType"], apart := false, laid := [("errors.errorType", laid_errors_errorType)], narrowed := true }
def PulseEndsUptoSaid : Prop := pulseEndsUptoRow.holds Tryd.pinned (OpenSpec.upto pulseEndsSpec)

/-- 'hornlaw1.CountTells', WHERE WHAT IT READS IS OF BULK AT MOST 1048576: true; the input reads as it did. -/
def countTellsUptoRow : OpenClaim := { program := "ytfnbehjebmbbdaadoor", sum := "ad169089be3ab51e3eeab822dbc082bd3455b08ae48fbd0d7e1f47f0fa82c876", func := "pulsehorn/hornlaw1.CountTells", spec := "countTells", inPlace := ["internal/reflectlite.ValueOf", "(internal/reflectlite.Value).Type", "(internal/reflectlite.Value).IsNil", "internal/reflectlite.TypeOf", "(internal/reflectlite.Value).Elem", "(internal/reflectlite.Value).Set"], unfollowed := true, recurses := true, named := ["errors.errorType"], apart := false, laid := [("errors.errorType", laid_errors_errorType)], narrowed := true }
def CountTellsUptoSaid : Prop := countTellsUptoRow.holds Tryd.pinned (OpenSpec.upto countTellsSpec)

/-- 'hornlaw1.GainTells', WHERE WHAT IT READS IS OF BULK AT MOST 1048576: true; the input reads as it did. -/
def gainTellsUptoRow : OpenClaim := { program := "ytfnbehjebmbbdaadoor", sum := "ad169089be3ab51e3eeab822dbc082bd3455b08ae48fbd0d7e1f47f0fa82c876", func := "pulsehorn/hornlaw1.GainTells", spec := "gainTells", inPlace := ["internal/reflectlite.ValueOf", "(internal/reflectlite.Value).Type", "(internal/reflectlite.Value).IsNil", "internal/reflectlite.TypeOf", "(internal/reflectlite.Value).Elem", "(internal/reflectlite.Value).Set"], unfollowed := true, recurses := true, named := ["errors.errorType"], apart := false, laid := [("errors.errorType", laid_errors_errorType)], narrowed := true }
def GainTellsUptoSaid : Prop := gainTellsUptoRow.holds Tryd.pinned (OpenSpec.upto gainTellsSpec)

/-- 'hornlaw1.SoundTells', WHERE WHAT IT READS IS OF BULK AT MOST 1048576: true; the input reads as it did. -/
def soundTellsUptoRow : OpenClaim := { program := "ytfnbehjebmbbdaadoor", sum := "ad169089be3ab51e3eeab822dbc082bd3455b08ae48fbd0d7e1f47f0fa82c876", func := "pulsehorn/hornlaw1.SoundTells", spec := "soundTells", inPlace := ["internal/reflectlite.ValueOf", "(internal/reflectlite.Value).Type", "(internal/reflectlite.Value).IsNil", "internal/reflectlite.TypeOf", "(internal/reflectlite.Value).Elem", "(internal/reflectlite.Value).Set"], unfollowed := true, recurses := true, named := ["errors.errorType"], apart := false, laid := [("errors.errorType", laid_errors_errorType)], narrowed := true }
def SoundTellsUptoSaid : Prop := soundTellsUptoRow.holds Tryd.pinned (OpenSpec.upto soundTellsSpec)

/-- 'hornlaw1.LapTells', WHERE WHAT IT READS IS OF BULK AT MOST 1048576: true; the input reads as it did. -/
def lapTellsUptoRow : OpenClaim := { program := "ytfnbehjebmbbdaadoor", sum := "ad169089be3ab51e3eeab822dbc082bd3455b08ae48fbd0d7e1f47f0fa82c876", func := "pulsehorn/hornlaw1.LapTells", spec := "lapTells", inPlace := ["internal/reflectlite.ValueOf", "(internal/reflectlite.Value).Type", "(internal/reflectlite.Value).IsNil", "internal/reflectlite.TypeOf", "(internal/reflectlite.Value).Elem", "(internal/reflectlite.Value).Set"], unfollowed := true, recurses := true, named := ["errors.errorType"], apart := false, laid := [("errors.errorType", laid_errors_errorType)], narrowed := true }
def LapTellsUptoSaid : Prop := lapTellsUptoRow.holds Tryd.pinned (OpenSpec.upto lapTellsSpec)

/-- 'hornlaw4.ScaleAlike', WHERE WHAT IT READS IS OF BULK AT MOST 1048576: true; the input reads as it did. -/
def scaleAlikeUptoRow : OpenClaim := { program := "ytfnbehjebmbbdaadoor", sum := "ad169089be3ab51e3eeab822dbc082bd3455b08ae48fbd0d7e1f47f0fa82c876", func := "pulsehorn/hornlaw4.ScaleAlike", spec := "scaleAlike", inPlace := ["internal/reflectlite.ValueOf", "(internal/reflectlite.Value).Type", "(internal/reflectlite.Value).IsNil", "internal/reflectlite.TypeOf", "(internal/reflectlite.Value).Elem", "(internal/reflectlite.Value).Set"], unfollowed := true, recurses := true, named := ["errors.errorType"], apart := false, laid := [("errors.errorType", laid_errors_errorType)], narrowed := true }
def ScaleAlikeUptoSaid : Prop := scaleAlikeUptoRow.holds Tryd.pinned (OpenSpec.upto scaleAlikeSpec)

/-- 'hornlaw4.WidthNone', WHERE WHAT IT READS IS OF BULK AT MOST 1048576: true; the input reads as it did. -/
def widthNoneUptoRow : OpenClaim := { program := "ytfnbehjebmbbdaadoor", sum := "ad169089be3ab51e3eeab822dbc082bd3455b08ae48fbd0d7e1f47f0fa82c876", func := "pulsehorn/hornlaw4.WidthNone", spec := "widthNone", inPlace := ["internal/reflectlite.ValueOf", "(internal/reflectlite.Value).Type", "(internal/reflectlite.Value).IsNil", "internal/reflectlite.TypeOf", "(internal/reflectlite.Value).Elem", "(internal/reflectlite.Value).Set"], unfollowed := true, recurses := true, named := ["errors.errorType"], apart := false, laid := [("errors.errorType", laid_errors_errorType)], narrowed := true }
def WidthNoneUptoSaid : Prop := widthNoneUptoRow.holds Tryd.pinned (OpenSpec.upto widthNoneSpec)

/-- 'hornlaw1.BandTells', WHERE WHAT IT READS IS OF BULK AT MOST 1048576: true; the input reads as it did. -/
def bandTellsUptoRow : OpenClaim := { program := "ytfnbehjebmbbdaadoor", sum := "ad169089be3ab51e3eeab822dbc082bd3455b08ae48fbd0d7e1f47f0fa82c876", func := "pulsehorn/hornlaw1.BandTells", spec := "bandTells", inPlace := ["internal/reflectlite.ValueOf", "(internal/reflectlite.Value).Type", "(internal/reflectlite.Value).IsNil", "internal/reflectlite.TypeOf", "(internal/reflectlite.Value).Elem", "(internal/reflectlite.Value).Set"], unfollowed := true, recurses := true, named := ["errors.errorType"], apart := false, laid := [("errors.errorType", laid_errors_errorType)], narrowed := true }
def BandTellsUptoSaid : Prop := bandTellsUptoRow.holds Tryd.pinned (OpenSpec.upto bandTellsSpec)

end Rows
end Go.Proofs.YtfnbehjebmbbdaaDoor
