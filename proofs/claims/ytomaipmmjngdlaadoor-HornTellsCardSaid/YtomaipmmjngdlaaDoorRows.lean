/-
  NARROWER THAN 'FOR EVERY INPUT', by the rows' own cells (each row's printed sentence says how): HornNone: laid · HornTells: laid · HornBack: laid · WidthTells: laid · LearnTells: laid.
  DERIVED. THE GIVEN ROWS OF THIS SEAT. 5 by the template 'for every input the law returns true; each argument reads behind the call as it read before'; 0 by the template 'total and deterministic' (their statements: YtomaipmmjngdlaaDoorTotals.lean).
  GIVEN WITH THE SEED: the statements are not yours to turn. If you find one false, say at which input.
  Laid BY PROGRAM, IN A SANDBOX (cutbox-rows.mjs): the forced cells as the released guide's own fill.sh prints them over the translation a9d35d5655b0e7a9… (all of the seat's roots in one cut). By AI agents, Wed Nov 11 2026. No macro, syntax, notation, axiom, sorry.
-/
import Derived.Test.YtomaipmmjngdlaaDoorChecked
import GoSem.Claim
import GoSem.ClaimJoined
import GoSem.ClaimMapViews
import Derived.JoinedTies
import Derived.KernelRfl
namespace Go.Proofs.YtomaipmmjngdlaaDoor
/- THE CELL 'sum', in the pinned program and in every row, IS THE sha256 OF THE DUMP (.gsa) THAT YtomaipmmjngdlaaDoorProg.lean LOADS. Nothing in Lean hashes anything: it is a label: what it is worth is what the hold of that sum in a sandbox is worth. -/
noncomputable def Tryd.pinned : Pinned := { name := "ytomaipmmjngdlaadoor", sum := "a9d35d5655b0e7a9bbf62c7faa0dca1dfbff3a4c0cc2119c483ce836afc73d27", checked := Tryd.checked }
namespace Rows
def none {H : Type} : Left H := { results := [], args := [] }

/- WHAT THE LISTED PACKAGE-LEVEL VARIABLES READ AS WHEN THE CALL BEGINS. Each datum BY PROGRAM (the guide's laid-datum.mjs) off the statement by which the dump's own 'gosem.cut.vars' lays the variable. In a bare row this is a premise. The card (YtomaipmmjngdlaaDoorCards.lean) ties it to the program's text. -/
def laid_errors_errorType {H : Type} : DataW H := .iface "internal/reflectlite.rtype" (.agg [.ptr (.lit (.string [101, 114, 114, 111, 114]))])

/-- 'hornlaw4.HornNone': WHATEVER THE INPUT: true; the input reads as it did. -/
def hornNoneSpec : ChangeSpec := { name := "hornNone", fn := fun _ => fun
  | [d] => { results := [.lit (.bool true)], args := [d] }
  | _ => none }
def hornNoneRow : OpenClaim := { program := "ytomaipmmjngdlaadoor", sum := "a9d35d5655b0e7a9bbf62c7faa0dca1dfbff3a4c0cc2119c483ce836afc73d27", func := "pulsehorn/hornlaw4.HornNone", spec := "hornNone", inPlace := ["internal/reflectlite.ValueOf", "(internal/reflectlite.Value).Type", "(internal/reflectlite.Value).IsNil", "internal/reflectlite.TypeOf", "(internal/reflectlite.Value).Elem", "(internal/reflectlite.Value).Set"], unfollowed := true, recurses := true, named := ["errors.errorType"], apart := false, laid := [("errors.errorType", laid_errors_errorType)] }
def HornNoneSaid : Prop := hornNoneRow.holds Tryd.pinned (OpenSpec.ofChange hornNoneSpec)

/-- ITS FALSE NEIGHBOUR: 'it returns false'. Refute it at one input. -/
def hornNoneWrong : ChangeSpec := { name := "hornNone", fn := fun _ => fun
  | [d] => { results := [.lit (.bool false)], args := [d] }
  | _ => none }
def HornNoneWrongFalsely : Prop := hornNoneRow.holds Tryd.pinned (OpenSpec.ofChange hornNoneWrong)

/-- 'hornlaw2.HornTells': WHATEVER THE INPUT: true; the input reads as it did. -/
def hornTellsSpec : ChangeSpec := { name := "hornTells", fn := fun _ => fun
  | [d1, d2, d3, d4] => { results := [.lit (.bool true)], args := [d1, d2, d3, d4] }
  | _ => none }
def hornTellsRow : OpenClaim := { program := "ytomaipmmjngdlaadoor", sum := "a9d35d5655b0e7a9bbf62c7faa0dca1dfbff3a4c0cc2119c483ce836afc73d27", func := "pulsehorn/hornlaw2.HornTells", spec := "hornTells", inPlace := ["internal/reflectlite.ValueOf", "(internal/reflectlite.Value).Type", "(internal/reflectlite.Value).IsNil", "internal/reflectlite.TypeOf", "(internal/reflectlite.Value).Elem", "(internal/reflectlite.Value).Set"], unfollowed := true, recurses := true, named := ["errors.errorType"], apart := false, laid := [("errors.errorType", laid_errors_errorType)] }
def HornTellsSaid : Prop := hornTellsRow.holds Tryd.pinned (OpenSpec.ofChange hornTellsSpec)

/-- ITS FALSE NEIGHBOUR: 'it returns false'. Refute it at one input. -/
def hornTellsWrong : ChangeSpec := { name := "hornTells", fn := fun _ => fun
  | [d1, d2, d3, d4] => { results := [.lit (.bool false)], args := [d1, d2, d3, d4] }
  | _ => none }
def HornTellsWrongFalsely : Prop := hornTellsRow.holds Tryd.pinned (OpenSpec.ofChange hornTellsWrong)

/-- 'hornlaw2.HornBack': WHATEVER THE INPUT: true; the input reads as it did. -/
def hornBackSpec : ChangeSpec := { name := "hornBack", fn := fun _ => fun
  | [d1, d2, d3, d4] => { results := [.lit (.bool true)], args := [d1, d2, d3, d4] }
  | _ => none }
def hornBackRow : OpenClaim := { program := "ytomaipmmjngdlaadoor", sum := "a9d35d5655b0e7a9bbf62c7faa0dca1dfbff3a4c0cc2119c483ce836afc73d27", func := "pulsehorn/hornlaw2.HornBack", spec := "hornBack", inPlace := ["internal/reflectlite.ValueOf", "(internal/reflectlite.Value).Type", "(internal/reflectlite.Value).IsNil", "internal/reflectlite.TypeOf", "(internal/reflectlite.Value).Elem", "(internal/reflectlite.Value).Set"], unfollowed := true, recurses := true, named := ["errors.errorType"], apart := false, laid := [("errors.errorType", laid_errors_errorType)] }
def HornBackSaid : Prop := hornBackRow.holds Tryd.pinned (OpenSpec.ofChange hornBackSpec)

/-- ITS FALSE NEIGHBOUR: 'it returns false'. Refute it at one input. -/
def hornBackWrong : ChangeSpec := { name := "hornBack", fn := fun _ => fun
  | [d1, d2, d3, d4] => { results := [.lit (.bool false)], args := [d1, d2, d3, d4] }
  | _ => none }
def HornBackWrongFalsely : Prop := hornBackRow.holds Tryd.pinned (OpenSpec.ofChange hornBackWrong)

/-- 'hornlaw2.WidthTells': WHATEVER THE INPUT: true; the input reads as it did. -/
def widthTellsSpec : ChangeSpec := { name := "widthTells", fn := fun _ => fun
  | [d1, d2, d3, d4, d5] => { results := [.lit (.bool true)], args := [d1, d2, d3, d4, d5] }
  | _ => none }
def widthTellsRow : OpenClaim := { program := "ytomaipmmjngdlaadoor", sum := "a9d35d5655b0e7a9bbf62c7faa0dca1dfbff3a4c0cc2119c483ce836afc73d27", func := "pulsehorn/hornlaw2.WidthTells", spec := "widthTells", inPlace := ["internal/reflectlite.ValueOf", "(internal/reflectlite.Value).Type", "(internal/reflectlite.Value).IsNil", "internal/reflectlite.TypeOf", "(internal/reflectlite.Value).Elem", "(internal/reflectlite.Value).Set"], unfollowed := true, recurses := true, named := ["errors.errorType"], apart := false, laid := [("errors.errorType", laid_errors_errorType)] }
def WidthTellsSaid : Prop := widthTellsRow.holds Tryd.pinned (OpenSpec.ofChange widthTellsSpec)

/-- ITS FALSE NEIGHBOUR: 'it returns false'. Refute it at one input. -/
def widthTellsWrong : ChangeSpec := { name := "widthTells", fn := fun _ => fun
  | [d1, d2, d3, d4, d5] => { results := [.lit (.bool false)], args := [d1, d2, d3, d4, d5] }
  | _ => none }
def WidthTellsWrongFalsely : Prop := widthTellsRow.holds Tryd.pinned (OpenSpec.ofChange widthTellsWrong)

/-- 'hornlaw2.LearnTells': WHATEVER THE INPUT: true; the input reads as it did. -/
def learnTellsSpec : ChangeSpec := { name := "learnTells", fn := fun _ => fun
  | [d1, d2, d3, d4] => { results := [.lit (.bool true)], args := [d1, d2, d3, d4] }
  | _ => none }
def learnTellsRow : OpenClaim := { program := "ytomaipmmjngdlaadoor", sum := "a9d35d5655b0e7a9bbf62c7faa0dca1dfbff3a4c0cc2119c483ce836afc73d27", func := "pulsehorn/hornlaw2.LearnTells", spec := "learnTells", inPlace := ["internal/reflectlite.ValueOf", "(internal/reflectlite.Value).Type", "(internal/reflectlite.Value).IsNil", "internal/reflectlite.TypeOf", "(internal/reflectlite.Value).Elem", "(internal/reflectlite.Value).Set"], unfollowed := true, recurses := true, named := ["errors.errorType"], apart := false, laid := [("errors.errorType", laid_errors_errorType)] }
def LearnTellsSaid : Prop := learnTellsRow.holds Tryd.pinned (OpenSpec.ofChange learnTellsSpec)

/-- ITS FALSE NEIGHBOUR: 'it returns false'. Refute it at one input. -/
def learnTellsWrong : ChangeSpec := { name := "learnTells", fn := fun _ => fun
  | [d1, d2, d3, d4] => { results := [.lit (.bool false)], args := [d1, d2, d3, d4] }
  | _ => none }
def LearnTellsWrongFalsely : Prop := learnTellsRow.holds Tryd.pinned (OpenSpec.ofChange learnTellsWrong)

/- THE SECOND FORM. 'bulk': how many values and letters a reading holds, each counted each time it is reached (what is shared counts as often as it is met; a slice's spare places count too). A statement '..UptoSaid' is the law's where the arguments, and the package variables that the reading takes, are together of bulk at most 1048576: NARROWER than '..Said'. Prove '..Said' where nothing that the law and all that it calls make is longer than what came in: it says more and counts as full. Else prove '..UptoSaid'. A law counts once. -/
mutual
def uptoBulk {H : Type} : DataW H → Nat
  | .lit (.string bytes) => bytes.length + 1
  | .lit _ => 1
  | .nil => 1
  | .ptr d => uptoBulk d + 1
  | .slice elems spare => uptoBulkAll elems + uptoBulkAll spare + 1
  | .agg parts => uptoBulkAll parts + 1
  | .iface _ d => uptoBulk d + 1
  | .map entries => uptoBulkEntries entries + 1
  | .held _ => 1
def uptoBulkAll {H : Type} : List (DataW H) → Nat
  | [] => 0
  | d :: r => uptoBulk d + uptoBulkAll r
def uptoBulkEntries {H : Type} : List (Lit × DataW H) → Nat
  | [] => 0
  | x :: r => uptoBulkEntry x + uptoBulkEntries r
def uptoBulkEntry {H : Type} : Lit × DataW H → Nat
  | (.string bytes, d) => bytes.length + uptoBulk d + 1
  | (_, d) => uptoBulk d + 1
 end
def uptoSmall : (H : Type) → List (DataW H) → Bool := fun _ ds => decide (uptoBulkAll ds ≤ 1048576)
def OpenSpec.upto (s : _root_.Go.ChangeSpec) : _root_.Go.OpenSpec := { _root_.Go.OpenSpec.ofChange s with cond := some uptoSmall }

/-- 'hornlaw4.HornNone', WHERE WHAT IT READS IS OF BULK AT MOST 1048576: true; the input reads as it did. -/
def hornNoneUptoRow : OpenClaim := { program := "ytomaipmmjngdlaadoor", sum := "a9d35d5655b0e7a9bbf62c7faa0dca1dfbff3a4c0cc2119c483ce836afc73d27", func := "pulsehorn/hornlaw4.HornNone", spec := "hornNone", inPlace := ["internal/reflectlite.ValueOf", "(internal/reflectlite.Value).Type", "(internal/reflectlite.Value).IsNil", "internal/reflectlite.TypeOf", "(internal/reflectlite.Value).Elem", "(internal/reflectlite.Value).Set"], unfollowed := true, recurses := true, named := ["errors.errorType"], apart := false, laid := [("errors.errorType", laid_errors_errorType)], narrowed := true }
def HornNoneUptoSaid : Prop := hornNoneUptoRow.holds Tryd.pinned (OpenSpec.upto hornNoneSpec)

/-- 'hornlaw2.HornTells', WHERE WHAT IT READS IS OF BULK AT MOST 1048576: true; the input reads as it did. -/
def hornTellsUptoRow : OpenClaim := { program := "ytomaipmmjngdlaadoor", sum := "a9d35d5655b0e7a9bbf62c7faa0dca1dfbff3a4c0cc2119c483ce836afc73d27", func := "pulsehorn/hornlaw2.HornTells", spec := "hornTells", inPlace := ["internal/reflectlite.ValueOf", "(internal/reflectlite.Value).Type", "(internal/reflectlite.Value).IsNil", "internal/reflectlite.TypeOf", "(internal/reflectlite.Value).Elem", "(internal/reflectlite.Value).Set"], unfollowed := true, recurses := true, named := ["errors.errorType"], apart := false, laid := [("errors.errorType", laid_errors_errorType)], narrowed := true }
def HornTellsUptoSaid : Prop := hornTellsUptoRow.holds Tryd.pinned (OpenSpec.upto hornTellsSpec)

/-- 'hornlaw2.HornBack', WHERE WHAT IT READS IS OF BULK AT MOST 1048576: true; the input reads as it did. -/
def hornBackUptoRow : OpenClaim := { program := "ytomaipmmjngdlaadoor", sum := "a9d35d5655b0e7a9bbf62c7faa0dca1dfbff3a4c0cc2119c483ce836afc73d27", func := "pulsehorn/hornlaw2.HornBack", spec := "hornBack", inPlace := ["internal/reflectlite.ValueOf", "(internal/reflectlite.Value).Type", "(internal/reflectlite.Value).IsNil", "internal/reflectlite.TypeOf", "(internal/reflectlite.Value).Elem", "(internal/reflectlite.Value).Set"], unfollowed := true, recurses := true, named := ["errors.errorType"], apart := false, laid := [("errors.errorType", laid_errors_errorType)], narrowed := true }
def HornBackUptoSaid : Prop := hornBackUptoRow.holds Tryd.pinned (OpenSpec.upto hornBackSpec)

/-- 'hornlaw2.WidthTells', WHERE WHAT IT READS IS OF BULK AT MOST 1048576: true; the input reads as it did. -/
def widthTellsUptoRow : OpenClaim := { program := "ytomaipmmjngdlaadoor", sum := "a9d35d5655b0e7a9bbf62c7faa0dca1dfbff3a4c0cc2119c483ce836afc73d27", func := "pulsehorn/hornlaw2.WidthTells", spec := "widthTells", inPlace := ["internal/reflectlite.ValueOf", "(internal/reflectlite.Value).Type", "(internal/reflectlite.Value).IsNil", "internal/reflectlite.TypeOf", "(internal/reflectlite.Value).Elem", "(internal/reflectlite.Value).Set"], unfollowed := true, recurses := true, named := ["errors.errorType"], apart := false, laid := [("errors.errorType", laid_errors_errorType)], narrowed := true }
def WidthTellsUptoSaid : Prop := widthTellsUptoRow.holds Tryd.pinned (OpenSpec.upto widthTellsSpec)

/-- 'hornlaw2.LearnTells', WHERE WHAT IT READS IS OF BULK AT MOST 1048576: true; the input reads as it did. -/
def learnTellsUptoRow : OpenClaim := { program := "ytomaipmmjngdlaadoor", sum := "a9d35d5655b0e7a9bbf62c7faa0dca1dfbff3a4c0cc2119c483ce836afc73d27", func := "pulsehorn/hornlaw2.LearnTells", spec := "learnTells", inPlace := ["internal/reflectlite.ValueOf", "(internal/reflectlite.Value).Type", "(internal/reflectlite.Value).IsNil", "internal/reflectlite.TypeOf", "(internal/reflectlite.Value).Elem", "(internal/reflectlite.Value).Set"], unfollowed := true, recurses := true, named := ["errors.errorType"], apart := false, laid := [("errors.errorType", laid_errors_errorType)], narrowed := true }
def LearnTellsUptoSaid : Prop := learnTellsUptoRow.holds Tryd.pinned (OpenSpec.upto learnTellsSpec)

end Rows
end Go.Proofs.YtomaipmmjngdlaaDoor
