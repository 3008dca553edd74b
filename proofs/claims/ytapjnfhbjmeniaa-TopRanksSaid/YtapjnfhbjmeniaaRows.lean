/-
  No cell of these rows narrows 'for every input' (looked for: loops, veiled, ifaces, maps, wideKeys, modest, calm, conditions, laid).
  DERIVED. THE GIVEN ROWS OF THIS SEAT. 6 by the template 'for every input the law returns true; each argument reads behind the call as it read before'; 0 by the template 'total and deterministic' (their statements: YtapjnfhbjmeniaaTotals.lean).
  GIVEN WITH THE SEED: the statements are not yours to turn. If you find one false, say at which input.
  Laid BY PROGRAM, IN A SANDBOX (cutbox-rows.mjs): the forced cells as the released guide's own fill.sh prints them over the translation bb57358a2f11e69e… (all of the seat's roots in one cut). By AI agents, Wed Nov 11 2026. No macro, syntax, notation, axiom, sorry.
-/
import Derived.Test.YtapjnfhbjmeniaaChecked
import GoSem.Claim
import GoSem.ClaimJoined
import GoSem.ClaimMapViews
import Derived.JoinedTies
import Derived.KernelRfl
namespace Go.Proofs.Ytapjnfhbjmeniaa
/- THE CELL 'sum', in the pinned program and in every row, IS THE sha256 OF THE DUMP (.gsa) THAT YtapjnfhbjmeniaaProg.lean LOADS. Nothing in Lean hashes anything: it is a label: what it is worth is what the hold of that sum in a sandbox is worth. -/
noncomputable def Try.pinned : Pinned := { name := "ytapjnfhbjmeniaa", sum := "bb57358a2f11e69e0cfbd3f75bdde647b3dee3bd40835d5936ad444a02dd4a5b", checked := Try.checked }
namespace Rows
def none {H : Type} : Left H := { results := [], args := [] }

/-- 'hornlaw2.WidthBack': WHATEVER THE INPUT: true; the input reads as it did. -/
def widthBackSpec : ChangeSpec := { name := "widthBack", fn := fun _ => fun
  | [d1, d2, d3, d4, d5] => { results := [.lit (.bool true)], args := [d1, d2, d3, d4, d5] }
  | _ => none }
def widthBackRow : OpenClaim := { program := "ytapjnfhbjmeniaa", sum := "bb57358a2f11e69e0cfbd3f75bdde647b3dee3bd40835d5936ad444a02dd4a5b", func := "pulsehorn/hornlaw2.WidthBack", spec := "widthBack", unfollowed := true, recurses := true, apart := false }
def WidthBackSaid : Prop := widthBackRow.holds Try.pinned (OpenSpec.ofChange widthBackSpec)

/-- ITS FALSE NEIGHBOUR: 'it returns false'. Refute it at one input. -/
def widthBackWrong : ChangeSpec := { name := "widthBack", fn := fun _ => fun
  | [d1, d2, d3, d4, d5] => { results := [.lit (.bool false)], args := [d1, d2, d3, d4, d5] }
  | _ => none }
def WidthBackWrongFalsely : Prop := widthBackRow.holds Try.pinned (OpenSpec.ofChange widthBackWrong)

/-- 'hornlaw2.LearnAll': WHATEVER THE INPUT: true; the input reads as it did. -/
def learnAllSpec : ChangeSpec := { name := "learnAll", fn := fun _ => fun
  | [d1, d2, d3, d4] => { results := [.lit (.bool true)], args := [d1, d2, d3, d4] }
  | _ => none }
def learnAllRow : OpenClaim := { program := "ytapjnfhbjmeniaa", sum := "bb57358a2f11e69e0cfbd3f75bdde647b3dee3bd40835d5936ad444a02dd4a5b", func := "pulsehorn/hornlaw2.LearnAll", spec := "learnAll", unfollowed := true, recurses := true, apart := false }
def LearnAllSaid : Prop := learnAllRow.holds Try.pinned (OpenSpec.ofChange learnAllSpec)

/-- ITS FALSE NEIGHBOUR: 'it returns false'. Refute it at one input. -/
def learnAllWrong : ChangeSpec := { name := "learnAll", fn := fun _ => fun
  | [d1, d2, d3, d4] => { results := [.lit (.bool false)], args := [d1, d2, d3, d4] }
  | _ => none }
def LearnAllWrongFalsely : Prop := learnAllRow.holds Try.pinned (OpenSpec.ofChange learnAllWrong)

/-- 'hornlaw4.HideFirst': WHATEVER THE INPUT: true; the input reads as it did. -/
def hideFirstSpec : ChangeSpec := { name := "hideFirst", fn := fun _ => fun
  | [d1, d2, d3] => { results := [.lit (.bool true)], args := [d1, d2, d3] }
  | _ => none }
def hideFirstRow : OpenClaim := { program := "ytapjnfhbjmeniaa", sum := "bb57358a2f11e69e0cfbd3f75bdde647b3dee3bd40835d5936ad444a02dd4a5b", func := "pulsehorn/hornlaw4.HideFirst", spec := "hideFirst", unfollowed := true, recurses := true, apart := false }
def HideFirstSaid : Prop := hideFirstRow.holds Try.pinned (OpenSpec.ofChange hideFirstSpec)

/-- ITS FALSE NEIGHBOUR: 'it returns false'. Refute it at one input. -/
def hideFirstWrong : ChangeSpec := { name := "hideFirst", fn := fun _ => fun
  | [d1, d2, d3] => { results := [.lit (.bool false)], args := [d1, d2, d3] }
  | _ => none }
def HideFirstWrongFalsely : Prop := hideFirstRow.holds Try.pinned (OpenSpec.ofChange hideFirstWrong)

/-- 'hornlaw3.HideSofter': WHATEVER THE INPUT: true; the input reads as it did. -/
def hideSofterSpec : ChangeSpec := { name := "hideSofter", fn := fun _ => fun
  | [d1, d2, d3, d4] => { results := [.lit (.bool true)], args := [d1, d2, d3, d4] }
  | _ => none }
def hideSofterRow : OpenClaim := { program := "ytapjnfhbjmeniaa", sum := "bb57358a2f11e69e0cfbd3f75bdde647b3dee3bd40835d5936ad444a02dd4a5b", func := "pulsehorn/hornlaw3.HideSofter", spec := "hideSofter", unfollowed := true, recurses := true, apart := false }
def HideSofterSaid : Prop := hideSofterRow.holds Try.pinned (OpenSpec.ofChange hideSofterSpec)

/-- ITS FALSE NEIGHBOUR: 'it returns false'. Refute it at one input. -/
def hideSofterWrong : ChangeSpec := { name := "hideSofter", fn := fun _ => fun
  | [d1, d2, d3, d4] => { results := [.lit (.bool false)], args := [d1, d2, d3, d4] }
  | _ => none }
def HideSofterWrongFalsely : Prop := hideSofterRow.holds Try.pinned (OpenSpec.ofChange hideSofterWrong)

/-- 'horntop.TopBudget': WHATEVER THE INPUT: true; the input reads as it did. -/
def topBudgetSpec : ChangeSpec := { name := "topBudget", fn := fun _ => fun
  | [d1, d2, d3] => { results := [.lit (.bool true)], args := [d1, d2, d3] }
  | _ => none }
def topBudgetRow : OpenClaim := { program := "ytapjnfhbjmeniaa", sum := "bb57358a2f11e69e0cfbd3f75bdde647b3dee3bd40835d5936ad444a02dd4a5b", func := "pulsehorn/horntop.TopBudget", spec := "topBudget", unfollowed := true, recurses := true, apart := false }
def TopBudgetSaid : Prop := topBudgetRow.holds Try.pinned (OpenSpec.ofChange topBudgetSpec)

/-- ITS FALSE NEIGHBOUR: 'it returns false'. Refute it at one input. -/
def topBudgetWrong : ChangeSpec := { name := "topBudget", fn := fun _ => fun
  | [d1, d2, d3] => { results := [.lit (.bool false)], args := [d1, d2, d3] }
  | _ => none }
def TopBudgetWrongFalsely : Prop := topBudgetRow.holds Try.pinned (OpenSpec.ofChange topBudgetWrong)

/-- 'horntop.TopRanks': WHATEVER THE INPUT: true; the input reads as it did. -/
def topRanksSpec : ChangeSpec := { name := "topRanks", fn := fun _ => fun
  | [d1, d2, d3] => { results := [.lit (.bool true)], args := [d1, d2, d3] }
  | _ => none }
def topRanksRow : OpenClaim := { program := "ytapjnfhbjmeniaa", sum := "bb57358a2f11e69e0cfbd3f75bdde647b3dee3bd40835d5936ad444a02dd4a5b", func := "pulsehorn/horntop.TopRanks", spec := "topRanks", unfollowed := true, recurses := true, apart := false }
def TopRanksSaid : Prop := topRanksRow.holds Try.pinned (OpenSpec.ofChange topRanksSpec)

/-- ITS FALSE NEIGHBOUR: 'it returns false'. Refute it at one input. -/
def topRanksWrong : ChangeSpec := { name := "topRanks", fn := fun _ => fun
  | [d1, d2, d3] => { results := [.lit (.bool false)], args := [d1, d2, d3] }
  | _ => none }
def TopRanksWrongFalsely : Prop := topRanksRow.holds Try.pinned (OpenSpec.ofChange topRanksWrong)

/- THE SECOND FORM. 'bulk': how many values and letters a reading holds, each counted each time it is reached (what is shared counts as often as it is met; a slice's spare places count too). A statement '..UptoSaid' is the law's where the arguments, and the package variables that the reading takes, are together of bulk at most 1048576: NARROWER than '..Said'. Prove '..Said' where nothing that the law and all that it calls make is longer than what came in: it says more and counts as full. Else prove '..UptoSaid'. A law counts once. -/
mutual
def uptoBulk {H : Type} : DataW H → Nat
  | .lit (.string bytes) => bytes.length + 1
  | .lit _ => 1
  | .nil => 1
  | .ptr d => uptoBulk d + 1
  | .slice elems spare => uptoBulkAll elems + uptoBulkAll spare + 1
  | .agg parts => uptoBulkAll parts + 1
  | .iface _ d => uptoBulk d + 1
  | .map entries => uptoBulkEntries entries + 1
  | .held _ => 1
def uptoBulkAll {H : Type} : List (DataW H) → Nat
  | [] => 0
  | d :: r => uptoBulk d + uptoBulkAll r
def uptoBulkEntries {H : Type} : List (Lit × DataW H) → Nat
  | [] => 0
  | x :: r => uptoBulkEntry x + uptoBulkEntries r
def uptoBulkEntry {H : Type} : Lit × DataW H → Nat
  | (.string bytes, d) => bytes.length + uptoBulk d + 1
  | (_, d) => uptoBulk d + 1
 end
def uptoSmall : (H : Type) → List (DataW H) → Bool := fun _ ds => decide (uptoBulkAll ds ≤ 1048576)
def OpenSpec.upto (s : _root_.Go.ChangeSpec) : _root_.Go.OpenSpec := { _root_.Go.OpenSpec.ofChange s with cond := some uptoSmall }

/-- 'hornlaw2.WidthBack', WHERE WHAT IT READS IS OF BULK AT MOST 1048576: true; the input reads as it did. -/
def widthBackUptoRow : OpenClaim := { program := "ytapjnfhbjmeniaa", sum := "bb57358a2f11e69e0cfbd3f75bdde647b3dee3bd40835d5936ad444a02dd4a5b", func := "pulsehorn/hornlaw2.WidthBack", spec := "widthBack", unfollowed := true, recurses := true, apart := false, narrowed := true }
def WidthBackUptoSaid : Prop := widthBackUptoRow.holds Try.pinned (OpenSpec.upto widthBackSpec)

/-- 'hornlaw2.LearnAll', WHERE WHAT IT READS IS OF BULK AT MOST 1048576: true; the input reads as it did. -/
def learnAllUptoRow : OpenClaim := { program := "ytapjnfhbjmeniaa", sum := "bb57358a2f11e69e0cfbd3f75bdde647b3dee3bd40835d5936ad444a02dd4a5b", func := "pulsehorn/hornlaw2.LearnAll", spec := "learnAll", unfollowed := true, recurses := true, apart := false, narrowed := true }
def LearnAllUptoSaid : Prop := learnAllUptoRow.holds Try.pinned (OpenSpec.upto learnAllSpec)

/-- 'hornlaw4.HideFirst', WHERE WHAT IT READS IS OF BULK AT MOST 1048576: true; the input reads as it did. -/
def hideFirstUptoRow : OpenClaim := { program := "ytapjnfhbjmeniaa", sum := "bb57358a2f11e69e0cfbd3f75bdde647b3dee3bd40835d5936ad444a02dd4a5b", func := "pulsehorn/hornlaw4.HideFirst", spec := "hideFirst", unfollowed := true, recurses := true, apart := false, narrowed := true }
def HideFirstUptoSaid : Prop := hideFirstUptoRow.holds Try.pinned (OpenSpec.upto hideFirstSpec)

/-- 'hornlaw3.HideSofter', WHERE WHAT IT READS IS OF BULK AT MOST 1048576: true; the input reads as it did. -/
def hideSofterUptoRow : OpenClaim := { program := "ytapjnfhbjmeniaa", sum := "bb57358a2f11e69e0cfbd3f75bdde647b3dee3bd40835d5936ad444a02dd4a5b", func := "pulsehorn/hornlaw3.HideSofter", spec := "hideSofter", unfollowed := true, recurses := true, apart := false, narrowed := true }
def HideSofterUptoSaid : Prop := hideSofterUptoRow.holds Try.pinned (OpenSpec.upto hideSofterSpec)

/-- 'horntop.TopBudget', WHERE WHAT IT READS IS OF BULK AT MOST 1048576: true; the input reads as it did. -/
def topBudgetUptoRow : OpenClaim := { program := "ytapjnfhbjmeniaa", sum := "bb57358a2f11e69e0cfbd3f75bdde647b3dee3bd40835d5936ad444a02dd4a5b", func := "pulsehorn/horntop.TopBudget", spec := "topBudget", unfollowed := true, recurses := true, apart := false, narrowed := true }
def TopBudgetUptoSaid : Prop := topBudgetUptoRow.holds Try.pinned (OpenSpec.upto topBudgetSpec)

/-- 'horntop.TopRanks', WHERE WHAT IT READS IS OF BULK AT MOST 1048576: true; the input reads as it did. -/
def topRanksUptoRow : OpenClaim := { program := "ytapjnfhbjmeniaa", sum := "bb57358a2f11e69e0cfbd3f75bdde647b3dee3bd40835d5936ad444a02dd4a5b", func := "pulsehorn/horntop.TopRanks", spec := "topRanks", unfollowed := true, recurses := true, apart := false, narrowed := true }
def TopRanksUptoSaid : Prop := topRanksUptoRow.holds Try.pinned (OpenSpec.upto topRanksSpec)

end Rows
end Go.Proofs.Ytapjnfhbjmeniaa
