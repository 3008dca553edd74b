/-
  No cell of these rows narrows 'for every input' (looked for: loops, veiled, ifaces, maps, wideKeys, modest, calm, conditions, laid).
  DERIVED. THE GIVEN ROWS OF THIS SEAT. 12 by the template 'for every input the law returns true; each argument reads behind the call as it read before'; 0 by the template 'total and deterministic' (their statements: YtgadgpkhkncnnaaTotals.lean).
  GIVEN WITH THE SEED: the statements are not yours to turn. If you find one false, say at which input.
  Laid BY PROGRAM, IN A SANDBOX (cutbox-rows.mjs): the forced cells as the released guide's own fill.sh prints them over the translation 98f6288f010efab0… (all of the seat's roots in one cut). By AI agents, Wed Nov 11 2026. No macro, syntax, notation, axiom, sorry.
-/
import Derived.Test.YtgadgpkhkncnnaaChecked
import GoSem.Claim
import GoSem.ClaimJoined
import GoSem.ClaimMapViews
import Derived.JoinedTies
import Derived.KernelRfl
namespace Go.Proofs.Ytgadgpkhkncnnaa
/- THE CELL 'sum', in the pinned program and in every row, IS THE sha256 OF THE DUMP (.gsa) THAT YtgadgpkhkncnnaaProg.lean LOADS. Nothing in Lean hashes anything: it is a label: what it is worth is what the hold of that sum in a sandbox is worth. -/
noncomputable def Try.pinned : Pinned := { name := "ytgadgpkhkncnnaa", sum := "98f6288f010efab02af23ba61433827cc927ddade136274d99b63a7d50d9d15a", checked := Try.checked }
namespace Rows
def none {H : Type} : Left H := { results := [], args := [] }

/-- 'hornlaw1.TreeBack': WHATEVER THE INPUT: true; the input reads as it did. -/
def treeBackSpec : ChangeSpec := { name := "treeBack", fn := fun _ => fun
  | [d1, d2, d3] => { results := [.lit (.bool true)], args := [d1, d2, d3] }
  | _ => none }
def treeBackRow : OpenClaim := { program := "ytgadgpkhkncnnaa", sum := "98f6288f010efab02af23ba61433827cc927ddade136274d99b63a7d50d9d15a", func := "pulsehorn/hornlaw1.TreeBack", spec := "treeBack", unfollowed := true, recurses := true, apart := false }
def TreeBackSaid : Prop := treeBackRow.holds Try.pinned (OpenSpec.ofChange treeBackSpec)

/-- ITS FALSE NEIGHBOUR: 'it returns false'. Refute it at one input. -/
def treeBackWrong : ChangeSpec := { name := "treeBack", fn := fun _ => fun
  | [d1, d2, d3] => { results := [.lit (.bool false)], args := [d1, d2, d3] }
  | _ => none }
def TreeBackWrongFalsely : Prop := treeBackRow.holds Try.pinned (OpenSpec.ofChange treeBackWrong)

/-- 'hornlaw1.BandBack': WHATEVER THE INPUT: true; the input reads as it did. -/
def bandBackSpec : ChangeSpec := { name := "bandBack", fn := fun _ => fun
  | [d1, d2, d3] => { results := [.lit (.bool true)], args := [d1, d2, d3] }
  | _ => none }
def bandBackRow : OpenClaim := { program := "ytgadgpkhkncnnaa", sum := "98f6288f010efab02af23ba61433827cc927ddade136274d99b63a7d50d9d15a", func := "pulsehorn/hornlaw1.BandBack", spec := "bandBack", unfollowed := true, recurses := true, apart := false }
def BandBackSaid : Prop := bandBackRow.holds Try.pinned (OpenSpec.ofChange bandBackSpec)

/-- ITS FALSE NEIGHBOUR: 'it returns false'. Refute it at one input. -/
def bandBackWrong : ChangeSpec := { name := "bandBack", fn := fun _ => fun
  | [d1, d2, d3] => { results := [.lit (.bool false)], args := [d1, d2, d3] }
  | _ => none }
def BandBackWrongFalsely : Prop := bandBackRow.holds Try.pinned (OpenSpec.ofChange bandBackWrong)

/-- 'horntop.TopTurns': WHATEVER THE INPUT: true; the input reads as it did. -/
def topTurnsSpec : ChangeSpec := { name := "topTurns", fn := fun _ => fun
  | [d1, d2, d3] => { results := [.lit (.bool true)], args := [d1, d2, d3] }
  | _ => none }
def topTurnsRow : OpenClaim := { program := "ytgadgpkhkncnnaa", sum := "98f6288f010efab02af23ba61433827cc927ddade136274d99b63a7d50d9d15a", func := "pulsehorn/horntop.TopTurns", spec := "topTurns", unfollowed := true, recurses := true, apart := false }
def TopTurnsSaid : Prop := topTurnsRow.holds Try.pinned (OpenSpec.ofChange topTurnsSpec)

/-- ITS FALSE NEIGHBOUR: 'it returns false'. Refute it at one input. -/
def topTurnsWrong : ChangeSpec := { name := "topTurns", fn := fun _ => fun
  | [d1, d2, d3] => { results := [.lit (.bool false)], args := [d1, d2, d3] }
  | _ => none }
def TopTurnsWrongFalsely : Prop := topTurnsRow.holds Try.pinned (OpenSpec.ofChange topTurnsWrong)

/-- 'hornlaw4.ShareSilent': WHATEVER THE INPUT: true; the input reads as it did. -/
def shareSilentSpec : ChangeSpec := { name := "shareSilent", fn := fun _ => fun
  | [d1, d2] => { results := [.lit (.bool true)], args := [d1, d2] }
  | _ => none }
def shareSilentRow : OpenClaim := { program := "ytgadgpkhkncnnaa", sum := "98f6288f010efab02af23ba61433827cc927ddade136274d99b63a7d50d9d15a", func := "pulsehorn/hornlaw4.ShareSilent", spec := "shareSilent", unfollowed := true, recurses := true, apart := false }
def ShareSilentSaid : Prop := shareSilentRow.holds Try.pinned (OpenSpec.ofChange shareSilentSpec)

/-- ITS FALSE NEIGHBOUR: 'it returns false'. Refute it at one input. -/
def shareSilentWrong : ChangeSpec := { name := "shareSilent", fn := fun _ => fun
  | [d1, d2] => { results := [.lit (.bool false)], args := [d1, d2] }
  | _ => none }
def ShareSilentWrongFalsely : Prop := shareSilentRow.holds Try.pinned (OpenSpec.ofChange shareSilentWrong)

/-- 'hornlaw2.ShareFair': WHATEVER THE INPUT: true; the input reads as it did. -/
def shareFairSpec : ChangeSpec := { name := "shareFair", fn := fun _ => fun
  | [d1, d2, d3] => { results := [.lit (.bool true)], args := [d1, d2, d3] }
  | _ => none }
def shareFairRow : OpenClaim := { program := "ytgadgpkhkncnnaa", sum := "98f6288f010efab02af23ba61433827cc927ddade136274d99b63a7d50d9d15a", func := "pulsehorn/hornlaw2.ShareFair", spec := "shareFair", unfollowed := true, recurses := true, apart := false }
def ShareFairSaid : Prop := shareFairRow.holds Try.pinned (OpenSpec.ofChange shareFairSpec)

/-- ITS FALSE NEIGHBOUR: 'it returns false'. Refute it at one input. -/
def shareFairWrong : ChangeSpec := { name := "shareFair", fn := fun _ => fun
  | [d1, d2, d3] => { results := [.lit (.bool false)], args := [d1, d2, d3] }
  | _ => none }
def ShareFairWrongFalsely : Prop := shareFairRow.holds Try.pinned (OpenSpec.ofChange shareFairWrong)

/-- 'hornlaw2.WidthBack': WHATEVER THE INPUT: true; the input reads as it did. -/
def widthBackSpec : ChangeSpec := { name := "widthBack", fn := fun _ => fun
  | [d1, d2, d3, d4, d5] => { results := [.lit (.bool true)], args := [d1, d2, d3, d4, d5] }
  | _ => none }
def widthBackRow : OpenClaim := { program := "ytgadgpkhkncnnaa", sum := "98f6288f010efab02af23ba61433827cc927ddade136274d99b63a7d50d9d15a", func := "pulsehorn/hornlaw2.WidthBack", spec := "widthBack", unfollowed := true, recurses := true, apart := false }
def WidthBackSaid : Prop := widthBackRow.holds Try.pinned (OpenSpec.ofChange widthBackSpec)

/-- ITS FALSE NEIGHBOUR: 'it returns false'. Refute it at one input. -/
def widthBackWrong : ChangeSpec := { name := "widthBack", fn := fun _ => fun
  | [d1, d2, d3, d4, d5] => { results := [.lit (.bool false)], args := [d1, d2, d3, d4, d5] }
  | _ => none }
def WidthBackWrongFalsely : Prop := widthBackRow.holds Try.pinned (OpenSpec.ofChange widthBackWrong)

/-- 'hornlaw4.LearnNone': WHATEVER THE INPUT: true; the input reads as it did. -/
def learnNoneSpec : ChangeSpec := { name := "learnNone", fn := fun _ => fun
  | [d] => { results := [.lit (.bool true)], args := [d] }
  | _ => none }
def learnNoneRow : OpenClaim := { program := "ytgadgpkhkncnnaa", sum := "98f6288f010efab02af23ba61433827cc927ddade136274d99b63a7d50d9d15a", func := "pulsehorn/hornlaw4.LearnNone", spec := "learnNone", unfollowed := true, recurses := true, apart := false }
def LearnNoneSaid : Prop := learnNoneRow.holds Try.pinned (OpenSpec.ofChange learnNoneSpec)

/-- ITS FALSE NEIGHBOUR: 'it returns false'. Refute it at one input. -/
def learnNoneWrong : ChangeSpec := { name := "learnNone", fn := fun _ => fun
  | [d] => { results := [.lit (.bool false)], args := [d] }
  | _ => none }
def LearnNoneWrongFalsely : Prop := learnNoneRow.holds Try.pinned (OpenSpec.ofChange learnNoneWrong)

/-- 'hornlaw1.NearBest': WHATEVER THE INPUT: true; the input reads as it did. -/
def nearBestSpec : ChangeSpec := { name := "nearBest", fn := fun _ => fun
  | [d1, d2, d3] => { results := [.lit (.bool true)], args := [d1, d2, d3] }
  | _ => none }
def nearBestRow : OpenClaim := { program := "ytgadgpkhkncnnaa", sum := "98f6288f010efab02af23ba61433827cc927ddade136274d99b63a7d50d9d15a", func := "pulsehorn/hornlaw1.NearBest", spec := "nearBest", unfollowed := true, recurses := true, apart := false }
def NearBestSaid : Prop := nearBestRow.holds Try.pinned (OpenSpec.ofChange nearBestSpec)

/-- ITS FALSE NEIGHBOUR: 'it returns false'. Refute it at one input. -/
def nearBestWrong : ChangeSpec := { name := "nearBest", fn := fun _ => fun
  | [d1, d2, d3] => { results := [.lit (.bool false)], args := [d1, d2, d3] }
  | _ => none }
def NearBestWrongFalsely : Prop := nearBestRow.holds Try.pinned (OpenSpec.ofChange nearBestWrong)

/-- 'horntop.TopShape': WHATEVER THE INPUT: true; the input reads as it did. -/
def topShapeSpec : ChangeSpec := { name := "topShape", fn := fun _ => fun
  | [d1, d2, d3] => { results := [.lit (.bool true)], args := [d1, d2, d3] }
  | _ => none }
def topShapeRow : OpenClaim := { program := "ytgadgpkhkncnnaa", sum := "98f6288f010efab02af23ba61433827cc927ddade136274d99b63a7d50d9d15a", func := "pulsehorn/horntop.TopShape", spec := "topShape", unfollowed := true, recurses := true, apart := false }
def TopShapeSaid : Prop := topShapeRow.holds Try.pinned (OpenSpec.ofChange topShapeSpec)

/-- ITS FALSE NEIGHBOUR: 'it returns false'. Refute it at one input. -/
def topShapeWrong : ChangeSpec := { name := "topShape", fn := fun _ => fun
  | [d1, d2, d3] => { results := [.lit (.bool false)], args := [d1, d2, d3] }
  | _ => none }
def TopShapeWrongFalsely : Prop := topShapeRow.holds Try.pinned (OpenSpec.ofChange topShapeWrong)

/-- 'hornlaw2.LearnAll': WHATEVER THE INPUT: true; the input reads as it did. -/
def learnAllSpec : ChangeSpec := { name := "learnAll", fn := fun _ => fun
  | [d1, d2, d3, d4] => { results := [.lit (.bool true)], args := [d1, d2, d3, d4] }
  | _ => none }
def learnAllRow : OpenClaim := { program := "ytgadgpkhkncnnaa", sum := "98f6288f010efab02af23ba61433827cc927ddade136274d99b63a7d50d9d15a", func := "pulsehorn/hornlaw2.LearnAll", spec := "learnAll", unfollowed := true, recurses := true, apart := false }
def LearnAllSaid : Prop := learnAllRow.holds Try.pinned (OpenSpec.ofChange learnAllSpec)

/-- ITS FALSE NEIGHBOUR: 'it returns false'. Refute it at one input. -/
def learnAllWrong : ChangeSpec := { name := "learnAll", fn := fun _ => fun
  | [d1, d2, d3, d4] => { results := [.lit (.bool false)], args := [d1, d2, d3, d4] }
  | _ => none }
def LearnAllWrongFalsely : Prop := learnAllRow.holds Try.pinned (OpenSpec.ofChange learnAllWrong)

/-- 'hornlaw4.HideFirst': WHATEVER THE INPUT: true; the input reads as it did. -/
def hideFirstSpec : ChangeSpec := { name := "hideFirst", fn := fun _ => fun
  | [d1, d2, d3] => { results := [.lit (.bool true)], args := [d1, d2, d3] }
  | _ => none }
def hideFirstRow : OpenClaim := { program := "ytgadgpkhkncnnaa", sum := "98f6288f010efab02af23ba61433827cc927ddade136274d99b63a7d50d9d15a", func := "pulsehorn/hornlaw4.HideFirst", spec := "hideFirst", unfollowed := true, recurses := true, apart := false }
def HideFirstSaid : Prop := hideFirstRow.holds Try.pinned (OpenSpec.ofChange hideFirstSpec)

/-- ITS FALSE NEIGHBOUR: 'it returns false'. Refute it at one input. -/
def hideFirstWrong : ChangeSpec := { name := "hideFirst", fn := fun _ => fun
  | [d1, d2, d3] => { results := [.lit (.bool false)], args := [d1, d2, d3] }
  | _ => none }
def HideFirstWrongFalsely : Prop := hideFirstRow.holds Try.pinned (OpenSpec.ofChange hideFirstWrong)

/-- 'hornlaw3.HideSofter': WHATEVER THE INPUT: true; the input reads as it did. -/
def hideSofterSpec : ChangeSpec := { name := "hideSofter", fn := fun _ => fun
  | [d1, d2, d3, d4] => { results := [.lit (.bool true)], args := [d1, d2, d3, d4] }
  | _ => none }
def hideSofterRow : OpenClaim := { program := "ytgadgpkhkncnnaa", sum := "98f6288f010efab02af23ba61433827cc927ddade136274d99b63a7d50d9d15a", func := "pulsehorn/hornlaw3.HideSofter", spec := "hideSofter", unfollowed := true, recurses := true, apart := false }
def HideSofterSaid : Prop := hideSofterRow.holds Try.pinned (OpenSpec.ofChange hideSofterSpec)

/-- ITS FALSE NEIGHBOUR: 'it returns false'. Refute it at one input. -/
def hideSofterWrong : ChangeSpec := { name := "hideSofter", fn := fun _ => fun
  | [d1, d2, d3, d4] => { results := [.lit (.bool false)], args := [d1, d2, d3, d4] }
  | _ => none }
def HideSofterWrongFalsely : Prop := hideSofterRow.holds Try.pinned (OpenSpec.ofChange hideSofterWrong)

/- THE SECOND FORM. 'bulk': how many values and letters a reading holds, each counted each time it is reached (what is shared counts as often as it is met; a slice's spare places count too). A statement '..UptoSaid' is the law's where the arguments, and the package variables that the reading takes, are together of bulk at most 1048576: NARROWER than '..Said'. Prove '..Said' where nothing that the law and all that it calls make is longer than what came in: it says more and counts as full. Else prove '..UptoSaid'. A law counts once. -/
mutual
def uptoBulk {H : Type} : DataW H → Nat
  | .lit (.string bytes) => bytes.length + 1
  | .lit _ => 1
  | .nil => 1
  | .ptr d => uptoBulk d + 1
  | .slice elems spare => uptoBulkAll elems + uptoBulkAll spare + 1
  | .agg parts => uptoBulkAll parts + 1
  | .iface _ d => uptoBulk d + 1
  | .map entries => uptoBulkEntries entries + 1
  | .held _ => 1
def uptoBulkAll {H : Type} : List (DataW H) → Nat
  | [] => 0
  | d :: r => uptoBulk d + uptoBulkAll r
def uptoBulkEntries {H : Type} : List (Lit × DataW H) → Nat
  | [] => 0
  | x :: r => uptoBulkEntry x + uptoBulkEntries r
def uptoBulkEntry {H : Type} : Lit × DataW H → Nat
  | (.string bytes, d) => bytes.length + uptoBulk d + 1
  | (_, d) => uptoBulk d + 1
 end
def uptoSmall : (H : Type) → List (DataW H) → Bool := fun _ ds => decide (uptoBulkAll ds ≤ 1048576)
def OpenSpec.upto (s : _root_.Go.ChangeSpec) : _root_.Go.OpenSpec := { _root_.Go.OpenSpec.ofChange s with cond := some uptoSmall }

/-- 'hornlaw1.TreeBack', WHERE WHAT IT READS IS OF BULK AT MOST 1048576: true; the input reads as it did. -/
def treeBackUptoRow : OpenClaim := { program := "ytgadgpkhkncnnaa", sum := "98f6288f010efab02af23ba61433827cc927ddade136274d99b63a7d50d9d15a", func := "pulsehorn/hornlaw1.TreeBack", spec := "treeBack", unfollowed := true, recurses := true, apart := false, narrowed := true }
def TreeBackUptoSaid : Prop := treeBackUptoRow.holds Try.pinned (OpenSpec.upto treeBackSpec)

/-- 'hornlaw1.BandBack', WHERE WHAT IT READS IS OF BULK AT MOST 1048576: true; the input reads as it did. -/
def bandBackUptoRow : OpenClaim := { program := "ytgadgpkhkncnnaa", sum := "98f6288f010efab02af23ba61433827cc927ddade136274d99b63a7d50d9d15a", func := "pulsehorn/hornlaw1.BandBack", spec := "bandBack", unfollowed := true, recurses := true, apart := false, narrowed := true }
def BandBackUptoSaid : Prop := bandBackUptoRow.holds Try.pinned (OpenSpec.upto bandBackSpec)

/-- 'horntop.TopTurns', WHERE WHAT IT READS IS OF BULK AT MOST 1048576: true; the input reads as it did. -/
def topTurnsUptoRow : OpenClaim := { program := "ytgadgpkhkncnnaa", sum := "98f6288f010efab02af23ba61433827cc927ddade136274d99b63a7d50d9d15a", func := "pulsehorn/horntop.TopTurns", spec := "topTurns", unfollowed := true, recurses := true, apart := false, narrowed := true }
def TopTurnsUptoSaid : Prop := topTurnsUptoRow.holds Try.pinned (OpenSpec.upto topTurnsSpec)

/-- 'hornlaw4.ShareSilent', WHERE WHAT IT READS IS OF BULK AT MOST 1048576: true; the input reads as it did. -/
def shareSilentUptoRow : OpenClaim := { program := "ytgadgpkhkncnnaa", sum := "98f6288f010efab02af23ba61433827cc927ddade136274d99b63a7d50d9d15a", func := "pulsehorn/hornlaw4.ShareSilent", spec := "shareSilent", unfollowed := true, recurses := true, apart := false, narrowed := true }
def ShareSilentUptoSaid : Prop := shareSilentUptoRow.holds Try.pinned (OpenSpec.upto shareSilentSpec)

/-- 'hornlaw2.ShareFair', WHERE WHAT IT READS IS OF BULK AT MOST 1048576: true; the input reads as it did. -/
def shareFairUptoRow : OpenClaim := { program := "ytgadgpkhkncnnaa", sum := "98f6288f010efab02af23ba61433827cc927ddade136274d99b63a7d50d9d15a", func := "pulsehorn/hornlaw2.ShareFair", spec := "shareFair", unfollowed := true, recurses := true, apart := false, narrowed := true }
def ShareFairUptoSaid : Prop := shareFairUptoRow.holds Try.pinned (OpenSpec.upto shareFairSpec)

/-- 'hornlaw2.WidthBack', WHERE WHAT IT READS IS OF BULK AT MOST 1048576: true; the input reads as it did. -/
def widthBackUptoRow : OpenClaim := { program := "ytgadgpkhkncnnaa", sum := "98f6288f010efab02af23ba61433827cc927ddade136274d99b63a7d50d9d15a", func := "pulsehorn/hornlaw2.WidthBack", spec := "widthBack", unfollowed := true, recurses := true, apart := false, narrowed := true }
def WidthBackUptoSaid : Prop := widthBackUptoRow.holds Try.pinned (OpenSpec.upto widthBackSpec)

/-- 'hornlaw4.LearnNone', WHERE WHAT IT READS IS OF BULK AT MOST 1048576: true; the input reads as it did. -/
def learnNoneUptoRow : OpenClaim := { program := "ytgadgpkhkncnnaa", sum := "98f6288f010efab02af23ba61433827cc927ddade136274d99b63a7d50d9d15a", func := "pulsehorn/hornlaw4.LearnNone", spec := "learnNone", unfollowed := true, recurses := true, apart := false, narrowed := true }
def LearnNoneUptoSaid : Prop := learnNoneUptoRow.holds Try.pinned (OpenSpec.upto learnNoneSpec)

/-- 'hornlaw1.NearBest', WHERE WHAT IT READS IS OF BULK AT MOST 1048576: true; the input reads as it did. -/
def nearBestUptoRow : OpenClaim := { program := "ytgadgpkhkncnnaa", sum := "98f6288f010efab02af23ba61433827cc927ddade136274d99b63a7d50d9d15a", func := "pulsehorn/hornlaw1.NearBest", spec := "nearBest", unfollowed := true, recurses := true, apart := false, narrowed := true }
def NearBestUptoSaid : Prop := nearBestUptoRow.holds Try.pinned (OpenSpec.upto nearBestSpec)

/-- 'horntop.TopShape', WHERE WHAT IT READS IS OF BULK AT MOST 1048576: true; the input reads as it did. -/
def topShapeUptoRow : OpenClaim := { program := "ytgadgpkhkncnnaa", sum := "98f6288f010efab02af23ba61433827cc927ddade136274d99b63a7d50d9d15a", func := "pulsehorn/horntop.TopShape", spec := "topShape", unfollowed := true, recurses := true, apart := false, narrowed := true }
def TopShapeUptoSaid : Prop := topShapeUptoRow.holds Try.pinned (OpenSpec.upto topShapeSpec)

/-- 'hornlaw2.LearnAll', WHERE WHAT IT READS IS OF BULK AT MOST 1048576: true; the input reads as it did. -/
def learnAllUptoRow : OpenClaim := { program := "ytgadgpkhkncnnaa", sum := "98f6288f010efab02af23ba61433827cc927ddade136274d99b63a7d50d9d15a", func := "pulsehorn/hornlaw2.LearnAll", spec := "learnAll", unfollowed := true, recurses := true, apart := false, narrowed := true }
def LearnAllUptoSaid : Prop := learnAllUptoRow.holds Try.pinned (OpenSpec.upto learnAllSpec)

/-- 'hornlaw4.HideFirst', WHERE WHAT IT READS IS OF BULK AT MOST 1048576: true; the input reads as it did. -/
def hideFirstUptoRow : OpenClaim := { program := "ytgadgpkhkncnnaa", sum := "98f6288f010efab02af23ba61433827cc927ddade136274d99b63a7d50d9d15a", func := "pulsehorn/hornlaw4.HideFirst", spec := "hideFirst", unfollowed := true, recurses := true, apart := false, narrowed := true }
def HideFirstUptoSaid : Prop := hideFirstUptoRow.holds Try.pinned (OpenSpec.upto hideFirstSpec)

/-- 'hornlaw3.HideSofter', WHERE WHAT IT READS IS OF BULK AT MOST 1048576: true; the input reads as it did. -/
def hideSofterUptoRow : OpenClaim := { program := "ytgadgpkhkncnnaa", sum := "98f6288f010efab02af23ba61433827cc927ddade136274d99b63a7d50d9d15a", func := "pulsehorn/hornlaw3.HideSofter", spec := "hideSofter", unfollowed := true, recurses := true, apart := false, narrowed := true }
def HideSofterUptoSaid : Prop := hideSofterUptoRow.holds Try.pinned (OpenSpec.upto hideSofterSpec)

end Rows
end Go.Proofs.Ytgadgpkhkncnnaa
