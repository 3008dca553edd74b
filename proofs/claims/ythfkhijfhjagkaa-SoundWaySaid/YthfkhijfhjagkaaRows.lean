/-
  No cell of these rows narrows 'for every input' (looked for: loops, veiled, ifaces, maps, wideKeys, modest, calm, conditions, laid).
  DERIVED. THE GIVEN ROWS OF THIS SEAT. 7 by the template 'for every input the law returns true; each argument reads behind the call as it read before'; 0 by the template 'total and deterministic' (their statements: YthfkhijfhjagkaaTotals.lean).
  GIVEN WITH THE SEED: the statements are not yours to turn. If you find one false, say at which input.
  Laid BY PROGRAM, IN A SANDBOX (cutbox-rows.mjs): the forced cells as the released guide's own fill.sh prints them over the translation c4c94d92673594c3… (all of the seat's roots in one cut). By AI agents, Wed Nov 11 2026. No macro, syntax, notation, axiom, sorry.
-/
import Derived.Test.YthfkhijfhjagkaaChecked
import GoSem.Claim
import GoSem.ClaimJoined
import GoSem.ClaimMapViews
import Derived.JoinedTies
import Derived.KernelRfl
namespace Go.Proofs.Ythfkhijfhjagkaa
/- THE CELL 'sum', in the pinned program and in every row, IS THE sha256 OF THE DUMP (.gsa) THAT YthfkhijfhjagkaaProg.lean LOADS. Nothing in Lean hashes anything: it is a label: what it is worth is what the hold of that sum in a sandbox is worth. -/
noncomputable def Try.pinned : Pinned := { name := "ythfkhijfhjagkaa", sum := "c4c94d92673594c32d89a31df03fe83f029086c9d96070ff5a7e2544d9a0c9d7", checked := Try.checked }
namespace Rows
def none {H : Type} : Left H := { results := [], args := [] }

/-- 'hornlaw4.PairHalf': WHATEVER THE INPUT: true; the input reads as it did. -/
def pairHalfSpec : ChangeSpec := { name := "pairHalf", fn := fun _ => fun
  | [d] => { results := [.lit (.bool true)], args := [d] }
  | _ => none }
def pairHalfRow : OpenClaim := { program := "ythfkhijfhjagkaa", sum := "c4c94d92673594c32d89a31df03fe83f029086c9d96070ff5a7e2544d9a0c9d7", func := "pulsehorn/hornlaw4.PairHalf", spec := "pairHalf", apart := false }
def PairHalfSaid : Prop := pairHalfRow.holds Try.pinned (OpenSpec.ofChange pairHalfSpec)

/-- ITS FALSE NEIGHBOUR: 'it returns false'. Refute it at one input. -/
def pairHalfWrong : ChangeSpec := { name := "pairHalf", fn := fun _ => fun
  | [d] => { results := [.lit (.bool false)], args := [d] }
  | _ => none }
def PairHalfWrongFalsely : Prop := pairHalfRow.holds Try.pinned (OpenSpec.ofChange pairHalfWrong)

/-- 'hornlaw1.PairBack': WHATEVER THE INPUT: true; the input reads as it did. -/
def pairBackSpec : ChangeSpec := { name := "pairBack", fn := fun _ => fun
  | [d1, d2] => { results := [.lit (.bool true)], args := [d1, d2] }
  | _ => none }
def pairBackRow : OpenClaim := { program := "ythfkhijfhjagkaa", sum := "c4c94d92673594c32d89a31df03fe83f029086c9d96070ff5a7e2544d9a0c9d7", func := "pulsehorn/hornlaw1.PairBack", spec := "pairBack", apart := false }
def PairBackSaid : Prop := pairBackRow.holds Try.pinned (OpenSpec.ofChange pairBackSpec)

/-- ITS FALSE NEIGHBOUR: 'it returns false'. Refute it at one input. -/
def pairBackWrong : ChangeSpec := { name := "pairBack", fn := fun _ => fun
  | [d1, d2] => { results := [.lit (.bool false)], args := [d1, d2] }
  | _ => none }
def PairBackWrongFalsely : Prop := pairBackRow.holds Try.pinned (OpenSpec.ofChange pairBackWrong)

/-- 'hornlaw4.SoundStill': WHATEVER THE INPUT: true; the input reads as it did. -/
def soundStillSpec : ChangeSpec := { name := "soundStill", fn := fun _ => fun
  | [d] => { results := [.lit (.bool true)], args := [d] }
  | _ => none }
def soundStillRow : OpenClaim := { program := "ythfkhijfhjagkaa", sum := "c4c94d92673594c32d89a31df03fe83f029086c9d96070ff5a7e2544d9a0c9d7", func := "pulsehorn/hornlaw4.SoundStill", spec := "soundStill", unfollowed := true, recurses := true, apart := false }
def SoundStillSaid : Prop := soundStillRow.holds Try.pinned (OpenSpec.ofChange soundStillSpec)

/-- ITS FALSE NEIGHBOUR: 'it returns false'. Refute it at one input. -/
def soundStillWrong : ChangeSpec := { name := "soundStill", fn := fun _ => fun
  | [d] => { results := [.lit (.bool false)], args := [d] }
  | _ => none }
def SoundStillWrongFalsely : Prop := soundStillRow.holds Try.pinned (OpenSpec.ofChange soundStillWrong)

/-- 'hornlaw1.SoundWay': WHATEVER THE INPUT: true; the input reads as it did. -/
def soundWaySpec : ChangeSpec := { name := "soundWay", fn := fun _ => fun
  | [d1, d2, d3] => { results := [.lit (.bool true)], args := [d1, d2, d3] }
  | _ => none }
def soundWayRow : OpenClaim := { program := "ythfkhijfhjagkaa", sum := "c4c94d92673594c32d89a31df03fe83f029086c9d96070ff5a7e2544d9a0c9d7", func := "pulsehorn/hornlaw1.SoundWay", spec := "soundWay", unfollowed := true, recurses := true, apart := false }
def SoundWaySaid : Prop := soundWayRow.holds Try.pinned (OpenSpec.ofChange soundWaySpec)

/-- ITS FALSE NEIGHBOUR: 'it returns false'. Refute it at one input. -/
def soundWayWrong : ChangeSpec := { name := "soundWay", fn := fun _ => fun
  | [d1, d2, d3] => { results := [.lit (.bool false)], args := [d1, d2, d3] }
  | _ => none }
def SoundWayWrongFalsely : Prop := soundWayRow.holds Try.pinned (OpenSpec.ofChange soundWayWrong)

/-- 'hornlaw1.LapBack': WHATEVER THE INPUT: true; the input reads as it did. -/
def lapBackSpec : ChangeSpec := { name := "lapBack", fn := fun _ => fun
  | [d1, d2, d3, d4, d5] => { results := [.lit (.bool true)], args := [d1, d2, d3, d4, d5] }
  | _ => none }
def lapBackRow : OpenClaim := { program := "ythfkhijfhjagkaa", sum := "c4c94d92673594c32d89a31df03fe83f029086c9d96070ff5a7e2544d9a0c9d7", func := "pulsehorn/hornlaw1.LapBack", spec := "lapBack", unfollowed := true, recurses := true, apart := false }
def LapBackSaid : Prop := lapBackRow.holds Try.pinned (OpenSpec.ofChange lapBackSpec)

/-- ITS FALSE NEIGHBOUR: 'it returns false'. Refute it at one input. -/
def lapBackWrong : ChangeSpec := { name := "lapBack", fn := fun _ => fun
  | [d1, d2, d3, d4, d5] => { results := [.lit (.bool false)], args := [d1, d2, d3, d4, d5] }
  | _ => none }
def LapBackWrongFalsely : Prop := lapBackRow.holds Try.pinned (OpenSpec.ofChange lapBackWrong)

/-- 'hornlaw4.TreeNone': WHATEVER THE INPUT: true; the input reads as it did. -/
def treeNoneSpec : ChangeSpec := { name := "treeNone", fn := fun _ => fun
  | [d] => { results := [.lit (.bool true)], args := [d] }
  | _ => none }
def treeNoneRow : OpenClaim := { program := "ythfkhijfhjagkaa", sum := "c4c94d92673594c32d89a31df03fe83f029086c9d96070ff5a7e2544d9a0c9d7", func := "pulsehorn/hornlaw4.TreeNone", spec := "treeNone", unfollowed := true, recurses := true, apart := false }
def TreeNoneSaid : Prop := treeNoneRow.holds Try.pinned (OpenSpec.ofChange treeNoneSpec)

/-- ITS FALSE NEIGHBOUR: 'it returns false'. Refute it at one input. -/
def treeNoneWrong : ChangeSpec := { name := "treeNone", fn := fun _ => fun
  | [d] => { results := [.lit (.bool false)], args := [d] }
  | _ => none }
def TreeNoneWrongFalsely : Prop := treeNoneRow.holds Try.pinned (OpenSpec.ofChange treeNoneWrong)

/-- 'hornlaw1.TreeBack': WHATEVER THE INPUT: true; the input reads as it did. -/
def treeBackSpec : ChangeSpec := { name := "treeBack", fn := fun _ => fun
  | [d1, d2, d3] => { results := [.lit (.bool true)], args := [d1, d2, d3] }
  | _ => none }
def treeBackRow : OpenClaim := { program := "ythfkhijfhjagkaa", sum := "c4c94d92673594c32d89a31df03fe83f029086c9d96070ff5a7e2544d9a0c9d7", func := "pulsehorn/hornlaw1.TreeBack", spec := "treeBack", unfollowed := true, recurses := true, apart := false }
def TreeBackSaid : Prop := treeBackRow.holds Try.pinned (OpenSpec.ofChange treeBackSpec)

/-- ITS FALSE NEIGHBOUR: 'it returns false'. Refute it at one input. -/
def treeBackWrong : ChangeSpec := { name := "treeBack", fn := fun _ => fun
  | [d1, d2, d3] => { results := [.lit (.bool false)], args := [d1, d2, d3] }
  | _ => none }
def TreeBackWrongFalsely : Prop := treeBackRow.holds Try.pinned (OpenSpec.ofChange treeBackWrong)

/- THE SECOND FORM. 'bulk': how many values and letters a reading holds, each counted each time it is reached (what is shared counts as often as it is met; a slice's spare places count too). A statement '..UptoSaid' is the law's where the arguments, and the package variables that the reading takes, are together of bulk at most 1048576: NARROWER than '..Said'. Prove '..Said' where nothing that the law and all that it calls make is longer than what came in: it says more and counts as full. Else prove '..UptoSaid'. A law counts once. -/
mutual
def uptoBulk {H : Type} : DataW H → Nat
  | .lit (.string bytes) => bytes.length + 1
  | .lit _ => 1
  | .nil => 1
  | .ptr d => uptoBulk d + 1
  | .slice elems spare => uptoBulkAll elems + uptoBulkAll spare + 1
  | .agg parts => uptoBulkAll parts + 1
  | .iface _ d => uptoBulk d + 1
  | .map entries => uptoBulkEntries entries + 1
  | .held _ => 1
def uptoBulkAll {H : Type} : List (DataW H) → Nat
  | [] => 0
  | d :: r => uptoBulk d + uptoBulkAll r
def uptoBulkEntries {H : Type} : List (Lit × DataW H) → Nat
  | [] => 0
  | x :: r => uptoBulkEntry x + uptoBulkEntries r
def uptoBulkEntry {H : Type} : Lit × DataW H → Nat
  | (.string bytes, d) => bytes.length + uptoBulk d + 1
  | (_, d) => uptoBulk d + 1
 end
def uptoSmall : (H : Type) → List (DataW H) → Bool := fun _ ds => decide (uptoBulkAll ds ≤ 1048576)
def OpenSpec.upto (s : _root_.Go.ChangeSpec) : _root_.Go.OpenSpec := { _root_.Go.OpenSpec.ofChange s with cond := some uptoSmall }

/-- 'hornlaw4.PairHalf', WHERE WHAT IT READS IS OF BULK AT MOST 1048576: true; the input reads as it did. -/
def pairHalfUptoRow : OpenClaim := { program := "ythfkhijfhjagkaa", sum := "c4c94d92673594c32d89a31df03fe83f029086c9d96070ff5a7e2544d9a0c9d7", func := "pulsehorn/hornlaw4.PairHalf", spec := "pairHalf", apart := false, narrowed := true }
def PairHalfUptoSaid : Prop := pairHalfUptoRow.holds Try.pinned (OpenSpec.upto pairHalfSpec)

/-- 'hornlaw1.PairBack', WHERE WHAT IT READS IS OF BULK AT MOST 1048576: true; the input reads as it did. -/
def pairBackUptoRow : OpenClaim := { program := "ythfkhijfhjagkaa", sum := "c4c94d92673594c32d89a31df03fe83f029086c9d96070ff5a7e2544d9a0c9d7", func := "pulsehorn/hornlaw1.PairBack", spec := "pairBack", apart := false, narrowed := true }
def PairBackUptoSaid : Prop := pairBackUptoRow.holds Try.pinned (OpenSpec.upto pairBackSpec)

/-- 'hornlaw4.SoundStill', WHERE WHAT IT READS IS OF BULK AT MOST 1048576: true; the input reads as it did. -/
def soundStillUptoRow : OpenClaim := { program := "ythfkhijfhjagkaa", sum := "c4c94d92673594c32d89a31df03fe83f029086c9d96070ff5a7e2544d9a0c9d7", func := "pulsehorn/hornlaw4.SoundStill", spec := "soundStill", unfollowed := true, recurses := true, apart := false, narrowed := true }
def SoundStillUptoSaid : Prop := soundStillUptoRow.holds Try.pinned (OpenSpec.upto soundStillSpec)

/-- 'hornlaw1.SoundWay', WHERE WHAT IT READS IS OF BULK AT MOST 1048576: true; the input reads as it did. -/
def soundWayUptoRow : OpenClaim := { program := "ythfkhijfhjagkaa", sum := "c4c94d92673594c32d89a31df03fe83f029086c9d96070ff5a7e2544d9a0c9d7", func := "pulsehorn/hornlaw1.SoundWay", spec := "soundWay", unfollowed := true, recurses := true, apart := false, narrowed := true }
def SoundWayUptoSaid : Prop := soundWayUptoRow.holds Try.pinned (OpenSpec.upto soundWaySpec)

/-- 'hornlaw1.LapBack', WHERE WHAT IT READS IS OF BULK AT MOST 1048576: true; the input reads as it did. -/
def lapBackUptoRow : OpenClaim := { program := "ythfkhijfhjagkaa", sum := "c4c94d92673594c32d89a31df03fe83f029086c9d96070ff5a7e2544d9a0c9d7", func := "pulsehorn/hornlaw1.LapBack", spec := "lapBack", unfollowed := true, recurses := true, apart := false, narrowed := true }
def LapBackUptoSaid : Prop := lapBackUptoRow.holds Try.pinned (OpenSpec.upto lapBackSpec)

/-- 'hornlaw4.TreeNone', WHERE WHAT IT READS IS OF BULK AT MOST 1048576: true; the input reads as it did. -/
def treeNoneUptoRow : OpenClaim := { program := "ythfkhijfhjagkaa", sum := "c4c94d92673594c32d89a31df03fe83f029086c9d96070ff5a7e2544d9a0c9d7", func := "pulsehorn/hornlaw4.TreeNone", spec := "treeNone", unfollowed := true, recurses := true, apart := false, narrowed := true }
def TreeNoneUptoSaid : Prop := treeNoneUptoRow.holds Try.pinned (OpenSpec.upto treeNoneSpec)

/-- 'hornlaw1.TreeBack', WHERE WHAT IT READS IS OF BULK AT MOST 1048576: true; the input reads as it did. -/
def treeBackUptoRow : OpenClaim := { program := "ythfkhijfhjagkaa", sum := "c4c94d92673594c32d89a31df03fe83f029086c9d96070ff5a7e2544d9a0c9d7", func := "pulsehorn/hornlaw1.TreeBack", spec := "treeBack", unfollowed := true, recurses := true, apart := false, narrowed := true }
def TreeBackUptoSaid : Prop := treeBackUptoRow.holds Try.pinned (OpenSpec.upto treeBackSpec)

end Rows
end Go.Proofs.Ythfkhijfhjagkaa
