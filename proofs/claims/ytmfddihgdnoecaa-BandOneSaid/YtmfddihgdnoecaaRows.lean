/-
  No cell of these rows narrows 'for every input' (looked for: loops, veiled, ifaces, maps, wideKeys, modest, calm, conditions, laid).
  DERIVED. THE GIVEN ROWS OF THIS SEAT. 12 by the template 'for every input the law returns true; each argument reads behind the call as it read before'; 0 by the template 'total and deterministic' (their statements: YtmfddihgdnoecaaTotals.lean).
  GIVEN WITH THE SEED: the statements are not yours to turn. If you find one false, say at which input.
  Laid BY PROGRAM, IN A SANDBOX (cutbox-rows.mjs): the forced cells as the released guide's own fill.sh prints them over the translation d8a089ed359278b8… (all of the seat's roots in one cut). By AI agents, Wed Nov 11 2026. No macro, syntax, notation, axiom, sorry.
-/
import Derived.Test.YtmfddihgdnoecaaChecked
import GoSem.Claim
import GoSem.ClaimJoined
import GoSem.ClaimMapViews
import Derived.JoinedTies
import Derived.KernelRfl
namespace Go.Proofs.Ytmfddihgdnoecaa
/- THE CELL 'sum', in the pinned program and in every row, IS THE sha256 OF THE DUMP (.gsa) THAT YtmfddihgdnoecaaProg.lean LOADS. Nothing in Lean hashes anything: it is a label: what it is worth is what the hold of that sum in a sandbox is worth. -/
noncomputable def Try.pinned : Pinned := { name := "ytmfddihgdnoecaa", sum := "d8a089ed359278b8d9f375632180367138c415a88f972b15ece88775e01ff20c", checked := Try.checked }
namespace Rows
def none {H : Type} : Left H := { results := [], args := [] }

/-- 'hornlaw1.LapBack': WHATEVER THE INPUT: true; the input reads as it did. -/
def lapBackSpec : ChangeSpec := { name := "lapBack", fn := fun _ => fun
  | [d1, d2, d3, d4, d5] => { results := [.lit (.bool true)], args := [d1, d2, d3, d4, d5] }
  | _ => none }
def lapBackRow : OpenClaim := { program := "ytmfddihgdnoecaa", sum := "d8a089ed359278b8d9f375632180367138c415a88f972b15ece88775e01ff20c", func := "pulsehorn/hornlaw1.LapBack", spec := "lapBack", unfollowed := true, recurses := true, apart := false }
def LapBackSaid : Prop := lapBackRow.holds Try.pinned (OpenSpec.ofChange lapBackSpec)

/-- ITS FALSE NEIGHBOUR: 'it returns false'. Refute it at one input. -/
def lapBackWrong : ChangeSpec := { name := "lapBack", fn := fun _ => fun
  | [d1, d2, d3, d4, d5] => { results := [.lit (.bool false)], args := [d1, d2, d3, d4, d5] }
  | _ => none }
def LapBackWrongFalsely : Prop := lapBackRow.holds Try.pinned (OpenSpec.ofChange lapBackWrong)

/-- 'hornlaw4.TreeNone': WHATEVER THE INPUT: true; the input reads as it did. -/
def treeNoneSpec : ChangeSpec := { name := "treeNone", fn := fun _ => fun
  | [d] => { results := [.lit (.bool true)], args := [d] }
  | _ => none }
def treeNoneRow : OpenClaim := { program := "ytmfddihgdnoecaa", sum := "d8a089ed359278b8d9f375632180367138c415a88f972b15ece88775e01ff20c", func := "pulsehorn/hornlaw4.TreeNone", spec := "treeNone", unfollowed := true, recurses := true, apart := false }
def TreeNoneSaid : Prop := treeNoneRow.holds Try.pinned (OpenSpec.ofChange treeNoneSpec)

/-- ITS FALSE NEIGHBOUR: 'it returns false'. Refute it at one input. -/
def treeNoneWrong : ChangeSpec := { name := "treeNone", fn := fun _ => fun
  | [d] => { results := [.lit (.bool false)], args := [d] }
  | _ => none }
def TreeNoneWrongFalsely : Prop := treeNoneRow.holds Try.pinned (OpenSpec.ofChange treeNoneWrong)

/-- 'hornlaw1.TreeBack': WHATEVER THE INPUT: true; the input reads as it did. -/
def treeBackSpec : ChangeSpec := { name := "treeBack", fn := fun _ => fun
  | [d1, d2, d3] => { results := [.lit (.bool true)], args := [d1, d2, d3] }
  | _ => none }
def treeBackRow : OpenClaim := { program := "ytmfddihgdnoecaa", sum := "d8a089ed359278b8d9f375632180367138c415a88f972b15ece88775e01ff20c", func := "pulsehorn/hornlaw1.TreeBack", spec := "treeBack", unfollowed := true, recurses := true, apart := false }
def TreeBackSaid : Prop := treeBackRow.holds Try.pinned (OpenSpec.ofChange treeBackSpec)

/-- ITS FALSE NEIGHBOUR: 'it returns false'. Refute it at one input. -/
def treeBackWrong : ChangeSpec := { name := "treeBack", fn := fun _ => fun
  | [d1, d2, d3] => { results := [.lit (.bool false)], args := [d1, d2, d3] }
  | _ => none }
def TreeBackWrongFalsely : Prop := treeBackRow.holds Try.pinned (OpenSpec.ofChange treeBackWrong)

/-- 'hornlaw4.CountOne': WHATEVER THE INPUT: true; the input reads as it did. -/
def countOneSpec : ChangeSpec := { name := "countOne", fn := fun _ => fun
  | [d1, d2] => { results := [.lit (.bool true)], args := [d1, d2] }
  | _ => none }
def countOneRow : OpenClaim := { program := "ytmfddihgdnoecaa", sum := "d8a089ed359278b8d9f375632180367138c415a88f972b15ece88775e01ff20c", func := "pulsehorn/hornlaw4.CountOne", spec := "countOne", apart := false }
def CountOneSaid : Prop := countOneRow.holds Try.pinned (OpenSpec.ofChange countOneSpec)

/-- ITS FALSE NEIGHBOUR: 'it returns false'. Refute it at one input. -/
def countOneWrong : ChangeSpec := { name := "countOne", fn := fun _ => fun
  | [d1, d2] => { results := [.lit (.bool false)], args := [d1, d2] }
  | _ => none }
def CountOneWrongFalsely : Prop := countOneRow.holds Try.pinned (OpenSpec.ofChange countOneWrong)

/-- 'hornlaw1.Names': WHATEVER THE INPUT: true; the input reads as it did. -/
def namesSpec : ChangeSpec := { name := "names", fn := fun _ => fun
  | [] => { results := [.lit (.bool true)], args := [] }
  | _ => none }
def namesRow : OpenClaim := { program := "ytmfddihgdnoecaa", sum := "d8a089ed359278b8d9f375632180367138c415a88f972b15ece88775e01ff20c", func := "pulsehorn/hornlaw1.Names", spec := "names", apart := false }
def NamesSaid : Prop := namesRow.holds Try.pinned (OpenSpec.ofChange namesSpec)

/-- ITS FALSE NEIGHBOUR: 'it returns false'. Refute it at one input. -/
def namesWrong : ChangeSpec := { name := "names", fn := fun _ => fun
  | [] => { results := [.lit (.bool false)], args := [] }
  | _ => none }
def NamesWrongFalsely : Prop := namesRow.holds Try.pinned (OpenSpec.ofChange namesWrong)

/-- 'hornlaw4.TankEven': WHATEVER THE INPUT: true; the input reads as it did. -/
def tankEvenSpec : ChangeSpec := { name := "tankEven", fn := fun _ => fun
  | [d1, d2, d3] => { results := [.lit (.bool true)], args := [d1, d2, d3] }
  | _ => none }
def tankEvenRow : OpenClaim := { program := "ytmfddihgdnoecaa", sum := "d8a089ed359278b8d9f375632180367138c415a88f972b15ece88775e01ff20c", func := "pulsehorn/hornlaw4.TankEven", spec := "tankEven", apart := false }
def TankEvenSaid : Prop := tankEvenRow.holds Try.pinned (OpenSpec.ofChange tankEvenSpec)

/-- ITS FALSE NEIGHBOUR: 'it returns false'. Refute it at one input. -/
def tankEvenWrong : ChangeSpec := { name := "tankEven", fn := fun _ => fun
  | [d1, d2, d3] => { results := [.lit (.bool false)], args := [d1, d2, d3] }
  | _ => none }
def TankEvenWrongFalsely : Prop := tankEvenRow.holds Try.pinned (OpenSpec.ofChange tankEvenWrong)

/-- 'hornlaw4.GainTwice': WHATEVER THE INPUT: true; the input reads as it did. -/
def gainTwiceSpec : ChangeSpec := { name := "gainTwice", fn := fun _ => fun
  | [d] => { results := [.lit (.bool true)], args := [d] }
  | _ => none }
def gainTwiceRow : OpenClaim := { program := "ytmfddihgdnoecaa", sum := "d8a089ed359278b8d9f375632180367138c415a88f972b15ece88775e01ff20c", func := "pulsehorn/hornlaw4.GainTwice", spec := "gainTwice", apart := false }
def GainTwiceSaid : Prop := gainTwiceRow.holds Try.pinned (OpenSpec.ofChange gainTwiceSpec)

/-- ITS FALSE NEIGHBOUR: 'it returns false'. Refute it at one input. -/
def gainTwiceWrong : ChangeSpec := { name := "gainTwice", fn := fun _ => fun
  | [d] => { results := [.lit (.bool false)], args := [d] }
  | _ => none }
def GainTwiceWrongFalsely : Prop := gainTwiceRow.holds Try.pinned (OpenSpec.ofChange gainTwiceWrong)

/-- 'hornlaw4.BandOne': WHATEVER THE INPUT: true; the input reads as it did. -/
def bandOneSpec : ChangeSpec := { name := "bandOne", fn := fun _ => fun
  | [d] => { results := [.lit (.bool true)], args := [d] }
  | _ => none }
def bandOneRow : OpenClaim := { program := "ytmfddihgdnoecaa", sum := "d8a089ed359278b8d9f375632180367138c415a88f972b15ece88775e01ff20c", func := "pulsehorn/hornlaw4.BandOne", spec := "bandOne", unfollowed := true, recurses := true, apart := false }
def BandOneSaid : Prop := bandOneRow.holds Try.pinned (OpenSpec.ofChange bandOneSpec)

/-- ITS FALSE NEIGHBOUR: 'it returns false'. Refute it at one input. -/
def bandOneWrong : ChangeSpec := { name := "bandOne", fn := fun _ => fun
  | [d] => { results := [.lit (.bool false)], args := [d] }
  | _ => none }
def BandOneWrongFalsely : Prop := bandOneRow.holds Try.pinned (OpenSpec.ofChange bandOneWrong)

/-- 'hornlaw1.GainNear': WHATEVER THE INPUT: true; the input reads as it did. -/
def gainNearSpec : ChangeSpec := { name := "gainNear", fn := fun _ => fun
  | [d1, d2] => { results := [.lit (.bool true)], args := [d1, d2] }
  | _ => none }
def gainNearRow : OpenClaim := { program := "ytmfddihgdnoecaa", sum := "d8a089ed359278b8d9f375632180367138c415a88f972b15ece88775e01ff20c", func := "pulsehorn/hornlaw1.GainNear", spec := "gainNear", apart := false }
def GainNearSaid : Prop := gainNearRow.holds Try.pinned (OpenSpec.ofChange gainNearSpec)

/-- ITS FALSE NEIGHBOUR: 'it returns false'. Refute it at one input. -/
def gainNearWrong : ChangeSpec := { name := "gainNear", fn := fun _ => fun
  | [d1, d2] => { results := [.lit (.bool false)], args := [d1, d2] }
  | _ => none }
def GainNearWrongFalsely : Prop := gainNearRow.holds Try.pinned (OpenSpec.ofChange gainNearWrong)

/-- 'hornlaw1.CountTurns': WHATEVER THE INPUT: true; the input reads as it did. -/
def countTurnsSpec : ChangeSpec := { name := "countTurns", fn := fun _ => fun
  | [d1, d2] => { results := [.lit (.bool true)], args := [d1, d2] }
  | _ => none }
def countTurnsRow : OpenClaim := { program := "ytmfddihgdnoecaa", sum := "d8a089ed359278b8d9f375632180367138c415a88f972b15ece88775e01ff20c", func := "pulsehorn/hornlaw1.CountTurns", spec := "countTurns", apart := false }
def CountTurnsSaid : Prop := countTurnsRow.holds Try.pinned (OpenSpec.ofChange countTurnsSpec)

/-- ITS FALSE NEIGHBOUR: 'it returns false'. Refute it at one input. -/
def countTurnsWrong : ChangeSpec := { name := "countTurns", fn := fun _ => fun
  | [d1, d2] => { results := [.lit (.bool false)], args := [d1, d2] }
  | _ => none }
def CountTurnsWrongFalsely : Prop := countTurnsRow.holds Try.pinned (OpenSpec.ofChange countTurnsWrong)

/-- 'hornlaw1.PulseOnce': WHATEVER THE INPUT: true; the input reads as it did. -/
def pulseOnceSpec : ChangeSpec := { name := "pulseOnce", fn := fun _ => fun
  | [d1, d2, d3, d4, d5] => { results := [.lit (.bool true)], args := [d1, d2, d3, d4, d5] }
  | _ => none }
def pulseOnceRow : OpenClaim := { program := "ytmfddihgdnoecaa", sum := "d8a089ed359278b8d9f375632180367138c415a88f972b15ece88775e01ff20c", func := "pulsehorn/hornlaw1.PulseOnce", spec := "pulseOnce", unfollowed := true, recurses := true, apart := false }
def PulseOnceSaid : Prop := pulseOnceRow.holds Try.pinned (OpenSpec.ofChange pulseOnceSpec)

/-- ITS FALSE NEIGHBOUR: 'it returns false'. Refute it at one input. -/
def pulseOnceWrong : ChangeSpec := { name := "pulseOnce", fn := fun _ => fun
  | [d1, d2, d3, d4, d5] => { results := [.lit (.bool false)], args := [d1, d2, d3, d4, d5] }
  | _ => none }
def PulseOnceWrongFalsely : Prop := pulseOnceRow.holds Try.pinned (OpenSpec.ofChange pulseOnceWrong)

/-- 'hornlaw1.BandBack': WHATEVER THE INPUT: true; the input reads as it did. -/
def bandBackSpec : ChangeSpec := { name := "bandBack", fn := fun _ => fun
  | [d1, d2, d3] => { results := [.lit (.bool true)], args := [d1, d2, d3] }
  | _ => none }
def bandBackRow : OpenClaim := { program := "ytmfddihgdnoecaa", sum := "d8a089ed359278b8d9f375632180367138c415a88f972b15ece88775e01ff20c", func := "pulsehorn/hornlaw1.BandBack", spec := "bandBack", unfollowed := true, recurses := true, apart := false }
def BandBackSaid : Prop := bandBackRow.holds Try.pinned (OpenSpec.ofChange bandBackSpec)

/-- ITS FALSE NEIGHBOUR: 'it returns false'. Refute it at one input. -/
def bandBackWrong : ChangeSpec := { name := "bandBack", fn := fun _ => fun
  | [d1, d2, d3] => { results := [.lit (.bool false)], args := [d1, d2, d3] }
  | _ => none }
def BandBackWrongFalsely : Prop := bandBackRow.holds Try.pinned (OpenSpec.ofChange bandBackWrong)

/- THE SECOND FORM. 'bulk': how many values and letters a reading holds, each counted each time it is reached (what is shared counts as often as it is met; a slice's spare places count too). A statement '..UptoSaid' is the law's where the arguments, and the package variables that the reading takes, are together of bulk at most 1048576: NARROWER than '..Said'. Prove '..Said' where nothing that the law and all that it calls make is longer than what came in: it says more and counts as full. Else prove '..UptoSaid'. A law counts once. -/
mutual
def uptoBulk {H : Type} : DataW H → Nat
  | .lit (.string bytes) => bytes.length + 1
  | .lit _ => 1
  | .nil => 1
  | .ptr d => uptoBulk d + 1
  | .slice elems spare => uptoBulkAll elems + uptoBulkAll spare + 1
  | .agg parts => uptoBulkAll parts + 1
  | .iface _ d => uptoBulk d + 1
  | .map entries => uptoBulkEntries entries + 1
  | .held _ => 1
def uptoBulkAll {H : Type} : List (DataW H) → Nat
  | [] => 0
  | d :: r => uptoBulk d + uptoBulkAll r
def uptoBulkEntries {H : Type} : List (Lit × DataW H) → Nat
  | [] => 0
  | x :: r => uptoBulkEntry x + uptoBulkEntries r
def uptoBulkEntry {H : Type} : Lit × DataW H → Nat
  | (.string bytes, d) => bytes.length + uptoBulk d + 1
  | (_, d) => uptoBulk d + 1
 end
def uptoSmall : (H : Type) → List (DataW H) → Bool := fun _ ds => decide (uptoBulkAll ds ≤ 1048576)
def OpenSpec.upto (s : _root_.Go.ChangeSpec) : _root_.Go.OpenSpec := { _root_.Go.OpenSpec.ofChange s with cond := some uptoSmall }

/-- 'hornlaw1.LapBack', WHERE WHAT IT READS IS OF BULK AT MOST 1048576: true; the input reads as it did. -/
def lapBackUptoRow : OpenClaim := { program := "ytmfddihgdnoecaa", sum := "d8a089ed359278b8d9f375632180367138c415a88f972b15ece88775e01ff20c", func := "pulsehorn/hornlaw1.LapBack", spec := "lapBack", unfollowed := true, recurses := true, apart := false, narrowed := true }
def LapBackUptoSaid : Prop := lapBackUptoRow.holds Try.pinned (OpenSpec.upto lapBackSpec)

/-- 'hornlaw4.TreeNone', WHERE WHAT IT READS IS OF BULK AT MOST 1048576: true; the input reads as it did. -/
def treeNoneUptoRow : OpenClaim := { program := "ytmfddihgdnoecaa", sum := "d8a089ed359278b8d9f375632180367138c415a88f972b15ece88775e01ff20c", func := "pulsehorn/hornlaw4.TreeNone", spec := "treeNone", unfollowed := true, recurses := true, apart := false, narrowed := true }
def TreeNoneUptoSaid : Prop := treeNoneUptoRow.holds Try.pinned (OpenSpec.upto treeNoneSpec)

/-- 'hornlaw1.TreeBack', WHERE WHAT IT READS IS OF BULK AT MOST 1048576: true; the input reads as it did. -/
def treeBackUptoRow : OpenClaim := { program := "ytmfddihgdnoecaa", sum := "d8a089ed359278b8d9f375632180367138c415a88f972b15ece88775e01ff20c", func := "pulsehorn/hornlaw1.TreeBack", spec := "treeBack", unfollowed := true, recurses := true, apart := false, narrowed := true }
def TreeBackUptoSaid : Prop := treeBackUptoRow.holds Try.pinned (OpenSpec.upto treeBackSpec)

/-- 'hornlaw4.CountOne', WHERE WHAT IT READS IS OF BULK AT MOST 1048576: true; the input reads as it did. -/
def countOneUptoRow : OpenClaim := { program := "ytmfddihgdnoecaa", sum := "d8a089ed359278b8d9f375632180367138c415a88f972b15ece88775e01ff20c", func := "pulsehorn/hornlaw4.CountOne", spec := "countOne", apart := false, narrowed := true }
def CountOneUptoSaid : Prop := countOneUptoRow.holds Try.pinned (OpenSpec.upto countOneSpec)

/-- 'hornlaw1.Names', WHERE WHAT IT READS IS OF BULK AT MOST 1048576: true; the input reads as it did. -/
def namesUptoRow : OpenClaim := { program := "ytmfddihgdnoecaa", sum := "d8a089ed359278b8d9f375632180367138c415a88f972b15ece88775e01ff20c", func := "pulsehorn/hornlaw1.Names", spec := "names", apart := false, narrowed := true }
def NamesUptoSaid : Prop := namesUptoRow.holds Try.pinned (OpenSpec.upto namesSpec)

/-- 'hornlaw4.TankEven', WHERE WHAT IT READS IS OF BULK AT MOST 1048576: true; the input reads as it did. -/
def tankEvenUptoRow : OpenClaim := { program := "ytmfddihgdnoecaa", sum := "d8a089ed359278b8d9f375632180367138c415a88f972b15ece88775e01ff20c", func := "pulsehorn/hornlaw4.TankEven", spec := "tankEven", apart := false, narrowed := true }
def TankEvenUptoSaid : Prop := tankEvenUptoRow.holds Try.pinned (OpenSpec.upto tankEvenSpec)

/-- 'hornlaw4.GainTwice', WHERE WHAT IT READS IS OF BULK AT MOST 1048576: true; the input reads as it did. -/
def gainTwiceUptoRow : OpenClaim := { program := "ytmfddihgdnoecaa", sum := "d8a089ed359278b8d9f375632180367138c415a88f972b15ece88775e01ff20c", func := "pulsehorn/hornlaw4.GainTwice", spec := "gainTwice", apart := false, narrowed := true }
def GainTwiceUptoSaid : Prop := gainTwiceUptoRow.holds Try.pinned (OpenSpec.upto gainTwiceSpec)

/-- 'hornlaw4.BandOne', WHERE WHAT IT READS IS OF BULK AT MOST 1048576: true; the input reads as it did. -/
def bandOneUptoRow : OpenClaim := { program := "ytmfddihgdnoecaa", sum := "d8a089ed359278b8d9f375632180367138c415a88f972b15ece88775e01ff20c", func := "pulsehorn/hornlaw4.BandOne", spec := "bandOne", unfollowed := true, recurses := true, apart := false, narrowed := true }
def BandOneUptoSaid : Prop := bandOneUptoRow.holds Try.pinned (OpenSpec.upto bandOneSpec)

/-- 'hornlaw1.GainNear', WHERE WHAT IT READS IS OF BULK AT MOST 1048576: true; the input reads as it did. -/
def gainNearUptoRow : OpenClaim := { program := "ytmfddihgdnoecaa", sum := "d8a089ed359278b8d9f375632180367138c415a88f972b15ece88775e01ff20c", func := "pulsehorn/hornlaw1.GainNear", spec := "gainNear", apart := false, narrowed := true }
def GainNearUptoSaid : Prop := gainNearUptoRow.holds Try.pinned (OpenSpec.upto gainNearSpec)

/-- 'hornlaw1.CountTurns', WHERE WHAT IT READS IS OF BULK AT MOST 1048576: true; the input reads as it did. -/
def countTurnsUptoRow : OpenClaim := { program := "ytmfddihgdnoecaa", sum := "d8a089ed359278b8d9f375632180367138c415a88f972b15ece88775e01ff20c", func := "pulsehorn/hornlaw1.CountTurns", spec := "countTurns", apart := false, narrowed := true }
def CountTurnsUptoSaid : Prop := countTurnsUptoRow.holds Try.pinned (OpenSpec.upto countTurnsSpec)

/-- 'hornlaw1.PulseOnce', WHERE WHAT IT READS IS OF BULK AT MOST 1048576: true; the input reads as it did. -/
def pulseOnceUptoRow : OpenClaim := { program := "ytmfddihgdnoecaa", sum := "d8a089ed359278b8d9f375632180367138c415a88f972b15ece88775e01ff20c", func := "pulsehorn/hornlaw1.PulseOnce", spec := "pulseOnce", unfollowed := true, recurses := true, apart := false, narrowed := true }
def PulseOnceUptoSaid : Prop := pulseOnceUptoRow.holds Try.pinned (OpenSpec.upto pulseOnceSpec)

/-- 'hornlaw1.BandBack', WHERE WHAT IT READS IS OF BULK AT MOST 1048576: true; the input reads as it did. -/
def bandBackUptoRow : OpenClaim := { program := "ytmfddihgdnoecaa", sum := "d8a089ed359278b8d9f375632180367138c415a88f972b15ece88775e01ff20c", func := "pulsehorn/hornlaw1.BandBack", spec := "bandBack", unfollowed := true, recurses := true, apart := false, narrowed := true }
def BandBackUptoSaid : Prop := bandBackUptoRow.holds Try.pinned (OpenSpec.upto bandBackSpec)

end Rows
end Go.Proofs.Ytmfddihgdnoecaa
