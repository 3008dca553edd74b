/- The document's answers, walked (chapter 11): signs as bytes. -/
import Derived.Test.YtapjnfhbjmeniaaHornE
import Derived.Test.YtapjnfhbjmeniaaRefScale
import Derived.Laws.Concat
namespace Go.Proofs.Ytapjnfhbjmeniaa
open Go.RowKit

theorem RdB.lit' (w : World) (l : List Nat) (t : TypeId) (cs : Array Value) (hcs : cs.toList = bvals l) : RdB (w.alloc (.cells cs t)) (w.alloc (.cells cs t)).heap.size (some ⟨w.heap.size, 0, none⟩) l.length l := by
  refine ⟨bvals_length l, fun _ => ⟨w.heap.size, 0, rfl, by simp, fun j _ => ?_⟩⟩
  rw [Nat.zero_add, cell_of_row _ w.heap.size j cs t (0, 0) (heap_alloc_new w _), ← hcs]
  simp
/-- The last k signs, the last one first. -/
def lastS (l : List Int) (k : Nat) : List Int := l.reverse.take k
theorem lastS_succ {l : List Int} {k : Nat} (h : k < l.length) : lastS l (k + 1) = lastS l k ++ [l.getD (l.length - 1 - k) 0] := by
  unfold lastS
  rw [List.take_add_one, List.getElem?_eq_getElem (by simpa using h), List.getElem_reverse, List.getD_eq_getElem?_getD, List.getElem?_eq_getElem (by omega)]
  rfl
end Go.Proofs.Ytapjnfhbjmeniaa
