/- The document's answers, walked (chapter 11): signs as bytes. -/
import Derived.Test.YtlilommhdjdblaaDoorHornD
import Derived.Test.YtlilommhdjdblaaDoorRefScale
import Derived.Laws.Concat
namespace Go.Proofs.YtlilommhdjdblaaDoor
open Go.RowKit

theorem RdB.lit' (w : World) (l : List Nat) (t : TypeId) (cs : Array Value) (hcs : cs.toList = bvals l) : RdB (w.alloc (.cells cs t)) (w.alloc (.cells cs t)).heap.size (some ⟨w.heap.size, 0, none⟩) l.length l := by
  refine ⟨bvals_length l, fun _ => ⟨w.heap.size, 0, rfl, by simp, fun j _ => ?_⟩⟩
  rw [Nat.zero_add, cell_of_row _ w.heap.size j cs t (0, 0) (heap_alloc_new w _), ← hcs]
  simp
/-- The last k signs, the last one first. -/
def lastS (l : List Int) (k : Nat) : List Int := l.reverse.take k
theorem lastS_succ {l : List Int} {k : Nat} (h : k < l.length) : lastS l (k + 1) = lastS l k ++ [l.getD (l.length - 1 - k) 0] := by
  unfold lastS
  rw [List.take_add_one, List.getElem?_eq_getElem (by simpa using h), List.getElem_reverse, List.getD_eq_getElem?_getD, List.getElem?_eq_getElem (by omega)]
  rfl
end Go.Proofs.YtlilommhdjdblaaDoor
/- The document's answers, walked (chapter 11): bytes as signs. -/
namespace Go.Proofs.YtlilommhdjdblaaDoor
open Go.RowKit

theorem str_get (s : ByteArray) (k : Nat) (h : k < s.size) : (s[k]'h).toNat = (bytesOf s).getD k 0 := by
  unfold bytesOf
  rw [List.getD_eq_getElem?_getD, List.getElem?_map, List.getElem?_eq_getElem (by simpa using h)]
  rfl
theorem drop_get {l : List Nat} {k : Nat} (h : k < l.length) : l.drop k = l.getD k 0 :: l.drop (k + 1) := by
  rw [List.getD_eq_getElem?_getD, List.getElem?_eq_getElem h]; exact List.drop_eq_getElem_cons h
theorem decR_heard {f : List Int} (hf : Ph.sharesOk f) {b : List Nat} {M : Nat} {o : List Int} {X : Nat} {cs : List Nat} (h : Ph.heard f b M = some (o, X, cs)) (hne : X ≠ 65536 ∨ cs ≠ []) : decR f b M = none := by
  unfold decR
  rw [h]
  simp only [Option.bind_some]
  rw [if_neg]
  intro hb
  have := Ph.heard_ends hf h hb
  rcases hne with h1 | h1
  · exact h1 this.1
  · exact h1 this.2
/-- Signs, and whether bytes are such, by the document. -/
def UnP (R : Option (List Int)) (w : World) (e : Ending) (w' : World) : Prop :=
  ∃ A n c, e = .returned (.tuple #[.slice A n c, .bool R.isSome]) ∧ n ≤ 60 ∧ RdI w' w'.heap.size A n (R.getD []) ∧ Below w.heap.size w w'
end Go.Proofs.YtlilommhdjdblaaDoor
