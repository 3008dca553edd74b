/- Walks: slices.Reverse over bytes of the call's own (for chapter 11). -/
import Derived.Test.YtlilommhdjdblaaDoorBytes
import Derived.Deep.QuietTactic
import Derived.BigQuiet
import Derived.BigRegion
namespace Go.Proofs.YtlilommhdjdblaaDoor
open Go.RowKit

/-- So far turned round: i from either end. -/
def rvAt (l : List Nat) (i : Nat) : List Nat := (List.range l.length).map fun j => if j < i ∨ l.length - 1 - j < i then l.getD (l.length - 1 - j) 0 else l.getD j 0
theorem rvAt_length (l : List Nat) (i : Nat) : (rvAt l i).length = l.length := by simp [rvAt]
theorem rvAt_getD {l : List Nat} {i j : Nat} (h : j < l.length) : (rvAt l i).getD j 0 = if j < i ∨ l.length - 1 - j < i then l.getD (l.length - 1 - j) 0 else l.getD j 0 := by
  rw [List.getD_eq_getElem?_getD, List.getElem?_eq_getElem (by rw [rvAt_length]; exact h)]
  simp [rvAt]
theorem nlist_ext {a b : List Nat} (hl : a.length = b.length) (h : ∀ j, j < a.length → a.getD j 0 = b.getD j 0) : a = b := by
  apply List.ext_getElem hl
  intro j h1 h2
  have := h j h1
  rwa [List.getD_eq_getElem?_getD, List.getElem?_eq_getElem h1, List.getD_eq_getElem?_getD, List.getElem?_eq_getElem h2] at this
theorem rvAt_zero (l : List Nat) : rvAt l 0 = l := by
  refine nlist_ext (rvAt_length _ _) fun j hj => ?_
  rw [rvAt_length] at hj
  rw [rvAt_getD hj, if_neg (by omega)]
theorem getD_reverse {l : List Nat} {j : Nat} (h : j < l.length) : l.reverse.getD j 0 = l.getD (l.length - 1 - j) 0 := by
  rw [List.getD_eq_getElem?_getD, List.getElem?_eq_getElem (by simpa using h), List.getElem_reverse, List.getD_eq_getElem?_getD, List.getElem?_eq_getElem (by omega)]
theorem rvAt_done {l : List Nat} {i : Nat} (h : l.length ≤ 2 * i + 1) : rvAt l i = l.reverse := by
  refine nlist_ext (by rw [rvAt_length, List.length_reverse]) fun j hj => ?_
  rw [rvAt_length] at hj
  rw [rvAt_getD hj, getD_reverse hj]
  split
  · rfl
  · rw [show l.length - 1 - j = j by omega]
theorem getD_set2 (l : List Nat) (i j x : Nat) (h : i < l.length) : (l.set i x).getD j 0 = if i = j then x else l.getD j 0 := by
  rw [List.getD_eq_getElem?_getD, List.getElem?_set, List.getD_eq_getElem?_getD]
  by_cases e : i = j
  · subst e; rw [if_pos rfl, if_pos h, if_pos rfl]; rfl
  · rw [if_neg e, if_neg e]
theorem rvAt_step {l : List Nat} {i : Nat} (h : 2 * i + 1 < l.length) : ((rvAt l i).set i (l.getD (l.length - 1 - i) 0)).set (l.length - 1 - i) (l.getD i 0) = rvAt l (i + 1) := by
  refine nlist_ext (by rw [List.length_set, List.length_set, rvAt_length, rvAt_length]) fun j hj => ?_
  rw [List.length_set, List.length_set, rvAt_length] at hj
  rw [getD_set2 _ _ _ _ (by rw [List.length_set, rvAt_length]; omega), getD_set2 _ _ _ _ (by rw [rvAt_length]; omega), rvAt_getD hj, rvAt_getD hj]
  by_cases h1 : l.length - 1 - i = j
  · subst h1
    rw [if_pos rfl, if_pos (by omega)]; congr 1; omega
  · rw [if_neg h1]
    by_cases h2 : i = j
    · subst h2
      rw [if_pos rfl, if_pos (by omega)]
    · rw [if_neg h2]
      by_cases h3 : j < i ∨ l.length - 1 - j < i
      · rw [if_pos h3, if_pos (by omega)]
      · rw [if_neg h3, if_neg (by omega)]
theorem grownBy_setCellB (W : World) (b o : Nat) (v : Value) : W.grownBy (W.setCell ⟨b, o, none⟩ v) (some b) :=
  ⟨rfl, rfl, rfl, by simp, fun k _ hk => heap_setCell_other W _ k v (fun e => hk (by first | exact congrArg some e | exact congrArg some e.symm))⟩
theorem own_lit (w : World) (l : List Nat) (cs : Array Value) (hcs : cs.toList = bvals l) (hl : l.length ≤ 1000000) : (w.alloc (.cells cs 5)).ownsRow w.heap.size 5 1 (.slice (some ⟨w.heap.size, 0, none⟩) l.length l.length) l.length (bvals l) := by
  have hs : cs.size = l.length := by rw [← Array.length_toList, hcs, bvals_length]
  exact ⟨by rw [bvals_length]; omega, .inr ⟨w.heap.size, l.length, cs, rfl, Nat.le_refl _, heap_alloc_new w _, Nat.le_refl _, by unfold maxLen; omega, by omega, by rw [hcs, Nat.mul_one, List.take_of_length_le (by rw [bvals_length]; omega)]⟩⟩
end Go.Proofs.YtlilommhdjdblaaDoor
