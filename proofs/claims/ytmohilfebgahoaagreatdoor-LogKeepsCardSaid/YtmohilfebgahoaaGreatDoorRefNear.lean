/- The document's answers, walked (chapter 7): the nearest pulses. -/
import Derived.Test.YtmohilfebgahoaaGreatDoorFar
import Derived.Test.YtmohilfebgahoaaGreatDoorRefPulse
import Derived.Test.YtmohilfebgahoaaGreatDoorPhAll
import Derived.BigQuiet
import Derived.BigRegion
namespace Go.Proofs.YtmohilfebgahoaaGreatDoor
open Go.RowKit

def qvals (f : Nat → Bool) (n : Nat) : List Value := (List.range n).map fun i => .bool (f i)
theorem qvals_length (f : Nat → Bool) (n : Nat) : (qvals f n).length = n := by simp [qvals]
theorem qvals_get (f : Nat → Bool) {n i : Nat} (h : i < n) : (qvals f n)[i]? = some (.bool (f i)) := by
  unfold qvals; rw [List.getElem?_map, List.getElem?_range h]; rfl
theorem qvals_set (f : Nat → Bool) (n x : Nat) (y : Bool) : (qvals f n).set x (.bool y) = qvals (fun i => if i = x then y else f i) n := by
  apply List.ext_getElem?
  intro i
  rw [List.getElem?_set]
  by_cases hi : i < n
  · rw [qvals_get _ hi, qvals_get _ hi, qvals_length]
    by_cases e : x = i
    · subst e; simp [hi]
    · rw [if_neg e, if_neg (fun h => e h.symm)]
  · rw [List.getElem?_eq_none (by rw [qvals_length]; omega), List.getElem?_eq_none (by rw [qvals_length]; omega), qvals_length]
    by_cases e : x = i
    · subst e; simp [hi]
    · rw [if_neg e]
theorem qvals_congr {f g : Nat → Bool} {n : Nat} (h : ∀ i, i < n → f i = g i) : qvals f n = qvals g n := List.map_congr_left fun i hi => by rw [h i (List.mem_range.1 hi)]
theorem bool_info : (Tryz.prog.info? 4).map (fun i => (i.zero, i.size, i.bytes)) = some (some (.bool false), 1, 1) := by kernel_rfl
theorem made_bools (W : World) (n : Nat) (hn : n ≤ 1000000) : (W.alloc (.cells (madeCells #[.bool false] n) 4)).ownsRow W.heap.size 4 1 (.slice (some ⟨W.heap.size, 0, none⟩) n n) n (qvals (fun _ => false) n) := by
  have := World.ownsRow_lit (base := W.heap.size) (e := 4) (size := 1) W (madeCells #[.bool false] n) n (Nat.le_refl _) (by unfold maxLen; omega) (by rw [size_madeCells, Nat.mul_one])
  rw [toList_madeCells_one] at this
  rw [show qvals (fun _ => false) n = List.replicate n (.bool false) by unfold qvals; rw [List.map_const', List.length_range]]
  exact this
end Go.Proofs.YtmohilfebgahoaaGreatDoor
