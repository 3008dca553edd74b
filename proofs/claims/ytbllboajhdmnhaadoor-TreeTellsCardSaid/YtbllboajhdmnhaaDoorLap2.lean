/- Walks: over the edges, forward and back (chapter 4). -/
import Derived.Test.YtbllboajhdmnhaaDoorLap
import Derived.Test.YtbllboajhdmnhaaDoorPush
import Derived.StillTailTactics
namespace Go.Proofs.YtbllboajhdmnhaaDoor
open Go.RowKit
theorem evb {l : List Int} (h : ∀ q, -1000 ≤ l.getD q 0 ∧ l.getD q 0 ≤ 1000) (k j : Nat) : -10000 ≤ ((List.range k).map (Ph.ev l)).getD j 0 ∧ ((List.range k).map (Ph.ev l)).getD j 0 ≤ 10000 := by
  by_cases hj : j < k
  · rw [Ph.getD_map_range _ _ _ hj]
    have := h (2 * j)
    unfold Ph.ev
    omega
  · rw [List.getD_eq_getElem?_getD, List.getElem?_eq_none (by simp; omega)]
    simp
theorem difb {l : List Int} (h : ∀ q, -1000 ≤ l.getD q 0 ∧ l.getD q 0 ≤ 1000) (k j : Nat) : -10000 ≤ ((List.range k).map (Ph.dif l k)).getD j 0 ∧ ((List.range k).map (Ph.dif l k)).getD j 0 ≤ 10000 := by
  by_cases hj : j < k
  · rw [Ph.getD_map_range _ _ _ hj]
    have h1 := h (2 * j + 1)
    have h2 := h (2 * j)
    have h3 := h (2 * Ph.nxt k j)
    unfold Ph.dif Ph.ev
    omega
  · rw [List.getD_eq_getElem?_getD, List.getElem?_eq_none (by simp; omega)]
    simp
theorem set_turn (f g : Nat → Int) {q m : Nat} : ((List.range m).map (fun i => if i < q then f i else g i)).set q (f q) = (List.range m).map (fun i => if i < q + 1 then f i else g i) := by
  apply List.ext_getElem?
  intro j
  rw [List.getElem?_set]
  by_cases hj : j < m
  · simp only [List.getElem?_map, List.getElem?_range hj, Option.map_some, List.length_map, List.length_range]
    by_cases h1 : q = j
    · subst h1
      rw [if_pos rfl, if_pos hj, if_pos (by omega)]
    · rw [if_neg h1]
      by_cases h2 : j < q
      · rw [if_pos h2, if_pos (by omega)]
      · rw [if_neg h2, if_neg (by omega)]
  · have h0 : ∀ h : Nat → Int, ((List.range m).map h)[j]? = none := fun h => List.getElem?_eq_none (by simp; omega)
    rw [h0, h0]
    by_cases h1 : q = j
    · rw [if_pos h1, if_neg (by simp; omega)]
    · rw [if_neg h1]
theorem turn_all (f g : Nat → Int) {m : Nat} : (List.range m).map (fun i => if i < m then f i else g i) = (List.range m).map f := by
  apply List.map_congr_left
  intro i hi
  rw [if_pos (List.mem_range.1 hi)]
end Go.Proofs.YtbllboajhdmnhaaDoor
