/- Walks: back over the edges (chapter 4). -/
import Derived.Test.YtbllboajhdmnhaaDoorLap2
namespace Go.Proofs.YtbllboajhdmnhaaDoor
open Go.RowKit

theorem drop_getD (l : List Int) (d j : Nat) : (l.drop d).getD j 0 = l.getD (d + j) 0 := by
  rw [List.getD_eq_getElem?_getD, List.getD_eq_getElem?_getD, List.getElem?_drop]
theorem evIb {l : List Int} {d : Nat} (h : ∀ j, -10000 ≤ Ph.evI l d j ∧ Ph.evI l d j ≤ 10000) (k j : Nat) : -10000 ≤ ((List.range k).map (Ph.evI l d)).getD j 0 ∧ ((List.range k).map (Ph.evI l d)).getD j 0 ≤ 10000 := by
  by_cases hj : j < k
  · rw [Ph.getD_map_range _ _ _ hj]
    exact h j
  · rw [List.getD_eq_getElem?_getD, List.getElem?_eq_none (by simp; omega)]
    simp
end Go.Proofs.YtbllboajhdmnhaaDoor
