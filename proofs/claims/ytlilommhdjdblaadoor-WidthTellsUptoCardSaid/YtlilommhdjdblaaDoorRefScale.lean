/- The document's answers, walked (chapter 10): counts, shares, and whose a place is. -/
import Derived.Test.YtlilommhdjdblaaDoorScale
import Derived.Test.YtlilommhdjdblaaDoorRef1
import Derived.Test.YtlilommhdjdblaaDoorMem
import Derived.BigQuiet
namespace Go.Proofs.YtlilommhdjdblaaDoor
open Go.RowKit
theorem badCount_mem {l : List Int} {k : Nat} (hk : k < l.length) (hx : l.getD k 0 < 0 ∨ 1000000 < l.getD k 0) : l.any badCount = true := by
  rw [List.any_eq_true]
  exact ⟨_, Ph.getD_mem hk, by unfold badCount; simp; exact hx⟩
end Go.Proofs.YtlilommhdjdblaaDoor
/- The document's answers, walked (chapter 10): counts, scaled. -/
namespace Go.Proofs.YtlilommhdjdblaaDoor
open Go.RowKit

/-- The numbers that a block holds. -/
def rowOfW (w : World) (g k : Nat) : List Int := (List.range k).map fun j => match w.cell? ⟨g, j, none⟩ with
  | some v => intOf v
  | none => 0
theorem rowOfW_own {w : World} {base g k c : Nat} {l : List Int} (h : w.ownsRow base 3 1 (.slice (some ⟨g, 0, none⟩) k c) k (ivals l)) (hl : l.length = k) : rowOfW w g k = l := by
  unfold rowOfW
  apply List.ext_getElem
  · simp [hl]
  · intro i h1 h2
    have hi : i < k := by simpa using h1
    simp only [List.getElem_map, List.getElem_range]
    rw [h.cellAt i (by omega), ivals_get h2, List.getD_eq_getElem?_getD, List.getElem?_eq_getElem h2]
    rfl
end Go.Proofs.YtlilommhdjdblaaDoor
