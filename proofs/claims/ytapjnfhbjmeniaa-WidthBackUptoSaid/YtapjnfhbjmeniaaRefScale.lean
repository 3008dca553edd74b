/- The document's answers, walked (chapter 10): counts, shares, and whose a place is. -/
import Derived.Test.YtapjnfhbjmeniaaScale2
import Derived.Test.YtapjnfhbjmeniaaRef1
import Derived.BigQuiet
namespace Go.Proofs.Ytapjnfhbjmeniaa
open Go.RowKit
theorem badCount_mem {l : List Int} {k : Nat} (hk : k < l.length) (hx : l.getD k 0 < 0 ∨ 1000000 < l.getD k 0) : l.any badCount = true := by
  rw [List.any_eq_true]
  exact ⟨_, Ph.getD_mem hk, by unfold badCount; simp; exact hx⟩
end Go.Proofs.Ytapjnfhbjmeniaa
