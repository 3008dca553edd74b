/- The document's answers, walked (chapter 1): all within a bound; what is wrong with samples, and with two. -/
import Derived.Test.YtapjnfhbjmeniaaSound
import Derived.Outline
namespace Go.Proofs.Ytapjnfhbjmeniaa
open Go.RowKit

theorem all_fails (l : List Int) (k : Nat) (m : Int) (hk : k < l.length) (h : Ph.within (l.getD k 0) m = false) : Ph.allIn l m = false := by
  cases ha : Ph.allIn l m
  · rfl
  · have h1 := Ph.allIn_iff.1 ha _ (Ph.getD_mem hk)
    rw [Ph.within_iff.2 h1] at h; cases h
end Go.Proofs.Ytapjnfhbjmeniaa
