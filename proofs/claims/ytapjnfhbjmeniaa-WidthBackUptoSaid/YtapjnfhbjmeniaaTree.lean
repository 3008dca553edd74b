/- Walks: level by level (chapter 3): what is wrong. -/
import Derived.Test.YtapjnfhbjmeniaaSound2
import Derived.Test.YtapjnfhbjmeniaaPush
import Derived.Test.YtapjnfhbjmeniaaShelf
import Derived.Outline
namespace Go.Proofs.Ytapjnfhbjmeniaa
open Go.RowKit

/-- What is wrong with numbers, and so many levels. -/
def treeErr (l : List Int) (levels bound : Int) : Int :=
  if 32 < l.length then 4 else if levels < 0 ∨ 5 < levels then 1 else if l.length % 2 ^ levels.toNat ≠ 0 then 3 else if Ph.allIn l bound = true then 0 else 1
theorem treeErr_zero {l : List Int} {levels bound : Int} : treeErr l levels bound = 0 ↔ l.length ≤ 32 ∧ 0 ≤ levels ∧ levels ≤ 5 ∧ l.length % 2 ^ levels.toNat = 0 ∧ Ph.allIn l bound = true := by
  unfold treeErr
  by_cases h1 : 32 < l.length
  · rw [if_pos h1]; constructor
    · intro h; omega
    · intro h; omega
  · rw [if_neg h1]
    by_cases h2 : levels < 0 ∨ 5 < levels
    · rw [if_pos h2]; constructor
      · intro h; omega
      · intro h; omega
    · rw [if_neg h2]
      by_cases h3 : l.length % 2 ^ levels.toNat ≠ 0
      · rw [if_pos h3]; constructor
        · intro h; omega
        · intro h; exact absurd h.2.2.2.1 h3
      · rw [if_neg h3]
        by_cases h4 : Ph.allIn l bound = true
        · rw [if_pos h4]; constructor
          · intro _; exact ⟨by omega, by omega, by omega, by omega, h4⟩
          · intro _; rfl
        · rw [if_neg h4]; constructor
          · intro h; omega
          · intro h; exact absurd h.2.2.2.2 h4
end Go.Proofs.Ytapjnfhbjmeniaa
