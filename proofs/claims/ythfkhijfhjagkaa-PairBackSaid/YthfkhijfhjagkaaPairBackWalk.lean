/- The walk of the law PairBack. -/
import Derived.Test.YthfkhijfhjagkaaPair
namespace Go.Proofs.Ythfkhijfhjagkaa
open Go.RowKit

/-- The second half: back, and there again. -/
def BackThere (a b : Int) : Prop :=
  (Ph.within a 4000 = false ∨ Ph.within b 4000 = false) ∨
  ((Ph.within a 4000 = true ∧ Ph.within b 4000 = true) ∧ Ph.within (a + (b + 1) / 2) 2000 = true ∧ Ph.within (a + (b + 1) / 2 - b) 2000 = true) ∨
  ((Ph.within a 4000 = true ∧ Ph.within b 4000 = true) ∧ (Ph.within (a + (b + 1) / 2) 2000 = false ∨ Ph.within (a + (b + 1) / 2 - b) 2000 = false))
theorem backThere (a b : Int) : BackThere a b := by
  unfold BackThere
  cases Ph.within a 4000 <;> cases Ph.within b 4000 <;> cases Ph.within (a + (b + 1) / 2) 2000 <;> cases Ph.within (a + (b + 1) / 2 - b) 2000 <;> simp
theorem there_is (a b : Int) : (Ph.within a 2000 = true ∧ Ph.within b 2000 = true ∧ Ph.within ((a + b) / 2) 4000 = true ∧ Ph.within (a - b) 4000 = true ∧ -2000 ≤ a ∧ a ≤ 2000 ∧ -2000 ≤ b ∧ b ≤ 2000) ∨ (Ph.within a 2000 = false ∨ Ph.within b 2000 = false) := by
  by_cases ha : Ph.within a 2000 = true
  · by_cases hb : Ph.within b 2000 = true
    · left
      have h1 := Ph.within_iff.1 ha
      have h2 := Ph.within_iff.1 hb
      exact ⟨ha, hb, Ph.within_iff.2 (by omega), Ph.within_iff.2 (by omega), by omega⟩
    · right; right; simpa using hb
  · right; left; simpa using ha
theorem pairBack_walk (a b : Int) (w : World) :
    Calls Try.prog 4 #[.int .i64 a, .int .i64 b] w fun e w' => e = .returned (.bool true) ∧ Below w.heap.size w w' := by
  have k1 : Ph.within 4 2000 = true := by decide
  have k2 : Ph.within 7 2000 = true := by decide
  rcases there_is a b with ⟨p1, p2, p3, p4, _, _, _, _⟩ | hP
  all_goals rcases backThere a b with hQ | ⟨⟨q1, q2⟩, r1, r2⟩ | ⟨⟨q1, q2⟩, hR⟩
  all_goals
    try
      have b1 := Ph.within_iff.1 q1
      have b2 := Ph.within_iff.1 q2
    try
      have hF : (2000 < Ph.far (a + (b + 1) / 2)) ∨ (Ph.far (a + (b + 1) / 2) ≤ 2000 ∧ 2000 < Ph.far (a + (b + 1) / 2 - b)) := by
        rw [Ph.within_false, Ph.within_false] at hR
        rw [Ph.far_eq, Ph.far_eq]
        split <;> split <;> omega
      rcases hF with hF | ⟨hF, hG⟩
  all_goals go_enter Try.func4, Try.ntmps4
  all_goals go_wp2_with (first | (go_at_call 11; refine (forward_ok _ _ _ (by assumption) (by assumption)).mono ?_; rintro e w' ⟨rfl, rfl⟩) | (go_at_call 11; refine (forward_no _ _ _ (by assumption)).mono ?_; rintro e w' ⟨rfl, rfl⟩) | (go_at_call 12; refine (inverse_ok _ _ _ (by assumption) (by assumption)).mono ?_; rintro e w' ⟨rfl, rfl⟩) | (go_at_call 12; refine (inverse_no _ _ _ (by assumption)).mono ?_; rintro e w' ⟨rfl, rfl⟩) | (go_at_call 13; refine (rfar_any _ _ (by omega)).mono ?_; rintro e w' ⟨rfl, rfl⟩))
  all_goals go_ret
  all_goals exact ⟨ret_true (by first | (simp; done) | (simp; omega) | omega), Below.refl _ _⟩
end Go.Proofs.Ythfkhijfhjagkaa
