/- The walk of the law PairHalf. -/
import Derived.Test.YthfkhijfhjagkaaPair
namespace Go.Proofs.Ythfkhijfhjagkaa
open Go.RowKit

theorem pairHalf_walk (n : Int) (w : World) :
    Calls Try.prog 3 #[.int .i64 n] w fun e w' => e = .returned (.bool true) ∧ Below w.heap.size w w' := by
  have hm3 : Ph.within (-3) 8000 = true := by decide
  have hc : (Ph.within n 8000 = false ∧ (n < -8000 ∨ 8000 < n)) ∨ n = 8000 ∨ (Ph.within n 8000 = true ∧ Ph.within (n + 1) 8000 = true ∧ -8000 ≤ n ∧ n ≤ 7999) := by
    rw [Ph.within_false, Ph.within_iff, Ph.within_iff]; omega
  rcases hc with ⟨hw, h⟩ | h | ⟨hw, hw1, h1, h2⟩
  · have hr : (decide (n < -8000) || decide (8000 ≤ n)) = true := by simp; omega
    go_enter Try.func3, Try.ntmps3
    go_wp2_with fail
    refine (half_ok _ _ hm3).mono ?_
    rintro e w' ⟨rfl, rfl⟩
    go_wp2_with fail
    refine (half_no _ _ hw).mono ?_
    rintro e w' ⟨rfl, rfl⟩
    go_wp2
    all_goals go_ret
    all_goals exact ⟨ret_true (by first | (simp; done) | (simp; omega)), Below.refl _ _⟩
  · subst h
    have hw : Ph.within 8000 8000 = true := by decide
    go_enter Try.func3, Try.ntmps3
    go_wp2_with fail
    refine (half_ok _ _ hm3).mono ?_
    rintro e w' ⟨rfl, rfl⟩
    go_wp2_with fail
    refine (half_ok _ _ hw).mono ?_
    rintro e w' ⟨rfl, rfl⟩
    go_wp2
    go_ret
    exact ⟨rfl, Below.refl _ _⟩
  · have h8 : (n == 8000) = false := by simp; omega
    go_enter Try.func3, Try.ntmps3
    go_wp2_with fail
    refine (half_ok _ _ hm3).mono ?_
    rintro e w' ⟨rfl, rfl⟩
    go_wp2_with fail
    refine (half_ok _ _ hw).mono ?_
    rintro e w' ⟨rfl, rfl⟩
    go_wp2_with fail
    refine (half_ok _ _ hw1).mono ?_
    rintro e w' ⟨rfl, rfl⟩
    go_wp2
    go_ret
    exact ⟨ret_true (by simp; omega), Below.refl _ _⟩
end Go.Proofs.Ythfkhijfhjagkaa
