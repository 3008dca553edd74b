/- Walks: pairs (chapter 2). -/
import Derived.Test.YtapjnfhbjmeniaaMem
import Derived.Test.YtapjnfhbjmeniaaPhLap
namespace Go.Proofs.Ytapjnfhbjmeniaa
open Go.RowKit

theorem ret_bool {b c : Bool} (h : b = c) : Ending.returned (.bool b) = .returned (.bool c) := by rw [h]
theorem ret_true {b : Bool} (h : b = true) : Ending.returned (.bool b) = .returned (.bool true) := by rw [h]
theorem within_any (n m : Int) (w : World) (hm : 0 ≤ m ∧ m ≤ 1000000) :
    Calls Try.prog 72 #[.int .i64 n, .int .i64 m] w fun e w' => e = .returned (.bool (Ph.within n m)) ∧ w = w' := by
  go_enter Try.func72, Try.ntmps72
  go_wp2
  · go_ret
    have h : -m ≤ n := by assumption
    exact ⟨ret_bool (by simp [Ph.within, h]), rfl⟩
  · go_ret
    have h : n < -m := by assumption
    exact ⟨ret_bool (Ph.within_false.2 (.inl h)).symm, rfl⟩
end Go.Proofs.Ytapjnfhbjmeniaa
