/- Walks: pairs (chapter 2). -/
import Derived.Test.YthfkhijfhjagkaaMem
import Derived.Test.YthfkhijfhjagkaaPhLap
namespace Go.Proofs.Ythfkhijfhjagkaa
open Go.RowKit

theorem ret_bool {b c : Bool} (h : b = c) : Ending.returned (.bool b) = .returned (.bool c) := by rw [h]
theorem ret_true {b : Bool} (h : b = true) : Ending.returned (.bool b) = .returned (.bool true) := by rw [h]
theorem within_any (n m : Int) (w : World) (hm : 0 ≤ m ∧ m ≤ 1000000) :
    Calls Try.prog 24 #[.int .i64 n, .int .i64 m] w fun e w' => e = .returned (.bool (Ph.within n m)) ∧ w = w' := by
  go_enter Try.func24, Try.ntmps24
  go_wp2
  · go_ret
    have h : -m ≤ n := by assumption
    exact ⟨ret_bool (by simp [Ph.within, h]), rfl⟩
  · go_ret
    have h : n < -m := by assumption
    exact ⟨ret_bool (Ph.within_false.2 (.inl h)).symm, rfl⟩
theorem half_ok (n : Int) (w : World) (h : Ph.within n 8000 = true) :
    Calls Try.prog 10 #[.int .i64 n] w fun e w' => e = .returned (.tuple #[.int .i64 (n / 2), .nilIface]) ∧ w = w' := by
  go_enter Try.func10, Try.ntmps10
  go_wp2_with (first | (go_at_call 24; refine (within_any _ _ _ (by omega)).mono ?_; rintro e w' ⟨rfl, rfl⟩) | go_in)
  go_ret2
  exact ⟨rfl, rfl⟩
theorem half_no (n : Int) (w : World) (h : Ph.within n 8000 = false) :
    Calls Try.prog 10 #[.int .i64 n] w fun e w' => e = .returned (.tuple #[.int .i64 0, .iface 44 (.int .i64 1)]) ∧ w = w' := by
  go_enter Try.func10, Try.ntmps10
  go_wp2_with (first | (go_at_call 24; refine (within_any _ _ _ (by omega)).mono ?_; rintro e w' ⟨rfl, rfl⟩) | go_in)
  go_ret2
  exact ⟨rfl, rfl⟩
end Go.Proofs.Ythfkhijfhjagkaa
