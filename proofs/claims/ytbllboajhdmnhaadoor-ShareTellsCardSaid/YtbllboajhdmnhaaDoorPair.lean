/- Walks: pairs (chapter 2). -/
import Derived.Test.YtbllboajhdmnhaaDoorMem
import Derived.Test.YtbllboajhdmnhaaDoorPhLap
namespace Go.Proofs.YtbllboajhdmnhaaDoor
open Go.RowKit

theorem ret_bool {b c : Bool} (h : b = c) : Ending.returned (.bool b) = .returned (.bool c) := by rw [h]
theorem ret_true {b : Bool} (h : b = true) : Ending.returned (.bool b) = .returned (.bool true) := by rw [h]
theorem within_any (n m : Int) (w : World) (hm : 0 ≤ m ∧ m ≤ 1000000) :
    Calls Tryd.prog 99 #[.int .i64 n, .int .i64 m] w fun e w' => e = .returned (.bool (Ph.within n m)) ∧ w = w' := by
  go_enter Tryd.func99, Tryd.ntmps99
  go_wp2
  · go_ret
    have h : -m ≤ n := by assumption
    exact ⟨ret_bool (by simp [Ph.within, h]), rfl⟩
  · go_ret
    have h : n < -m := by assumption
    exact ⟨ret_bool (Ph.within_false.2 (.inl h)).symm, rfl⟩
theorem rfar_any (n : Int) (w : World) (h : -1000000000000 ≤ n ∧ n ≤ 1000000000000) :
    Calls Tryd.prog 68 #[.int .i64 n] w fun e w' => e = .returned (.int .i64 (Ph.far n)) ∧ w = w' := by
  rw [Ph.far_eq]
  by_cases h0 : n < 0
  · rw [if_pos h0]
    go_enter Tryd.func68, Tryd.ntmps68
    go_wp2
    go_ret
    exact ⟨rfl, rfl⟩
  · rw [if_neg h0]
    go_enter Tryd.func68, Tryd.ntmps68
    go_wp2
    go_ret
    exact ⟨rfl, rfl⟩
end Go.Proofs.YtbllboajhdmnhaaDoor
