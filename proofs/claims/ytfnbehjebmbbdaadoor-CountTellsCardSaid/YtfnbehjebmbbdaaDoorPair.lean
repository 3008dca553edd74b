/- Walks: pairs (chapter 2). -/
import Derived.Test.YtfnbehjebmbbdaaDoorMem
import Derived.Test.YtfnbehjebmbbdaaDoorPhLap
namespace Go.Proofs.YtfnbehjebmbbdaaDoor
open Go.RowKit

theorem ret_bool {b c : Bool} (h : b = c) : Ending.returned (.bool b) = .returned (.bool c) := by rw [h]
theorem ret_true {b : Bool} (h : b = true) : Ending.returned (.bool b) = .returned (.bool true) := by rw [h]
theorem within_any (n m : Int) (w : World) (hm : 0 ≤ m ∧ m ≤ 1000000) :
    Calls Tryd.prog 59 #[.int .i64 n, .int .i64 m] w fun e w' => e = .returned (.bool (Ph.within n m)) ∧ w = w' := by
  go_enter Tryd.func59, Tryd.ntmps59
  go_wp2
  · go_ret
    have h : -m ≤ n := by assumption
    exact ⟨ret_bool (by simp [Ph.within, h]), rfl⟩
  · go_ret
    have h : n < -m := by assumption
    exact ⟨ret_bool (Ph.within_false.2 (.inl h)).symm, rfl⟩
theorem half_ok (n : Int) (w : World) (h : Ph.within n 8000 = true) :
    Calls Tryd.prog 16 #[.int .i64 n] w fun e w' => e = .returned (.tuple #[.int .i64 (n / 2), .nilIface]) ∧ w = w' := by
  go_enter Tryd.func16, Tryd.ntmps16
  go_wp2_with (first | (go_at_call 59; refine (within_any _ _ _ (by omega)).mono ?_; rintro e w' ⟨rfl, rfl⟩) | go_in)
  go_ret2
  exact ⟨rfl, rfl⟩
theorem half_no (n : Int) (w : World) (h : Ph.within n 8000 = false) :
    Calls Tryd.prog 16 #[.int .i64 n] w fun e w' => e = .returned (.tuple #[.int .i64 0, .iface 72 (.int .i64 1)]) ∧ w = w' := by
  go_enter Tryd.func16, Tryd.ntmps16
  go_wp2_with (first | (go_at_call 59; refine (within_any _ _ _ (by omega)).mono ?_; rintro e w' ⟨rfl, rfl⟩) | go_in)
  go_ret2
  exact ⟨rfl, rfl⟩
theorem forward_ok (a b : Int) (w : World) (ha : Ph.within a 2000 = true) (hb : Ph.within b 2000 = true) :
    Calls Tryd.prog 18 #[.int .i64 a, .int .i64 b] w fun e w' => e = .returned (.tuple #[.int .i64 ((a + b) / 2), .int .i64 (a - b), .nilIface]) ∧ w = w' := by
  have h1 := Ph.within_iff.1 ha
  have h2 := Ph.within_iff.1 hb
  go_enter Tryd.func18, Tryd.ntmps18
  go_wp2_with (first | (go_at_call 59; refine (within_any _ _ _ (by omega)).mono ?_; rintro e w' ⟨rfl, rfl⟩) | go_in)
  go_ret3
  exact ⟨rfl, rfl⟩
theorem forward_no (a b : Int) (w : World) (h : Ph.within a 2000 = false ∨ Ph.within b 2000 = false) :
    Calls Tryd.prog 18 #[.int .i64 a, .int .i64 b] w fun e w' => e = .returned (.tuple #[.int .i64 0, .int .i64 0, .iface 72 (.int .i64 1)]) ∧ w = w' := by
  cases ha : Ph.within a 2000
  all_goals
    cases hb : Ph.within b 2000
    all_goals
      first
      | (exfalso; simp [ha, hb] at h; done)
      | (clear h
         go_enter Tryd.func18, Tryd.ntmps18
         go_wp2_with (first | (go_at_call 59; refine (within_any _ _ _ (by omega)).mono ?_; rintro e w' ⟨rfl, rfl⟩) | go_in)
         go_ret3
         exact ⟨rfl, rfl⟩)
theorem inverse_ok (s d : Int) (w : World) (ha : Ph.within s 4000 = true) (hb : Ph.within d 4000 = true) :
    Calls Tryd.prog 19 #[.int .i64 s, .int .i64 d] w fun e w' => e = .returned (.tuple #[.int .i64 (s + (d + 1) / 2), .int .i64 (s + (d + 1) / 2 - d), .nilIface]) ∧ w = w' := by
  have h1 := Ph.within_iff.1 ha
  have h2 := Ph.within_iff.1 hb
  go_enter Tryd.func19, Tryd.ntmps19
  go_wp2_with (first | (go_at_call 59; refine (within_any _ _ _ (by omega)).mono ?_; rintro e w' ⟨rfl, rfl⟩) | go_in)
  go_ret3
  exact ⟨rfl, rfl⟩
theorem inverse_no (s d : Int) (w : World) (h : Ph.within s 4000 = false ∨ Ph.within d 4000 = false) :
    Calls Tryd.prog 19 #[.int .i64 s, .int .i64 d] w fun e w' => e = .returned (.tuple #[.int .i64 0, .int .i64 0, .iface 72 (.int .i64 1)]) ∧ w = w' := by
  cases ha : Ph.within s 4000
  all_goals
    cases hb : Ph.within d 4000
    all_goals
      first
      | (exfalso; simp [ha, hb] at h; done)
      | (clear h
         go_enter Tryd.func19, Tryd.ntmps19
         go_wp2_with (first | (go_at_call 59; refine (within_any _ _ _ (by omega)).mono ?_; rintro e w' ⟨rfl, rfl⟩) | go_in)
         go_ret3
         exact ⟨rfl, rfl⟩)
theorem rfar_any (n : Int) (w : World) (h : -1000000000000 ≤ n ∧ n ≤ 1000000000000) :
    Calls Tryd.prog 41 #[.int .i64 n] w fun e w' => e = .returned (.int .i64 (Ph.far n)) ∧ w = w' := by
  rw [Ph.far_eq]
  by_cases h0 : n < 0
  · rw [if_pos h0]
    go_enter Tryd.func41, Tryd.ntmps41
    go_wp2
    go_ret
    exact ⟨rfl, rfl⟩
  · rw [if_neg h0]
    go_enter Tryd.func41, Tryd.ntmps41
    go_wp2
    go_ret
    exact ⟨rfl, rfl⟩
end Go.Proofs.YtfnbehjebmbbdaaDoor
