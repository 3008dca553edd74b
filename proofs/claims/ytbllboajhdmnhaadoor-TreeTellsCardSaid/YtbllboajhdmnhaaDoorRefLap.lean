/- The document's answers, walked (chapter 4): over the edges, and back. -/
import Derived.Test.YtbllboajhdmnhaaDoorLap4
import Derived.Test.YtbllboajhdmnhaaDoorRef1
namespace Go.Proofs.YtbllboajhdmnhaaDoor
open Go.RowKit

theorem rdown2 (n : Int) (w : World) (h : -1000000000000 ≤ n ∧ n ≤ 1000000000000) :
    Calls Tryd.prog 83 #[.int .i64 n, .int .i64 2] w fun e w' => e = .returned (.int .i64 (n / 2)) ∧ w' = w := by
  rcases Int.lt_or_le n 0 with h0 | h0
  · obtain ⟨m, rfl⟩ : ∃ m : Nat, n = -(m : Int) := ⟨(-n).toNat, by omega⟩
    have e1 : (-(m : Int)).tdiv 2 = -((m / 2 : Nat) : Int) := by rw [Int.neg_tdiv]; rfl
    have e2 : (-(m : Int)).tmod 2 = -((m % 2 : Nat) : Int) := by rw [Int.neg_tmod]; rfl
    have b1 : m / 2 ≤ m := by omega
    have b2 : m % 2 ≤ 1 := by omega
    have hq : (-(m : Int)) / 2 = if m % 2 = 0 then -((m / 2 : Nat) : Int) else -((m / 2 : Nat) : Int) - 1 := by split <;> omega
    rw [hq]
    obtain ⟨q, hq'⟩ : ∃ q, q = m / 2 := ⟨_, rfl⟩
    obtain ⟨r, hr'⟩ : ∃ r, r = m % 2 := ⟨_, rfl⟩
    rw [← hq'] at e1 b1 ⊢
    rw [← hr'] at e2 b2 ⊢
    clear hq hq' hr'
    rcases Nat.eq_zero_or_pos r with hr | hr
    · subst hr
      rw [if_pos rfl]
      go_enter Tryd.func83, Tryd.ntmps83
      go_wp2_with fail
      go_ret
      exact ⟨rfl, rfl⟩
    · rw [if_neg (by omega)]
      go_enter Tryd.func83, Tryd.ntmps83
      go_wp2_with fail
      go_ret
      exact ⟨rfl, rfl⟩
  · have e1 : ¬ n % 2 < 0 := by omega
    go_enter Tryd.func83, Tryd.ntmps83
    go_wp2_with fail
    go_ret
    exact ⟨rfl, rfl⟩
theorem rdown4 (n : Int) (w : World) (h : -1000000000000 ≤ n ∧ n ≤ 1000000000000) :
    Calls Tryd.prog 83 #[.int .i64 n, .int .i64 4] w fun e w' => e = .returned (.int .i64 (n / 4)) ∧ w' = w := by
  rcases Int.lt_or_le n 0 with h0 | h0
  · obtain ⟨m, rfl⟩ : ∃ m : Nat, n = -(m : Int) := ⟨(-n).toNat, by omega⟩
    have e1 : (-(m : Int)).tdiv 4 = -((m / 4 : Nat) : Int) := by rw [Int.neg_tdiv]; rfl
    have e2 : (-(m : Int)).tmod 4 = -((m % 4 : Nat) : Int) := by rw [Int.neg_tmod]; rfl
    have b1 : m / 4 ≤ m := by omega
    have b2 : m % 4 ≤ 3 := by omega
    have hq : (-(m : Int)) / 4 = if m % 4 = 0 then -((m / 4 : Nat) : Int) else -((m / 4 : Nat) : Int) - 1 := by split <;> omega
    rw [hq]
    obtain ⟨q, hq'⟩ : ∃ q, q = m / 4 := ⟨_, rfl⟩
    obtain ⟨r, hr'⟩ : ∃ r, r = m % 4 := ⟨_, rfl⟩
    rw [← hq'] at e1 b1 ⊢
    rw [← hr'] at e2 b2 ⊢
    clear hq hq' hr'
    rcases Nat.eq_zero_or_pos r with hr | hr
    · subst hr
      rw [if_pos rfl]
      go_enter Tryd.func83, Tryd.ntmps83
      go_wp2_with fail
      go_ret
      exact ⟨rfl, rfl⟩
    · rw [if_neg (by omega)]
      go_enter Tryd.func83, Tryd.ntmps83
      go_wp2_with fail
      go_ret
      exact ⟨rfl, rfl⟩
  · have e1 : ¬ n % 4 < 0 := by omega
    go_enter Tryd.func83, Tryd.ntmps83
    go_wp2_with fail
    go_ret
    exact ⟨rfl, rfl⟩
end Go.Proofs.YtbllboajhdmnhaaDoor
