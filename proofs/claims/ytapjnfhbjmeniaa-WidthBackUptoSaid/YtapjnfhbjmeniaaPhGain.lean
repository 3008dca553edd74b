/- Plain law: how loud, in few steps (chapter 8). No program in sight. -/
import Derived.Test.YtapjnfhbjmeniaaPhNear
namespace Ph
def step (n : Nat) : Nat := if n = 0 then 0 else 1 + 4 * Nat.log2 n + 4 * (n - 2 ^ Nat.log2 n) / 2 ^ Nat.log2 n
def mean (g : Nat) : Nat := if g = 0 then 0 else 2 ^ ((g - 1) / 4) + (2 * ((g - 1) % 4) + 1) * 2 ^ ((g - 1) / 4) / 8
/-- Is there a value of a gain? -/
def valued (g : Nat) : Bool := decide (g ≤ 53) && decide (mean g ≤ 8000) && decide (step (mean g) = g)

def stepOk (n : Nat) : Bool :=
  decide (step n ≤ 53) && decide (mean (step n) ≤ 8000) && decide (step (mean (step n)) = step n) && decide (8 * (mean (step n) - n) ≤ n) && decide (8 * (n - mean (step n)) ≤ n) && decide (step n ≤ step (n + 1))
def allOk (p : Nat → Bool) : Nat → Bool
  | 0 => p 0
  | n + 1 => p (n + 1) && allOk p n
theorem allOk_at (p : Nat → Bool) : ∀ n, allOk p n = true → ∀ i, i ≤ n → p i = true
  | 0, h, i, hi => by have : i = 0 := by omega
                      rw [this]; exact h
  | n + 1, h, i, hi => by
    simp only [allOk, Bool.and_eq_true] at h
    rcases Nat.lt_or_ge i (n + 1) with h1 | h1
    · exact allOk_at p n h.2 i (by omega)
    · have : i = n + 1 := by omega
      rw [this]; exact h.1
theorem steps_ok : allOk stepOk 8000 = true := by decide +kernel
theorem step_ok {n : Nat} (h : n ≤ 8000) : step n ≤ 53 ∧ mean (step n) ≤ 8000 ∧ step (mean (step n)) = step n ∧ 8 * (mean (step n) - n) ≤ n ∧ 8 * (n - mean (step n)) ≤ n ∧ step n ≤ step (n + 1) := by
  have := allOk_at stepOk 8000 steps_ok n h
  simp only [stepOk, Bool.and_eq_true, decide_eq_true_eq] at this
  omega
theorem step_mono {a b : Nat} (h : a ≤ b) (hb : b ≤ 8000) : step a ≤ step b := by
  induction b with
  | zero => have : a = 0 := by omega
            rw [this]; omega
  | succ b ih =>
    rcases Nat.lt_or_ge a (b + 1) with h1 | h1
    · have := ih (by omega) (by omega); have := (step_ok (n := b) (by omega)).2.2.2.2.2; omega
    · have : a = b + 1 := by omega
      rw [this]; omega
theorem valued_step {n : Nat} (h : n ≤ 8000) : valued (step n) = true := by
  have := step_ok h
  simp only [valued, Bool.and_eq_true, decide_eq_true_eq]; omega
def twiceOk (n : Nat) : Bool := decide (n = 0) || decide (step (2 * n) = step n + 4)
theorem twices_ok : allOk twiceOk 4000 = true := by decide +kernel
theorem step_twice {n : Nat} (h0 : 1 ≤ n) (h : n ≤ 4000) : step (2 * n) = step n + 4 := by
  have := allOk_at twiceOk 4000 twices_ok n h
  simp only [twiceOk, Bool.or_eq_true, decide_eq_true_eq] at this
  omega
theorem step_pos {n : Nat} (h : 1 ≤ n) : 1 ≤ step n := by unfold step; rw [if_neg (by omega), Nat.add_assoc]; exact Nat.le_add_right _ _
theorem step_zero : step 0 = 0 := rfl
theorem mean_zero : mean 0 = 0 := rfl
/-- The parts of a step: m doublings, and q fourths. -/
theorem step_is {n m q : Nat} (h1 : 2 ^ m ≤ n) (h2 : n < 2 ^ (m + 1)) (hq1 : q * 2 ^ m ≤ 4 * (n - 2 ^ m)) (hq2 : 4 * (n - 2 ^ m) < (q + 1) * 2 ^ m) : step n = 1 + 4 * m + q := by
  have hp : 0 < 2 ^ m := Nat.two_pow_pos m
  have h0 : n ≠ 0 := by omega
  have hl : Nat.log2 n = m := by
    have a1 := (Nat.le_log2 h0).2 h1
    have a2 := (Nat.log2_lt h0).2 h2
    omega
  unfold step
  rw [if_neg h0, hl]
  have : 4 * (n - 2 ^ m) / 2 ^ m = q := by
    have b1 := (Nat.le_div_iff_mul_le hp).2 hq1
    have b2 := (Nat.div_lt_iff_lt_mul hp).2 hq2
    omega
  rw [this]
/-- No step of a number is above twice it. -/
def meanOk (n : Nat) : Bool := decide (mean (step n) ≤ 2 * n)
theorem means_ok : allOk meanOk 8000 = true := by decide +kernel
theorem mean_le {n : Nat} (h : n ≤ 8000) : mean (step n) ≤ 2 * n := by
  have := allOk_at meanOk 8000 means_ok n h
  simpa [meanOk] using this
end Ph
