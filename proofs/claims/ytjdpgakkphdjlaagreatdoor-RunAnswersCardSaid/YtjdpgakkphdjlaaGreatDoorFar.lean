/- Walks: how far pulses are from numbers (chapter 7). -/
import Derived.Test.YtjdpgakkphdjlaaGreatDoorNear
import Derived.Test.YtjdpgakkphdjlaaGreatDoorPulse
namespace Go.Proofs.YtjdpgakkphdjlaaGreatDoor
open Go.RowKit

/-- What is wrong with numbers, and pulses. -/
def farErr (v p : List Int) : Int := if nearErr v ≠ 0 then nearErr v else if Ph.pulsesErr p ≠ 0 then Ph.pulsesErr p else if v.length ≠ p.length then 3 else 0
theorem farErr_zero {v p : List Int} : farErr v p = 0 ↔ nearErr v = 0 ∧ Ph.pulsesErr p = 0 ∧ v.length = p.length := by
  unfold farErr
  by_cases h1 : nearErr v = 0
  · rw [if_neg (by omega)]
    by_cases h2 : Ph.pulsesErr p = 0
    · rw [if_neg (by omega)]
      by_cases h3 : v.length = p.length
      · rw [if_neg (by omega)]; exact ⟨fun _ => ⟨h1, h2, h3⟩, fun _ => rfl⟩
      · rw [if_pos h3]; constructor
        · intro h; omega
        · intro h; exact absurd h.2.2 h3
    · rw [if_pos h2]; constructor
      · intro h; exact absurd h h2
      · intro h; exact absurd h.2.1 h2
  · rw [if_pos h1]; constructor
    · intro h; exact absurd h h1
    · intro h; exact absurd h.1 h1
theorem far_sum_bd {f : Nat → Int} {M : Int} (h : ∀ i, 0 ≤ f i ∧ f i ≤ M) : ∀ n : Nat, 0 ≤ Ph.sumTo n f ∧ Ph.sumTo n f ≤ n * M
  | 0 => by simp [Ph.sumTo]
  | n + 1 => by
    have h1 := far_sum_bd h n
    have h2 := h n
    have e : Ph.sumTo (n + 1) f = Ph.sumTo n f + f n := rfl
    have e2 : ((n + 1 : Nat) : Int) * M = n * M + M := by rw [Int.natCast_succ, Int.add_mul, Int.one_mul]
    rw [e, e2]; omega
theorem mul_abs {a b M N : Int} (ha : 0 ≤ a ∧ a ≤ M) (hb : -N ≤ b ∧ b ≤ N) : -(M * N) ≤ a * b ∧ a * b ≤ M * N := by
  have hN : 0 ≤ N := by omega
  have h1 : a * b ≤ a * N := Int.mul_le_mul_of_nonneg_left hb.2 ha.1
  have h2 : a * (-N) ≤ a * b := Int.mul_le_mul_of_nonneg_left hb.1 ha.1
  have h3 : a * N ≤ M * N := Int.mul_le_mul_of_nonneg_right ha.2 hN
  rw [Int.mul_neg] at h2
  omega
end Go.Proofs.YtjdpgakkphdjlaaGreatDoor
/- What near pulses are, for the walks of laws (chapter 7). -/
namespace Go.Proofs.YtjdpgakkphdjlaaGreatDoor
open Go.RowKit

theorem mem_far_le : ∀ (v : List Int) (x : Int), x ∈ v → Ph.far x ≤ Ph.loud v
  | [], x, hx => by cases hx
  | y :: v, x, hx => by
    have h0 := Ph.loud_nonneg v
    have h1 := Ph.far_nonneg y
    rcases List.mem_cons.1 hx with rfl | hx
    · simp only [Ph.loud]; omega
    · have := mem_far_le v x hx
      simp only [Ph.loud]; omega
theorem pulses_of_loud {p : List Int} (h1 : p.length ≤ 6) (h2 : Ph.loud p ≤ 8) : Ph.pulsesErr p = 0 :=
  Ph.pulsesErr_zero.2 ⟨h1, Ph.allIn_iff.2 fun x hx => by have := mem_far_le p x hx; exact Ph.far_le.1 (by omega), h2⟩
theorem row_facts {n k r : Nat} (hn : n ≤ 6) (hk : k ≤ 8) (hr : r < Ph.cnt n k) : Ph.pulsesErr (Ph.rowOf n k r) = 0 ∧ Ph.rank (Ph.rowOf n k r) = r ∧ Ph.loud (Ph.rowOf n k r) = (k : Nat) ∧ (Ph.rowOf n k r).length = n := by
  have h := Ph.rank_rowOf n k r hr
  have hl : Ph.loud (Ph.rowOf n k r) = (k : Nat) := by rw [← Ph.loudN_int, h.2]
  have hlen := Ph.rowOf_length n k r
  exact ⟨pulses_of_loud (by omega) (by omega), h.1, hl, hlen⟩
theorem near_facts {v : List Int} {k : Int} (h : nearOfErr v k = 0) : Ph.pulsesErr (Ph.near v k) = 0 ∧ Ph.loud (Ph.near v k) = k ∧ (Ph.near v k).length = v.length ∧ farErr v (Ph.near v k) = 0 := by
  obtain ⟨hv, hk, hL⟩ := nearOfErr_zero.1 h
  have hv2 := nearErr_zero.1 hv
  have hl := Ph.near_length v k
  have hlo := Ph.near_loud hk.1 hL
  have hp := pulses_of_loud (p := Ph.near v k) (by omega) (by omega)
  exact ⟨hp, hlo, hl, farErr_zero.2 ⟨hv, hp, hl.symm⟩⟩
end Go.Proofs.YtjdpgakkphdjlaaGreatDoor
