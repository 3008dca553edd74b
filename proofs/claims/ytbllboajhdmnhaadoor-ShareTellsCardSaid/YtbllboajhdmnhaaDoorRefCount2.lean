/- The document's answers, walked (chapter 5): bits; and the table. -/
import Derived.Test.YtbllboajhdmnhaaDoorRefCount
namespace Go.Proofs.YtbllboajhdmnhaaDoor
open Go.RowKit

theorem bits_iff (m b : Nat) : 2 ^ b < m ↔ b < Ph.bitsOf m := by
  unfold Ph.bitsOf
  by_cases h : m ≤ 1
  · rw [if_pos h]
    have := Nat.two_pow_pos b
    omega
  · rw [if_neg h]
    have h1 := @Nat.log2_lt (m - 1) b (by omega)
    by_cases h2 : Nat.log2 (m - 1) < b
    · have := h1.1 h2; omega
    · have : ¬ m - 1 < 2 ^ b := fun h3 => h2 (h1.2 h3)
      omega
theorem bits_le (m : Nat) (h : m ≤ 100000) : Ph.bitsOf m ≤ 17 := by
  rcases Nat.lt_or_ge 17 (Ph.bitsOf m) with h1 | h1
  · have := (bits_iff m 17).2 h1; omega
  · exact h1
theorem rbits_any (m : Nat) (w : World) (hm : m ≤ 100000) :
    Calls Tryd.prog 94 #[.int .i64 m] w fun e w' => e = .returned (.int .i64 (Ph.bitsOf m : Nat)) ∧ w = w' := by
  have HI := Lib.hid (bits_iff m)
  have hb := bits_le m hm
  obtain ⟨N, hN⟩ : ∃ N, N = Ph.bitsOf m := ⟨_, rfl⟩
  rw [← hN] at HI hb ⊢
  clear hN
  go_enter Tryd.func94, Tryd.ntmps94
  go_wp2_with fail
  go_loop [3, 4] (fun b p => ∃ k : Nat, k ≤ N ∧ b = .int .i64 k ∧ p = .int .i64 ((2 : Int) ^ k)) (fun b _ => N - (intOf b).toNat)
  case atStart => exact ⟨0, Nat.zero_le _, rfl, rfl⟩
  case round =>
    obtain ⟨k, hk, rfl, rfl⟩ := hrel
    have hpb : 0 ≤ (2 : Int) ^ k ∧ (2 : Int) ^ k ≤ 200000 := by
      have h1 : 2 ^ k ≤ 2 ^ 17 := Nat.pow_le_pow_right (by omega) (by omega)
      have e : ((2 : Int) ^ k) = ((2 ^ k : Nat) : Int) := by simp
      rw [e]
      generalize 2 ^ k = Q at h1
      omega
    have hpe : Hid ((2 : Int) ^ (k + 1) = 2 * 2 ^ k) := Lib.hid (by rw [Int.pow_succ, Int.mul_comm])
    have hii : ((2 : Int) ^ k < (m : Int)) ↔ k < N := by
      rw [← HI.out k]
      have e : ((2 : Int) ^ k) = ((2 ^ k : Nat) : Int) := by simp
      rw [e]
      generalize 2 ^ k = Q
      omega
    obtain ⟨P, hP⟩ : ∃ P : Int, P = 2 ^ k := ⟨_, rfl⟩
    rw [← hP] at hpb hpe hii ⊢
    clear hP
    by_cases hlt : k < N
    · have h1 := hii.2 hlt
      clear hii
      go_wp2_with fail
      go_round
      case rel => exact ⟨k + 1, by omega, by go_num, by rw [hpe.out]⟩
      case measure => simp [intOf]; omega
    · obtain rfl : k = N := by omega
      have h1 : ¬ P < (m : Int) := fun h => hlt (hii.1 h)
      clear hii
      go_wp2_with fail
      go_ret
      exact ⟨rfl, rfl⟩
/-- A table: of none to six numbers. -/
def tabL (k : Nat) (m : Nat) : List Int := (List.range m).map fun i => ((Ph.cnt i k : Nat) : Int)
theorem tabL_succ (k m : Nat) : tabL k (m + 1) = tabL k m ++ [((Ph.cnt m k : Nat) : Int)] := by unfold tabL; rw [List.range_succ, List.map_append]; rfl
theorem tabL_length (k m : Nat) : (tabL k m).length = m := by simp [tabL]
end Go.Proofs.YtbllboajhdmnhaaDoor
