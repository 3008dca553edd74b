/- The document's answers, walked (chapter 5): bits; and the table. -/
import Derived.Test.YtfnbehjebmbbdaaDoorRefCount
namespace Go.Proofs.YtfnbehjebmbbdaaDoor
open Go.RowKit

theorem bits_iff (m b : Nat) : 2 ^ b < m ↔ b < Ph.bitsOf m := by
  unfold Ph.bitsOf
  by_cases h : m ≤ 1
  · rw [if_pos h]
    have := Nat.two_pow_pos b
    omega
  · rw [if_neg h]
    have h1 := @Nat.log2_lt (m - 1) b (by omega)
    by_cases h2 : Nat.log2 (m - 1) < b
    · have := h1.1 h2; omega
    · have : ¬ m - 1 < 2 ^ b := fun h3 => h2 (h1.2 h3)
      omega
theorem bits_le (m : Nat) (h : m ≤ 100000) : Ph.bitsOf m ≤ 17 := by
  rcases Nat.lt_or_ge 17 (Ph.bitsOf m) with h1 | h1
  · have := (bits_iff m 17).2 h1; omega
  · exact h1
theorem rbits_any (m : Nat) (w : World) (hm : m ≤ 100000) :
    Calls Tryd.prog 31 #[.int .i64 m] w fun e w' => e = .returned (.int .i64 (Ph.bitsOf m : Nat)) ∧ w = w' := by
  have HI := Lib.hid (bits_iff m)
  have hb := bits_le m hm
  obtain ⟨N, hN⟩ : ∃ N, N = Ph.bitsOf m := ⟨_, rfl⟩
  rw [← hN] at HI hb ⊢
  clear hN
  go_enter Tryd.func31, Tryd.ntmps31
  go_wp2_with fail
  go_loop [3, 4] (fun b p => ∃ k : Nat, k ≤ N ∧ b = .int .i64 k ∧ p = .int .i64 ((2 : Int) ^ k)) (fun b _ => N - (intOf b).toNat)
  case atStart => exact ⟨0, Nat.zero_le _, rfl, rfl⟩
  case round =>
    obtain ⟨k, hk, rfl, rfl⟩ := hrel
    have hpb : 0 ≤ (2 : Int) ^ k ∧ (2 : Int) ^ k ≤ 200000 := by
      have h1 : 2 ^ k ≤ 2 ^ 17 := Nat.pow_le_pow_right (by omega) (by omega)
      have e : ((2 : Int) ^ k) = ((2 ^ k : Nat) : Int) := by simp
      rw [e]
      generalize 2 ^ k = Q at h1
      omega
    have hpe : Hid ((2 : Int) ^ (k + 1) = 2 * 2 ^ k) := Lib.hid (by rw [Int.pow_succ, Int.mul_comm])
    have hii : ((2 : Int) ^ k < (m : Int)) ↔ k < N := by
      rw [← HI.out k]
      have e : ((2 : Int) ^ k) = ((2 ^ k : Nat) : Int) := by simp
      rw [e]
      generalize 2 ^ k = Q
      omega
    obtain ⟨P, hP⟩ : ∃ P : Int, P = 2 ^ k := ⟨_, rfl⟩
    rw [← hP] at hpb hpe hii ⊢
    clear hP
    by_cases hlt : k < N
    · have h1 := hii.2 hlt
      clear hii
      go_wp2_with fail
      go_round
      case rel => exact ⟨k + 1, by omega, by go_num, by rw [hpe.out]⟩
      case measure => simp [intOf]; omega
    · obtain rfl : k = N := by omega
      have h1 : ¬ P < (m : Int) := fun h => hlt (hii.1 h)
      clear hii
      go_wp2_with fail
      go_ret
      exact ⟨rfl, rfl⟩
/-- A table: of none to six numbers. -/
def tabL (k : Nat) (m : Nat) : List Int := (List.range m).map fun i => ((Ph.cnt i k : Nat) : Int)
theorem tabL_succ (k m : Nat) : tabL k (m + 1) = tabL k m ++ [((Ph.cnt m k : Nat) : Int)] := by unfold tabL; rw [List.range_succ, List.map_append]; rfl
theorem tabL_length (k m : Nat) : (tabL k m).length = m := by simp [tabL]
theorem ctable_ok (k : Nat) (w : World) (hk : k ≤ 8) :
    Calls Tryd.prog 33 #[.int .i64 k] w (FreshI 3 (tabL k 7) w) := by
  have b2 : (decide ((0 : Int) ≤ (k : Int)) && decide ((k : Int) ≤ 8)) = true := by simp; omega
  have HP := Lib.hid fun W => pulses_any (k : Int) W
  rw [b2] at HP
  clear b2
  go_enter Tryd.func33, Tryd.ntmps33
  go_wp2_with fail
  refine (HP.out _).mono ?_
  rintro e wk ⟨rfl, rfl⟩
  go_wp2_with fail
  go_loopw [4, 10] (fun v i wr => ∃ (m : Nat) (A : Option Addr) (c : Nat), m ≤ 7 ∧ i = .int .i64 m ∧ v = .slice A m c ∧ wr.ownsRow w.heap.size 3 1 (.slice A m c) m (ivals (tabL k m)) ∧ Below w.heap.size w wr) (fun _ i _ => 7 - (intOf i).toNat)
  case atStart => exact ⟨0, none, 0, Nat.zero_le _, rfl, rfl, own_nil _ _ _, Below.refl _ _⟩
  case round =>
    obtain ⟨m, A, c, hm, rfl, rfl, hown, hbw⟩ := hrel
    have HO := Lib.hid hown
    have HBW := Lib.hid hbw
    clear hown hbw
    by_cases hlt : m < 7
    · have HA := Lib.hid fun W => cAll_any m k W (by omega) hk
      have HT := Lib.hid (tabL_succ k m)
      obtain ⟨X, hX⟩ : ∃ X, X = Ph.cnt m k := ⟨_, rfl⟩
      rw [← hX] at HA HT
      clear hX
      go_wp2_with fail
      refine (HA.out _).mono ?_
      rintro e w1 ⟨rfl, hb1⟩
      have HO1 := Lib.hid (own_below' HO.out hb1)
      have HB1 := Lib.hid (below_on HBW.out hb1)
      clear hb1
      go_wp2_with (at_builtin; refine wpList_push _ (by rfl) _ _ (by rfl) w w.heap.size A m c _ (X : Int) HO1.out HB1.out HB1.out.size (by omega) (by rfl) (by rfl) ?_; intro g cap w2 ho2 hb2)
      have HO2 := Lib.hid ho2
      have HB2 := Lib.hid hb2
      clear ho2 hb2
      go_wp2_with fail
      go_roundw
      case rel => exact ⟨m + 1, some ⟨g, 0, none⟩, cap, by omega, by go_num, rfl, by rw [HT.out]; exact HO2.out, HB2.out⟩
      case measure => simp [intOf]; omega
    · obtain rfl : m = 7 := by omega
      go_wp2_with fail
      go_ret2
      exact ⟨A, c, rfl, HO.out, HBW.out⟩
theorem ctable_no (k : Int) (w : World) (h : k < 0 ∨ 8 < k) :
    Calls Tryd.prog 33 #[.int .i64 k] w fun e w' => e = .returned (.tuple #[.slice none 0 0, .iface 72 (.int .i64 1)]) ∧ w = w' := by
  have b2 : (decide ((0 : Int) ≤ k) && decide (k ≤ 8)) = false := by simp; omega
  have HP := Lib.hid fun W => pulses_any k W
  rw [b2] at HP
  clear b2 h
  go_enter Tryd.func33, Tryd.ntmps33
  go_wp2_with fail
  refine (HP.out _).mono ?_
  rintro e wk ⟨rfl, rfl⟩
  go_wp2_with fail
  go_ret2
  exact ⟨rfl, rfl⟩
end Go.Proofs.YtfnbehjebmbbdaaDoor
