/- Walks: how many rows there are, asked; and how many bits they need (chapter 5). -/
import Derived.Test.YtbllboajhdmnhaaDoorCount
import Derived.Test.YtbllboajhdmnhaaDoorShelf
namespace Go.Proofs.YtbllboajhdmnhaaDoor
open Go.RowKit

theorem bitLen_log {n : Nat} (h0 : n ≠ 0) (h : n < 2 ^ 64) : Lib.bitLen n = Nat.log2 n + 1 := by
  have h1 : 2 ^ Nat.log2 n ≤ n := (Nat.le_log2 h0).1 (Nat.le_refl _)
  have h2 : n < 2 ^ (Nat.log2 n + 1) := (Nat.log2_lt h0).1 (Nat.lt_succ_self _)
  rw [Lib.bitLen_shift (Nat.log2 n) n h1 h]
  have h3 : n / 2 ^ Nat.log2 n = 1 := by
    apply Nat.div_eq_of_lt_le
    · rw [Nat.one_mul]; exact h1
    · rw [Nat.pow_succ] at h2; omega
  rw [h3]; rfl
theorem bitLen_zero : Lib.bitLen 0 = 0 := by decide
theorem bitLen_bits (m : Nat) (h : m ≤ 100000) : Lib.bitLen (m - 1) = Ph.bitsOf m := by
  unfold Ph.bitsOf
  split
  · have : m - 1 = 0 := by omega
    rw [this]; rfl
  · exact bitLen_log (by omega) (by omega)
/-- Which may be counted. -/
def cntOk (n k : Int) : Bool := (decide (0 ≤ n) && decide (n ≤ 6)) && (decide (0 ≤ k) && decide (k ≤ 8))
theorem width_any (n k : Nat) (w : World) (hn : n ≤ 6) (hk : k ≤ 8) :
    Calls Tryd.prog 131 #[.int .i64 n, .int .i64 k] w fun e w' => e = .returned (.int .i64 (Ph.bitsOf (Ph.cnt n k) : Nat)) ∧ Below w.heap.size w w' := by
  have hb := cnt_bd n k hn hk
  have hbb := Lib.hid (bitLen_bits (Ph.cnt n k) (by omega))
  obtain ⟨X, hX⟩ : ∃ X, X = Ph.cnt n k := ⟨_, rfl⟩
  rw [← hX] at hb hbb ⊢
  have HA : Hid (∀ W, Calls Tryd.prog 81 #[.int .i64 n, .int .i64 k] W fun e w' => e = .returned (.int .i64 (X : Nat)) ∧ Below W.heap.size W w') := Lib.hid (by rw [hX]; exact fun W => cAll_any n k W hn hk)
  clear hX
  have hm : (max 1 (X : Int) - 1).toNat = X - 1 := by omega
  have h0 : 0 ≤ max 1 (X : Int) - 1 := by omega
  have h1 : max 1 (X : Int) - 1 ≤ 18446744073709551615 := by omega
  have HL : Hid (∀ W, Calls Tryd.prog 148 #[.int .u64 (max 1 (X : Int) - 1)] W fun e w' => e = .returned (.int .i64 (Ph.bitsOf X : Nat)) ∧ w' = W) := Lib.hid (by
    intro W
    have := Tryd.bits_Len (max 1 (X : Int) - 1) W h0 h1
    rw [hm, hbb.out] at this
    exact this)
  clear hm h0 h1
  go_enter Tryd.func131, Tryd.ntmps131
  go_wp2_with (first | (go_at_call 81; refine (HA.out _).mono ?_; rintro e w1 ⟨rfl, hb1⟩) | (go_at_call 148; refine (HL.out _).mono ?_; rintro e w2 ⟨rfl, rfl⟩))
  go_ret
  exact ⟨rfl, hb1⟩
/-- Whatever is asked. -/
theorem cntOk_iff {n k : Int} : cntOk n k = true ↔ (0 ≤ n ∧ n ≤ 6) ∧ (0 ≤ k ∧ k ≤ 8) := by unfold cntOk; simp
end Go.Proofs.YtbllboajhdmnhaaDoor
