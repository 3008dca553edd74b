/- The document's answers, walked (chapter 12): how many bits a row needs. -/
import Derived.Test.YtlilommhdjdblaaDoorRefHorn
namespace Go.Proofs.YtlilommhdjdblaaDoor
open Go.RowKit

/-- A sign's own bits are enough, and no fewer. -/
theorem need_step {F j : Nat} (h1 : 1 ≤ F) (h2 : F ≤ 256) (hj : j ≤ Ph.need F) : (F * 2 ^ j < 256 ↔ j < Ph.need F) ∧ F * 2 ^ j ≤ 65536 := by
  have hs := Ph.need_spec h1
  constructor
  · constructor
    · intro h
      rcases Nat.lt_or_ge j (Ph.need F) with q | q
      · exact q
      · obtain rfl : j = Ph.need F := by omega
        omega
    · intro h; exact hs.2 j h
  · rcases Nat.eq_zero_or_pos j with q | q
    · subst q; simp; omega
    · have := hs.2 (j - 1) (by omega)
      obtain ⟨i, rfl⟩ : ∃ i, j = i + 1 := ⟨j - 1, by omega⟩
      rw [Nat.pow_succ]
      simp only [Nat.add_sub_cancel] at this
      have e : F * (2 ^ i * 2) = F * 2 ^ i * 2 := by rw [Nat.mul_assoc]
      omega
theorem needs_le (f : List Int) : ∀ l : List Int, Ph.needs f l ≤ 8 * l.length
  | [] => by simp [Ph.needs]
  | s :: l => by
    have h1 := needs_le f l
    have h2 := Ph.need_le (Ph.sh f s.toNat)
    simp only [Ph.needs, List.length_cons]; omega
theorem needs_take (f l : List Int) (k : Nat) (hk : k < l.length) : Ph.needs f (l.take (k + 1)) = Ph.needs f (l.take k) + Ph.need (Ph.sh f (l.getD k 0).toNat) := by
  rw [Ph.take_snoc l k hk, Ph.needs_append]; simp [Ph.needs]
theorem hornErr_zero {f l : List Int} : hornErr f l = 0 ↔ Ph.sharesOk f ∧ l.length ≤ 60 ∧ ∀ s ∈ l, Ph.good f s := by
  unfold hornErr
  by_cases h0 : shErr f = 0
  · rw [if_neg (by omega)]
    have hs := shErr_zero.1 h0
    by_cases h1 : 60 < l.length
    · rw [if_pos h1]; constructor <;> intro h <;> omega
    · rw [if_neg h1, Ph.rowErr_zero]
      exact ⟨fun h => ⟨hs, by omega, h⟩, fun h => h.2.2⟩
  · rw [if_pos h0]; constructor
    · intro h; omega
    · intro h; exact absurd (shErr_zero.2 h.1) h0
end Go.Proofs.YtlilommhdjdblaaDoor
