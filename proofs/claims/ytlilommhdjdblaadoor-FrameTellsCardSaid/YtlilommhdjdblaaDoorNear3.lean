/- What near pulses are, for the walks of laws (chapter 7). -/
import Derived.Test.YtlilommhdjdblaaDoorFar
import Derived.Test.YtlilommhdjdblaaDoorPulse
namespace Go.Proofs.YtlilommhdjdblaaDoor
open Go.RowKit

theorem mem_far_le : ∀ (v : List Int) (x : Int), x ∈ v → Ph.far x ≤ Ph.loud v
  | [], x, hx => by cases hx
  | y :: v, x, hx => by
    have h0 := Ph.loud_nonneg v
    have h1 := Ph.far_nonneg y
    rcases List.mem_cons.1 hx with rfl | hx
    · simp only [Ph.loud]; omega
    · have := mem_far_le v x hx
      simp only [Ph.loud]; omega
theorem pulses_of_loud {p : List Int} (h1 : p.length ≤ 6) (h2 : Ph.loud p ≤ 8) : Ph.pulsesErr p = 0 :=
  Ph.pulsesErr_zero.2 ⟨h1, Ph.allIn_iff.2 fun x hx => by have := mem_far_le p x hx; exact Ph.far_le.1 (by omega), h2⟩
theorem row_facts {n k r : Nat} (hn : n ≤ 6) (hk : k ≤ 8) (hr : r < Ph.cnt n k) : Ph.pulsesErr (Ph.rowOf n k r) = 0 ∧ Ph.rank (Ph.rowOf n k r) = r ∧ Ph.loud (Ph.rowOf n k r) = (k : Nat) ∧ (Ph.rowOf n k r).length = n := by
  have h := Ph.rank_rowOf n k r hr
  have hl : Ph.loud (Ph.rowOf n k r) = (k : Nat) := by rw [← Ph.loudN_int, h.2]
  have hlen := Ph.rowOf_length n k r
  exact ⟨pulses_of_loud (by omega) (by omega), h.1, hl, hlen⟩
theorem near_facts {v : List Int} {k : Int} (h : nearOfErr v k = 0) : Ph.pulsesErr (Ph.near v k) = 0 ∧ Ph.loud (Ph.near v k) = k ∧ (Ph.near v k).length = v.length ∧ farErr v (Ph.near v k) = 0 := by
  obtain ⟨hv, hk, hL⟩ := nearOfErr_zero.1 h
  have hv2 := nearErr_zero.1 hv
  have hl := Ph.near_length v k
  have hlo := Ph.near_loud hk.1 hL
  have hp := pulses_of_loud (p := Ph.near v k) (by omega) (by omega)
  exact ⟨hp, hlo, hl, farErr_zero.2 ⟨hv, hp, hl.symm⟩⟩
end Go.Proofs.YtlilommhdjdblaaDoor
