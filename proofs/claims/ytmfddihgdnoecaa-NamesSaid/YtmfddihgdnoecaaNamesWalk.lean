/- The walk of the law Names. -/
import Derived.Test.YtmfddihgdnoecaaSound
import Derived.Test.YtmfddihgdnoecaaOpen
namespace Go.Proofs.Ytmfddihgdnoecaa
open Go.RowKit

set_option maxHeartbeats 2000000 in
theorem names_walk (w : World) : Calls Try.prog 7 #[] w fun e w' => e = .returned (.bool true) ∧ Below w.heap.size w w' := by
  go_enter Try.func7, Try.ntmps7
  go_wp2_with fail
  go_loop [3] (fun i => ∃ k : Nat, k ≤ 9 ∧ i = .int .i64 k) (fun i => 9 - (intOf i).toNat)
  case atStart => exact ⟨0, by omega, rfl⟩
  case round =>
    obtain ⟨k, hk, rfl⟩ := hrel
    have h : k = 0 ∨ k = 1 ∨ k = 2 ∨ k = 3 ∨ k = 4 ∨ k = 5 ∨ k = 6 ∨ k = 7 ∨ k = 8 ∨ k = 9 := by omega
    rcases h with rfl | rfl | rfl | rfl | rfl | rfl | rfl | rfl | rfl | rfl
    case inr.inr.inr.inr.inr.inr.inr.inr.inr =>
      go_wp2_with fail
      go_ret
      exact ⟨rfl, below_alloc0 w _⟩
    all_goals go_wp2_with go_in
    all_goals go_round
    all_goals first
      | (simp [intOf]; done)
      | exact ⟨1, by omega, rfl⟩
      | exact ⟨2, by omega, rfl⟩
      | exact ⟨3, by omega, rfl⟩
      | exact ⟨4, by omega, rfl⟩
      | exact ⟨5, by omega, rfl⟩
      | exact ⟨6, by omega, rfl⟩
      | exact ⟨7, by omega, rfl⟩
      | exact ⟨8, by omega, rfl⟩
      | exact ⟨9, by omega, rfl⟩
end Go.Proofs.Ytmfddihgdnoecaa
