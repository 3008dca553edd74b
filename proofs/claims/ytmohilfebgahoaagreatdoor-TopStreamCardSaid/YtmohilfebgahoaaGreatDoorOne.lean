/- The closed fact that the statements of the whole begin with. -/
import Derived.Test.YtmohilfebgahoaaGreatDoorPulse
namespace Go.Proofs.YtmohilfebgahoaaGreatDoor
open Go.RowKit
theorem one_any (w : World) : Calls Tryz.prog 17 #[] w fun e w' => e = .returned (.bool true) ∧ Below w.heap.size w w' := by
  have HR1 := Lib.hid (RdI.lit' w [1, 0] 3 #[.int .i64 1, .int .i64 0] rfl)
  have HB := Lib.hid (below_alloc0 w (.cells #[.int .i64 1, .int .i64 0] 3))
  have hz : Ph.pulsesErr [1, 0] = 0 := by decide
  have hr : Ph.rank [1, 0] = 3 := by decide
  have hm := rank_told _ 2 2 [1, 0] _ _ HR1.out (Nat.le_refl _) (by decide)
  rw [hz, hr, if_pos rfl, errV_zero] at hm
  have HM := Lib.hid hm
  clear hz hr hm
  go_enter Tryz.func17, Tryz.ntmps17
  go_wp2_with fail
  refine HM.out.mono ?_
  rintro e w1 ⟨rfl, hb⟩
  have KB := Lib.hid (below_on HB.out hb)
  clear hb
  go_wp2_with fail
  go_ret
  exact ⟨rfl, KB.out⟩
end Go.Proofs.YtmohilfebgahoaaGreatDoor
