/- Is an error the one told (hornsame.Error)? -/
import Derived.Test.YtmohilfebgahoaaGreatDoorDoor
import Derived.Test.YtmohilfebgahoaaGreatDoorSound
namespace Go.Proofs.YtmohilfebgahoaaGreatDoor
open Go.RowKit

/-- Are two numbers the same? (a name that the walk does not open) -/
def sameN (a b : Int) : Bool := decide (a = b)
theorem sameN_self (a : Int) : sameN a a = true := by simp [sameN]
theorem herr_any (k e : Int) (w : World) (hg : Laid w) (_hk : -100 ≤ k ∧ k ≤ 100) :
    Calls Tryz.prog 13 #[errV k, .int .i64 e] w fun r w' => r = .returned (.bool (sameN k e)) ∧ Below w.heap.size w w' := by
  unfold sameN
  have HT := Lib.hid (told_any k w hg)
  clear hg
  go_enter Tryz.func13, Tryz.ntmps13
  go_wp2_with fail
  refine HT.out.mono ?_
  rintro r w1 ⟨rfl, hb1⟩
  go_wp2_with fail
  go_ret
  exact ⟨ret_bool (by first | rfl | (simp; done) | (by_cases h : k = e <;> simp [h])), hb1⟩
theorem herr_yes (k : Int) (w : World) (hg : Laid w) (hk : -100 ≤ k ∧ k ≤ 100) :
    Calls Tryz.prog 13 #[errV k, .int .i64 k] w fun r w' => r = .returned (.bool true) ∧ Below w.heap.size w w' := by
  have := herr_any k k w hg hk
  rw [sameN_self] at this
  exact this
end Go.Proofs.YtmohilfebgahoaaGreatDoor
