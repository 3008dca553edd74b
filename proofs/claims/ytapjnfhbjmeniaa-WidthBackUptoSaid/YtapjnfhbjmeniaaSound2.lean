/- Walks: samples, of two (chapter 1). -/
import Derived.Test.YtapjnfhbjmeniaaSound
namespace Go.Proofs.Ytapjnfhbjmeniaa
open Go.RowKit
theorem clip_walk (x : Int) : (if -1000 < (if x < 1000 then x else 1000) then (if x < 1000 then x else 1000) else -1000) = Ph.clip x := by
  unfold Ph.clip; repeat' split
  all_goals omega
theorem make_ints (n : Nat) (hn : n ≤ 17592186044416) (W : World) : (Instr.makeSlice 22 (.int .i64 (n : Int)) (.int .i64 (n : Int))).run Try.prog W = .ok (.slice (some ⟨W.heap.size, 0, none⟩) n n) (W.alloc (.cells (madeCells #[.int .i64 0] n) 3)) := by
  obtain ⟨i0, hi, hz0, hz1, hz2⟩ := info_parts int_info
  have hr := run_make (P := Try.prog) W 22 3 i0 (.int .i64 0) Try.underlying22 hi hz0 .i64 .i64 n n (by omega) (Int.le_refl _) (by rw [hz2]; omega) (by omega)
  rw [hz1, Nat.mul_one] at hr
  simpa [Value.cells] using hr
/-- A fresh slice of numbers is told, and no error. -/
def FreshI (T : Nat) (l : List Int) (w : World) (e : Ending) (w' : World) : Prop :=
  ∃ A c, e = .returned (.tuple #[.slice A l.length c, .nilIface]) ∧ w'.ownsRow w.heap.size T 1 (.slice A l.length c) l.length (ivals l) ∧ Below w.heap.size w w'
end Go.Proofs.Ytapjnfhbjmeniaa
