/- Walks: pairs (chapter 2). -/
import Derived.Test.YtomaipmmjngdlaaDoorMem
import Derived.Test.YtomaipmmjngdlaaDoorPhLap
namespace Go.Proofs.YtomaipmmjngdlaaDoor
open Go.RowKit

theorem ret_bool {b c : Bool} (h : b = c) : Ending.returned (.bool b) = .returned (.bool c) := by rw [h]
theorem ret_true {b : Bool} (h : b = true) : Ending.returned (.bool b) = .returned (.bool true) := by rw [h]
end Go.Proofs.YtomaipmmjngdlaaDoor
