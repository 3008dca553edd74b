/- Walks: over the edges (chapter 4). -/
import Derived.Test.YtbllboajhdmnhaaDoorSound2
import Derived.Outline
namespace Go.Proofs.YtbllboajhdmnhaaDoor
open Go.RowKit
theorem halve_any (n : Int) (w : World) : Calls Tryd.prog 125 #[.int .i64 n] w fun e w' => e = .returned (.int .i64 (n / 2)) ∧ w' = w := by
  go_enter Tryd.func125, Tryd.ntmps125
  go_wp2
  go_ret
  exact ⟨rfl, rfl⟩
end Go.Proofs.YtbllboajhdmnhaaDoor
