/- Walks: over the edges, asked (chapter 4): one contract each, whatever the fault. -/
import Derived.Test.YtbllboajhdmnhaaDoorLap3
namespace Go.Proofs.YtbllboajhdmnhaaDoor
open Go.RowKit

/-- A slice is told with a fault k: if there is none, it reads as l. -/
def ToldI (k : Int) (l : List Int) (n : Nat) (w : World) (e : Ending) (w' : World) : Prop :=
  ∃ X, e = .returned (.tuple #[X, errV k]) ∧ (k = 0 → ∃ A c, X = .slice A n c ∧ n ≤ c ∧ RdI w' w'.heap.size A n l) ∧ Below w.heap.size w w'
end Go.Proofs.YtbllboajhdmnhaaDoor
