/- What a call tells: a list of numbers of its own; such a list, and what is wrong. -/
import Derived.Test.YtapjnfhbjmeniaaSound2
import Derived.Test.YtapjnfhbjmeniaaPush
namespace Go.Proofs.Ytapjnfhbjmeniaa
open Go.RowKit

/-- A row of the call's own is told. -/
def OwnI (T : Nat) (l : List Int) (w : World) (e : Ending) (w' : World) : Prop :=
  ∃ A c, e = .returned (.slice A l.length c) ∧ w'.ownsRow w.heap.size T 1 (.slice A l.length c) l.length (ivals l) ∧ Below w.heap.size w w'
/-- A list of numbers is told, and what is wrong. -/
def ToldL (T : Nat) (E : Int) (l : List Int) (w : World) (e : Ending) (w' : World) : Prop :=
  ∃ A c, e = .returned (.tuple #[.slice A l.length c, errV E]) ∧ w'.ownsRow w.heap.size T 1 (.slice A l.length c) l.length (ivals l) ∧ Below w.heap.size w w'
/-- What is told, if nothing is wrong. -/
def got (E : Int) (l : List Int) : List Int := if E = 0 then l else []
theorem got_zero (l : List Int) : got 0 l = l := if_pos rfl
theorem got_ne {E : Int} (h : E ≠ 0) (l : List Int) : got E l = [] := if_neg h
theorem ToldL.none (T : Nat) (E : Int) (v : Value) (hv : v = errV E) {w w' : World} (hb : Below w.heap.size w w') : ToldL T E [] w (.returned (.tuple #[.slice none 0 0, v])) w' :=
  ⟨Option.none, 0, by rw [hv]; rfl, own_nil _ _ _, hb⟩
end Go.Proofs.Ytapjnfhbjmeniaa
