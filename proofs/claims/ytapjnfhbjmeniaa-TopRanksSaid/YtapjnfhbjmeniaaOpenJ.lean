/- What the law's arguments read as: a slice of ints, and that a nil one has no room. -/
import Derived.Test.YtapjnfhbjmeniaaOpen
namespace Go.Proofs.Ytapjnfhbjmeniaa
open Go.ChangeShapes Go.WideShapes Go.ChangeAt Go.RowKit

theorem open_ints_argJ {H : Type} {enc : TypeId × Value → H} {W : World} {ts : List TypeId} {ds : List (DataW H)} (hs : (DataW.weightsEach Try.prog ts ds).all (· ≤ reachBytes) = true) {j : Nat} {A : Option Addr} {n c : Nat} {d : DataW H} {p : List MemPlace}
    (ht : ts[j]? = some 22) (hd : ds[j]? = some d) (h : DataW.Trod enc Try.prog W 0 (fun _ => true) true 22 (.slice A n c) d p) (lt : ∀ x ∈ p, x.block < W.heap.size) :
    ∃ l, RdI W W.heap.size A n l ∧ (n ≤ c ∧ c ≤ 17592186044415) ∧ ((∀ x ∈ l, Is64 x) ∧ (A = none → c = 0)) := by
  obtain ⟨l, h1, h2, h3⟩ := open_ints_arg hs ht hd h lt
  refine ⟨l, h1, h2, h3, ?_⟩
  obtain ⟨fuel, hf⟩ := h
  rcases open_ints Try.underlying22 Try.underlying3 cells_int hf with ⟨hcs, _⟩ | ⟨x, len, cap, zs, hcs, _⟩
  · simp [Value.cells] at hcs
    exact fun _ => hcs.2.2
  · simp [Value.cells] at hcs
    intro hA
    rw [hA] at hcs
    simp at hcs
end Go.Proofs.Ytapjnfhbjmeniaa
