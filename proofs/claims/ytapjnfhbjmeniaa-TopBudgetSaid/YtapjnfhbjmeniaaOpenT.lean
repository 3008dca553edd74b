/- A law's argument that is a tank, opened for the walk. -/
import Derived.Test.YtapjnfhbjmeniaaOpen
import Derived.Lib.SmallJoins
namespace Go.Proofs.Ytapjnfhbjmeniaa
open Go.ChangeShapes Go.WideShapes Go.ChangeAt Go.RowKit Go.Joins

set_option maxRecDepth 100000 in
theorem open_tank {H : Type} {enc : TypeId × Value → H} {W : World} {r : Reach} {b0 : Nat} {v : Value} {d : DataW H} {p : List MemPlace} (hv : Value.okWide Try.prog W r b0 51 v)
    (h : DataW.Trod enc Try.prog W 0 (fun _ => true) true 51 v d p) : ∃ s e h, v = .agg #[.int .i64 s, .int .i64 e, .int .i64 h] := by
  obtain ⟨c0, c1, c2, y0, y1, y2, m, rfl, rfl, rfl, hy0, hy1, hy2⟩ := open_agg3 Try.underlying51 (by kernel_rfl) (by kernel_rfl) hv h
  obtain ⟨x, e0, rfl, wx⟩ := DataW.trod_int Try.underlying3 hy0
  obtain ⟨y, e1, rfl, wy⟩ := DataW.trod_int Try.underlying3 hy1
  obtain ⟨f, e2, rfl, wf⟩ := DataW.trod_int Try.underlying3 hy2
  simp at e0 e1 e2
  subst e0 e1 e2
  exact ⟨x, y, f, rfl⟩
end Go.Proofs.Ytapjnfhbjmeniaa
