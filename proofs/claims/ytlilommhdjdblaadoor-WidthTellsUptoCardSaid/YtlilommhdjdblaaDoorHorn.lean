/- Walks: a row of signs checked (chapter 11), by the program and by the document. -/
import Derived.Test.YtlilommhdjdblaaDoorRefScale
namespace Go.Proofs.YtlilommhdjdblaaDoor
open Go.RowKit

/-- What is wrong with shares, and a row of signs. -/
def hornErr (f l : List Int) : Int := if shErr f ≠ 0 then 3 else if 60 < l.length then 4 else Ph.rowErr f l
theorem rowErr_drop {f l : List Int} {k : Nat} (hk : k < l.length) :
    Ph.rowErr f (l.drop k) = if l.getD k 0 < 0 ∨ (f.length : Int) ≤ l.getD k 0 then 1 else if f.getD (l.getD k 0).toNat 0 = 0 then 5 else Ph.rowErr f (l.drop (k + 1)) := by
  have e : l.drop k = l.getD k 0 :: l.drop (k + 1) := by
    rw [List.getD_eq_getElem?_getD, List.getElem?_eq_getElem hk]; exact List.drop_eq_getElem_cons hk
  rw [e, Ph.rowErr]
end Go.Proofs.YtlilommhdjdblaaDoor
