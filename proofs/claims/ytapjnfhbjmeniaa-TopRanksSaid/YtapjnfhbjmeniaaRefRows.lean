/- The document's answers, walked (chapter 12): the fault of rows. -/
import Derived.Test.YtapjnfhbjmeniaaLearn2
import Derived.Test.YtapjnfhbjmeniaaMem
namespace Go.Proofs.Ytapjnfhbjmeniaa
open Go.RowKit

/-- A sign that may not be, of so many. -/
def badSign (m x : Int) : Bool := decide (x < 0) || decide (m ≤ x)
def rowsE (m : Int) : List (List Int) → Int
  | [] => 0
  | r :: ls => if 60 < r.length then 4 else if r.any (badSign m) = true then 1 else rowsE m ls
/-- What is wrong with rows, of so many signs. -/
def rowsErr (ls : List (List Int)) (m : Int) : Int := if m < 1 ∨ 40 < m then 1 else if 60 < ls.length then 4 else rowsE m ls
theorem rowsE_drop {m : Int} {ls : List (List Int)} {k : Nat} (hk : k < ls.length) : rowsE m (ls.drop k) = if 60 < (ls.getD k []).length then 4 else if (ls.getD k []).any (badSign m) = true then 1 else rowsE m (ls.drop (k + 1)) := by
  have e : ls.drop k = ls.getD k [] :: ls.drop (k + 1) := by
    rw [List.getD_eq_getElem?_getD, List.getElem?_eq_getElem hk]; exact List.drop_eq_getElem_cons hk
  rw [e, rowsE]
end Go.Proofs.Ytapjnfhbjmeniaa
