/- Walks: slices joined (slices.Concat), and two lists of lists held against each other (hornsame.Lists). -/
import Derived.Test.YtlilommhdjdblaaDoorMem
import Derived.Test.YtlilommhdjdblaaDoorSound
import Derived.Lib.AppendZeros
namespace Go.Proofs.YtlilommhdjdblaaDoor
open Go.RowKit

theorem own_head {w : World} {base : Nat} {e : TypeId} {A : Option Addr} {n c : Nat} {xs : List Value} (h : w.ownsRow base e 1 (.slice A n c) n xs) : w.ownsRow base e 1 (.slice A 0 c) 0 [] := by
  refine ⟨rfl, ?_⟩
  rcases h.2 with ⟨h1, h2⟩ | ⟨g, cap, cur, h1, h2, h3, h4, h5, h6, h7⟩
  · injection h1 with e1 e2 e3
    subst e1
    subst e3
    exact .inl ⟨rfl, rfl⟩
  · injection h1 with e1 e2 e3
    exact .inr ⟨g, cap, cur, by rw [e1, e3], h2, h3, Nat.zero_le _, h5, h6, by simp⟩
theorem flat_take {ls : List (List Int)} {k : Nat} (h : k < ls.length) : (ls.take (k + 1)).flatten = (ls.take k).flatten ++ ls.getD k [] := by
  rw [List.take_succ_eq_append_getElem h, List.flatten_append, List.getD_eq_getElem?_getD, List.getElem?_eq_getElem h]
  simp
theorem flat_bd {ls : List (List Int)} {m : Nat} (h : ∀ l ∈ ls, l.length ≤ m) : ls.flatten.length ≤ ls.length * m := by
  induction ls with
  | nil => simp
  | cons l ls ih =>
    have h1 := ih fun x hx => h x (by simp [hx])
    have h2 := h l (by simp)
    rw [List.flatten_cons, List.length_append, List.length_cons, Nat.add_mul]
    omega
theorem mem_getD {ls : List (List Int)} {k : Nat} (h : k < ls.length) : ls.getD k [] ∈ ls := by
  rw [List.getD_eq_getElem?_getD, List.getElem?_eq_getElem h]; exact List.getElem_mem h
/-- Two lists of lists: are they the same? -/
def sameR (a b : List (List Int)) : Bool := decide (a = b)
theorem sameR_true {a b : List (List Int)} : sameR a b = true ↔ a = b := by unfold sameR; simp
end Go.Proofs.YtlilommhdjdblaaDoor
