/- Walks: slices joined (slices.Concat), and two lists of lists held against each other (hornsame.Lists). -/
import Derived.Test.YtmohilfebgahoaaGreatDoorMem
import Derived.Test.YtmohilfebgahoaaGreatDoorSound
import Derived.Test.YtmohilfebgahoaaGreatDoorBand
import Derived.Lib.AppendZeros
namespace Go.Proofs.YtmohilfebgahoaaGreatDoor
open Go.RowKit

theorem own_head {w : World} {base : Nat} {e : TypeId} {A : Option Addr} {n c : Nat} {xs : List Value} (h : w.ownsRow base e 1 (.slice A n c) n xs) : w.ownsRow base e 1 (.slice A 0 c) 0 [] := by
  refine ⟨rfl, ?_⟩
  rcases h.2 with ⟨h1, h2⟩ | ⟨g, cap, cur, h1, h2, h3, h4, h5, h6, h7⟩
  · injection h1 with e1 e2 e3
    subst e1
    subst e3
    exact .inl ⟨rfl, rfl⟩
  · injection h1 with e1 e2 e3
    exact .inr ⟨g, cap, cur, by rw [e1, e3], h2, h3, Nat.zero_le _, h5, h6, by simp⟩
theorem flat_take {ls : List (List Int)} {k : Nat} (h : k < ls.length) : (ls.take (k + 1)).flatten = (ls.take k).flatten ++ ls.getD k [] := by
  rw [List.take_succ_eq_append_getElem h, List.flatten_append, List.getD_eq_getElem?_getD, List.getElem?_eq_getElem h]
  simp
theorem flat_bd {ls : List (List Int)} {m : Nat} (h : ∀ l ∈ ls, l.length ≤ m) : ls.flatten.length ≤ ls.length * m := by
  induction ls with
  | nil => simp
  | cons l ls ih =>
    have h1 := ih fun x hx => h x (by simp [hx])
    have h2 := h l (by simp)
    rw [List.flatten_cons, List.length_append, List.length_cons, Nat.add_mul]
    omega
theorem mem_getD {ls : List (List Int)} {k : Nat} (h : k < ls.length) : ls.getD k [] ∈ ls := by
  rw [List.getD_eq_getElem?_getD, List.getElem?_eq_getElem h]; exact List.getElem_mem h
/-- Two lists of lists: are they the same? -/
def sameR (a b : List (List Int)) : Bool := decide (a = b)
theorem sameR_true {a b : List (List Int)} : sameR a b = true ↔ a = b := by unfold sameR; simp
end Go.Proofs.YtmohilfebgahoaaGreatDoor
/- Walks: bands joined, and split (chapter 9). -/
namespace Go.Proofs.YtmohilfebgahoaaGreatDoor
open Go.RowKit

/-- How many numbers each has. -/
def sizesOf (m : List (List Int)) : List Int := m.map fun l => (l.length : Int)
/-- What is wrong with bands that are joined. -/
def joinErr (m : List (List Int)) (s : List Int) : Int := if Ph.bandErr s = 0 then (if sizesOf m = s then 0 else 3) else Ph.bandErr s
theorem joinErr_zero {m : List (List Int)} {s : List Int} : joinErr m s = 0 ↔ Ph.bandErr s = 0 ∧ sizesOf m = s := by
  unfold joinErr
  split
  · rename_i h
    split
    · rename_i h2; simp [h, h2]
    · rename_i h2; simp [h2]
  · rename_i h; simp [h]
theorem sizesOf_getD {m : List (List Int)} {k : Nat} (hk : k < m.length) : (sizesOf m).getD k 0 = ((m.getD k []).length : Int) := by
  unfold sizesOf
  rw [List.getD_eq_getElem?_getD, List.getElem?_map, List.getD_eq_getElem?_getD, List.getElem?_eq_getElem hk]
  rfl
theorem sizesOf_length (m : List (List Int)) : (sizesOf m).length = m.length := by simp [sizesOf]
theorem sizesOf_mem {m : List (List Int)} {l : List Int} (h : l ∈ m) : (l.length : Int) ∈ sizesOf m := List.mem_map.2 ⟨l, h, rfl⟩
theorem sizesOf_of {m : List (List Int)} {s : List Int} (h1 : m.length = s.length) (h2 : ∀ k, k < m.length → ((m.getD k []).length : Int) = s.getD k 0) : sizesOf m = s := by
  apply List.ext_getElem
  · rw [sizesOf_length, h1]
  · intro k hk1 hk2
    have hk : k < m.length := by rw [sizesOf_length] at hk1; exact hk1
    have := sizesOf_getD hk
    rw [h2 k hk, List.getD_eq_getElem?_getD, List.getD_eq_getElem?_getD, List.getElem?_eq_getElem hk1, List.getElem?_eq_getElem hk2] at this
    simpa using this
theorem flat_sizes {m : List (List Int)} {s : List Int} (h : sizesOf m = s) : Ph.cut m.flatten s = m ∧ (m.flatten.length : Int) = Ph.total s := by
  have hl : m.length = s.length := by rw [← h, sizesOf_length]
  have hi : ∀ i, i < s.length → ((m.getD i []).length : Int) = s.getD i 0 := fun i hi => by rw [← h, sizesOf_getD (by omega)]
  exact ⟨Ph.flatten_cut m s hl hi, Ph.flatten_length m s hl hi⟩
theorem sizes_cut {l s : List Int} (h0 : Ph.bandErr s = 0) (ht : Ph.total s = l.length) : sizesOf (Ph.cut l s) = s ∧ (Ph.cut l s).flatten = l := by
  have hs := Ph.bandErr_zero.1 h0
  have hn : ∀ x ∈ s, 0 ≤ x := fun x hx => by have := hs.2.2.1 x hx; omega
  refine ⟨sizesOf_of (Ph.cut_length _ _) fun k hk => ?_, Ph.cut_flatten s l hn ht⟩
  rw [Ph.cut_length] at hk
  exact Ph.cut_sizes s l hn ht k hk
/-- What is wrong with numbers that are split. -/
def splitErr (l s : List Int) : Int := if Ph.bandErr s = 0 then (if Ph.total s = l.length then 0 else 3) else Ph.bandErr s
theorem splitErr_zero {l s : List Int} : splitErr l s = 0 ↔ Ph.bandErr s = 0 ∧ Ph.total s = l.length := by
  unfold splitErr
  split
  · rename_i h
    split
    · rename_i h2; simp [h, h2]
    · rename_i h2; simp [h2]
  · rename_i h; simp [h]
end Go.Proofs.YtmohilfebgahoaaGreatDoor
