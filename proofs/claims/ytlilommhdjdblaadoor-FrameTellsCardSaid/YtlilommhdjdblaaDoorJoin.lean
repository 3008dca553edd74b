/- Walks: bands joined, and split (chapter 9). -/
import Derived.Test.YtlilommhdjdblaaDoorConcat
import Derived.Test.YtlilommhdjdblaaDoorBand
namespace Go.Proofs.YtlilommhdjdblaaDoor
open Go.RowKit

/-- How many numbers each has. -/
def sizesOf (m : List (List Int)) : List Int := m.map fun l => (l.length : Int)
/-- What is wrong with bands that are joined. -/
def joinErr (m : List (List Int)) (s : List Int) : Int := if Ph.bandErr s = 0 then (if sizesOf m = s then 0 else 3) else Ph.bandErr s
theorem joinErr_zero {m : List (List Int)} {s : List Int} : joinErr m s = 0 ↔ Ph.bandErr s = 0 ∧ sizesOf m = s := by
  unfold joinErr
  split
  · rename_i h
    split
    · rename_i h2; simp [h, h2]
    · rename_i h2; simp [h2]
  · rename_i h; simp [h]
theorem sizesOf_getD {m : List (List Int)} {k : Nat} (hk : k < m.length) : (sizesOf m).getD k 0 = ((m.getD k []).length : Int) := by
  unfold sizesOf
  rw [List.getD_eq_getElem?_getD, List.getElem?_map, List.getD_eq_getElem?_getD, List.getElem?_eq_getElem hk]
  rfl
theorem sizesOf_length (m : List (List Int)) : (sizesOf m).length = m.length := by simp [sizesOf]
theorem sizesOf_mem {m : List (List Int)} {l : List Int} (h : l ∈ m) : (l.length : Int) ∈ sizesOf m := List.mem_map.2 ⟨l, h, rfl⟩
theorem sizesOf_of {m : List (List Int)} {s : List Int} (h1 : m.length = s.length) (h2 : ∀ k, k < m.length → ((m.getD k []).length : Int) = s.getD k 0) : sizesOf m = s := by
  apply List.ext_getElem
  · rw [sizesOf_length, h1]
  · intro k hk1 hk2
    have hk : k < m.length := by rw [sizesOf_length] at hk1; exact hk1
    have := sizesOf_getD hk
    rw [h2 k hk, List.getD_eq_getElem?_getD, List.getD_eq_getElem?_getD, List.getElem?_eq_getElem hk1, List.getElem?_eq_getElem hk2] at this
    simpa using this
theorem flat_sizes {m : List (List Int)} {s : List Int} (h : sizesOf m = s) : Ph.cut m.flatten s = m ∧ (m.flatten.length : Int) = Ph.total s := by
  have hl : m.length = s.length := by rw [← h, sizesOf_length]
  have hi : ∀ i, i < s.length → ((m.getD i []).length : Int) = s.getD i 0 := fun i hi => by rw [← h, sizesOf_getD (by omega)]
  exact ⟨Ph.flatten_cut m s hl hi, Ph.flatten_length m s hl hi⟩
theorem sizes_cut {l s : List Int} (h0 : Ph.bandErr s = 0) (ht : Ph.total s = l.length) : sizesOf (Ph.cut l s) = s ∧ (Ph.cut l s).flatten = l := by
  have hs := Ph.bandErr_zero.1 h0
  have hn : ∀ x ∈ s, 0 ≤ x := fun x hx => by have := hs.2.2.1 x hx; omega
  refine ⟨sizesOf_of (Ph.cut_length _ _) fun k hk => ?_, Ph.cut_flatten s l hn ht⟩
  rw [Ph.cut_length] at hk
  exact Ph.cut_sizes s l hn ht k hk
/-- What is wrong with numbers that are split. -/
def splitErr (l s : List Int) : Int := if Ph.bandErr s = 0 then (if Ph.total s = l.length then 0 else 3) else Ph.bandErr s
theorem splitErr_zero {l s : List Int} : splitErr l s = 0 ↔ Ph.bandErr s = 0 ∧ Ph.total s = l.length := by
  unfold splitErr
  split
  · rename_i h
    split
    · rename_i h2; simp [h, h2]
    · rename_i h2; simp [h2]
  · rename_i h; simp [h]
end Go.Proofs.YtlilommhdjdblaaDoor
