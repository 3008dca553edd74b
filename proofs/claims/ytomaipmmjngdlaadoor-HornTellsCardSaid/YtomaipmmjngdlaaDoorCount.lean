/- Walks: how many rows there are (chapter 5). -/
import Derived.Test.YtomaipmmjngdlaaDoorSound2
import Derived.Test.YtomaipmmjngdlaaDoorPush
import Derived.Test.YtomaipmmjngdlaaDoorPhCount
import Derived.Outline
namespace Go.Proofs.YtomaipmmjngdlaaDoor
open Go.RowKit

/-- A row of the table: of n numbers and 0 to k pulses. -/
def cntL (n k : Nat) : List Int := (List.range (k + 1)).map fun j => (Ph.cnt n j : Int)
/-- The row that is being made: the first j are those of f, the rest are 0. -/
def part (f : Nat → Int) (k j : Nat) : List Int := (List.range k).map fun i => if i < j then f i else 0
theorem part_zero (f : Nat → Int) (k : Nat) : part f k 0 = List.replicate k 0 := by
  unfold part
  apply List.ext_getElem
  · simp
  · intro i h1 h2; simp
theorem part_all (f : Nat → Int) (k : Nat) : part f k k = (List.range k).map f := by
  unfold part
  apply List.map_congr_left
  intro i hi
  rw [if_pos (List.mem_range.1 hi)]
theorem part_set (f : Nat → Int) (k j : Nat) : (part f k j).set j (f j) = part f k (j + 1) := by
  unfold part
  apply List.ext_getElem
  · simp
  · intro i h1 h2
    simp only [List.getElem_set, List.getElem_map, List.getElem_range]
    by_cases e : j = i
    · subst e; simp
    · rw [if_neg e]
      by_cases h : i < j
      · rw [if_pos h, if_pos (by omega)]
      · rw [if_neg h, if_neg (by omega)]
theorem part_length (f : Nat → Int) (k j : Nat) : (part f k j).length = k := by simp [part]
theorem part_getD (f : Nat → Int) (k j i : Nat) (hi : i < k) : (part f k j).getD i 0 = if i < j then f i else 0 := by
  unfold part
  rw [Ph.getD_map_range _ _ _ hi]
theorem cntL_zero (k : Nat) : cntL 0 k = part (fun j => (Ph.cnt 0 j : Int)) (k + 1) 1 := by
  unfold cntL part
  apply List.map_congr_left
  intro i _
  by_cases h : i < 1
  · rw [if_pos h]
  · rw [if_neg h]
    obtain ⟨q, rfl⟩ : ∃ q, i = q + 1 := ⟨i - 1, by omega⟩
    rw [Ph.cnt_none]; rfl
theorem cntL_all (n k : Nat) : cntL n k = part (fun j => (Ph.cnt n j : Int)) (k + 1) (k + 1) := (part_all _ _).symm
theorem make_ints1 (k : Nat) (hk : k ≤ 1000000) (W : World) : (Instr.makeSlice 22 (.int .i64 ((k : Int) + 1)) (.int .i64 ((k : Int) + 1))).run Tryd.prog W = .ok (.slice (some ⟨W.heap.size, 0, none⟩) (k + 1) (k + 1)) (W.alloc (.cells (madeCells #[.int .i64 0] (k + 1)) 3)) := by
  have := make_ints (k + 1) (by omega) W
  simpa using this
theorem made_own (W : World) (k : Nat) (hk : k ≤ 1000000) : (W.alloc (.cells (madeCells #[.int .i64 0] k) 3)).ownsRow W.heap.size 3 1 (.slice (some ⟨W.heap.size, 0, none⟩) k k) k (ivals (List.replicate k 0)) := by
  have := World.ownsRow_lit (base := W.heap.size) (e := 3) (size := 1) W (madeCells #[.int .i64 0] k) k (Nat.le_refl _) (by unfold maxLen; omega) (by rw [size_madeCells, Nat.mul_one])
  rw [toList_madeCells_one] at this
  rw [show ivals (List.replicate k 0) = List.replicate k (.int .i64 0) by simp [ivals]]
  exact this
theorem made_own1 (W : World) (k : Nat) (hk : k ≤ 1000000) (f : Nat → Int) (x : Int) (hx : f 0 = x) : (W.alloc (.cells ((madeCells #[.int .i64 0] (k + 1)).setIfInBounds 0 (.int .i64 x)) 3)).ownsRow W.heap.size 3 1 (.slice (some ⟨W.heap.size, 0, none⟩) (k + 1) (k + 1)) (k + 1) (ivals (part f (k + 1) 1)) := by
  have := World.ownsRow_lit (base := W.heap.size) (e := 3) (size := 1) W ((madeCells #[.int .i64 0] (k + 1)).setIfInBounds 0 (.int .i64 x)) (k + 1) (Nat.le_refl _) (by unfold maxLen; omega) (by rw [Array.size_setIfInBounds, size_madeCells, Nat.mul_one])
  rw [Array.toList_setIfInBounds, toList_madeCells_one] at this
  rw [← part_set f (k + 1) 0, part_zero, ← ivals_set, hx, show ivals (List.replicate (k + 1) 0) = List.replicate (k + 1) (.int .i64 0) by simp [ivals]]
  exact this
theorem made_cell0 (k : Nat) : (madeCells #[Value.int .i64 0] (k + 1))[0]? = some (.int .i64 0) := by
  rw [← Array.getElem?_toList, toList_madeCells_one]; rfl
theorem cnt_bd (n k : Nat) (hn : n ≤ 6) (hk : k ≤ 8) : 0 ≤ (Ph.cnt n k : Int) ∧ (Ph.cnt n k : Int) ≤ 100000 := by
  have := Ph.cnt_le n k hn hk
  omega
end Go.Proofs.YtomaipmmjngdlaaDoor
