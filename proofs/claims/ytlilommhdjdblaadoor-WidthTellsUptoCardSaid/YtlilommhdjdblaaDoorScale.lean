/- Walks: shares that are Total together (chapter 10). -/
import Derived.Test.YtlilommhdjdblaaDoorSound
import Derived.Test.YtlilommhdjdblaaDoorCount
import Derived.Test.YtlilommhdjdblaaDoorShelf
import Derived.Test.YtlilommhdjdblaaDoorPhAll
import Derived.Outline
namespace Go.Proofs.YtlilommhdjdblaaDoor
open Go.RowKit

theorem total_abs {l : List Int} {M : Int} (h : ∀ x ∈ l, -M ≤ x ∧ x ≤ M) : -(l.length * M) ≤ Ph.total l ∧ Ph.total l ≤ l.length * M := by
  induction l with
  | nil => simp [Ph.total]
  | cons x l ih =>
    have h1 := ih (fun y hy => h y (by simp [hy]))
    have h2 := h x (by simp)
    simp only [Ph.total, List.length_cons]
    rw [Int.natCast_add, Int.add_mul]
    simp
    omega
theorem total_take_abs {l : List Int} (h : ∀ x ∈ l, -1000000000 ≤ x ∧ x ≤ 1000000000) (hn : l.length ≤ 1000) (k : Nat) : -1000000000000 ≤ Ph.total (l.take k) ∧ Ph.total (l.take k) ≤ 1000000000000 := by
  have h1 := total_abs (l := l.take k) (M := 1000000000) fun x hx => h x (List.mem_of_mem_take hx)
  have h2 : (l.take k).length ≤ 1000 := by rw [List.length_take]; omega
  omega
/-- A count that may not be. -/
def badCount (x : Int) : Bool := decide (x < 0) || decide (1000000 < x)
/-- What is wrong with counts. -/
def scaleErr (l : List Int) : Int := if l.length = 0 then 5 else if 40 < l.length then 4 else if l.any badCount = true then 1 else if Ph.total l = 0 then 5 else 0
theorem counts_any_bad {s : List Int} : s.any badCount = false ↔ ∀ x ∈ s, 0 ≤ x ∧ x ≤ 1000000 := by
  rw [List.any_eq_false]
  unfold badCount
  constructor
  · intro h x hx
    have := h x hx
    simp at this; omega
  · intro h x hx
    have := h x hx
    simp; omega
theorem scaleErr_zero {l : List Int} : scaleErr l = 0 ↔ 0 < l.length ∧ l.length ≤ 40 ∧ (∀ x ∈ l, 0 ≤ x ∧ x ≤ 1000000) ∧ Ph.total l ≠ 0 := by
  unfold scaleErr
  by_cases h1 : l.length = 0
  · rw [if_pos h1]; constructor <;> intro h <;> omega
  · rw [if_neg h1]
    by_cases h2 : 40 < l.length
    · rw [if_pos h2]; constructor <;> intro h <;> omega
    · rw [if_neg h2]
      cases h3 : l.any badCount
      · rw [if_neg (by simp)]
        have h4 := counts_any_bad.1 h3
        by_cases h5 : Ph.total l = 0
        · rw [if_pos h5]; constructor
          · intro h; omega
          · intro h; exact absurd h5 h.2.2.2
        · rw [if_neg h5]; exact ⟨fun _ => ⟨by omega, by omega, h4, h5⟩, fun _ => rfl⟩
      · rw [if_pos rfl]; constructor
        · intro h; omega
        · intro h; rw [counts_any_bad.2 h.2.2.1] at h3; cases h3
theorem idx_best {l : List Int} (h : l ≠ []) : Lib.maxOf l = l.getD (Ph.bestL l) 0 ∧ Lib.idxOf l (l.getD (Ph.bestL l) 0) = (Ph.bestL l : Nat) := by
  have hb := Ph.bestL_lt h
  constructor
  · have hm : ∀ k, 0 < k → k ≤ l.length → Lib.maxOf (l.take k) = l.getD (Ph.best (fun i => l.getD i 0) k) 0 := by
      intro k
      induction k with
      | zero => intro h0; omega
      | succ k ih =>
        intro _ hk
        rcases Nat.eq_zero_or_pos k with h0 | h0
        · subst h0
          rw [Lib.maxOf_one]
          simp [Ph.best]
        · rw [Lib.maxOf_step l k h0 (by omega), ih h0 (by omega)]
          simp only [Ph.best]
          split <;> omega
    have := hm l.length (by omega) (Nat.le_refl _)
    rwa [List.take_of_length_le (Nat.le_refl _)] at this
  · have h1 := Ph.best_first (fun i => l.getD i 0) l.length
    have := Lib.idxOf_hit l l.length (Ph.bestL l) (l.getD (Ph.bestL l) 0) hb (Nat.le_refl _) rfl (fun j hj => by
      have := h1 j hj
      unfold Ph.bestL; omega)
    rwa [List.take_of_length_le (Nat.le_refl _)] at this
theorem part_skip {f : Nat → Int} {k j : Nat} (h : f j = 0) : part f k (j + 1) = part f k j := by
  unfold part
  apply List.map_congr_left
  intro i _
  by_cases e : i = j
  · subst e; rw [if_pos (by omega), if_neg (by omega), h]
  · by_cases h1 : i < j
    · rw [if_pos (by omega), if_pos h1]
    · rw [if_neg (by omega), if_neg h1]
theorem firsts_part (l : List Int) : Ph.firsts l = part (fun i => Ph.share1 (Ph.total l) (l.getD i 0)) l.length l.length := by
  rw [part_all]
  apply List.ext_getElem
  · simp [Ph.firsts]
  · intro i h1 h2
    simp only [List.getElem_map, List.getElem_range]
    have := Ph.firsts_getD l i (by simpa [Ph.firsts] using h1)
    rw [List.getD_eq_getElem?_getD, List.getElem?_eq_getElem h1] at this
    simpa using this
/-- What holds of shares that are being adjusted. -/
def Adj (l cur : List Int) : Prop := Ph.finish cur = Ph.scaled l ∧ cur.length = l.length ∧ Ph.Fits l cur ∧ 0 ≤ Ph.total cur ∧ Ph.total cur ≤ 10240
theorem adj_bd {l cur : List Int} (h : Adj l cur) (i : Nat) : 0 ≤ cur.getD i 0 ∧ cur.getD i 0 ≤ 10240 := by
  obtain ⟨_, h1, h2, _, h4⟩ := h
  have hp : ∀ x ∈ cur, 0 ≤ x := by
    intro x hx
    obtain ⟨j, hj, rfl⟩ := List.mem_iff_getElem.1 hx
    have := (h2.2 j (by omega)).1
    rwa [List.getD_eq_getElem?_getD, List.getElem?_eq_getElem hj] at this
  by_cases hi : i < cur.length
  · have := Ph.mem_le_total hp _ (Ph.getD_mem hi)
    have := (h2.2 i (by omega)).1
    omega
  · rw [List.getD_eq_getElem?_getD, List.getElem?_eq_none (by omega)]
    simp
theorem adj_step {l cur : List Int} (h0 : scaleErr l = 0) (h : Adj l cur) (ht : Ph.total cur ≠ 256) : Adj l (Ph.bump cur (Ph.bestL cur) (Ph.dirn cur)) ∧ Ph.total (Ph.bump cur (Ph.bestL cur) (Ph.dirn cur)) = Ph.total cur + Ph.dirn cur ∧ Ph.bestL cur < cur.length := by
  have hz := scaleErr_zero.1 h0
  have hne : cur ≠ [] := fun e => by have := h.2.1; rw [e] at this; simp at this; omega
  have hs := Ph.finish_step ht hne
  have hb := Ph.bestL_lt hne
  have htb : Ph.total (Ph.bump cur (Ph.bestL cur) (Ph.dirn cur)) = Ph.total cur + Ph.dirn cur := Ph.total_bump hb
  refine ⟨⟨hs.1.symm.trans h.1, by rw [Ph.bump_length]; exact h.2.1, Ph.fits_bump hz.2.1 (Ph.some_pos (fun x hx => (hz.2.2.1 x hx).1) hz.2.2.2) h.2.2.1, ?_, ?_⟩, htb, hb⟩
  · rw [htb]; have := h.2.2.2; unfold Ph.dirn; split <;> omega
  · rw [htb]; have := h.2.2.2; unfold Ph.dirn; split <;> omega
theorem adj_start {l : List Int} (h0 : scaleErr l = 0) : Adj l (Ph.firsts l) := by
  have hz := scaleErr_zero.1 h0
  have h1 := Ph.firsts_total_le hz.2.1 fun x hx => (hz.2.2.1 x hx).1
  exact ⟨rfl, Ph.firsts_length l, Ph.firsts_fits fun x hx => (hz.2.2.1 x hx).1, h1.1, h1.2⟩
end Go.Proofs.YtlilommhdjdblaaDoor
/- Walks: where shares start, and whose a place is (chapter 10). -/
namespace Go.Proofs.YtlilommhdjdblaaDoor
open Go.RowKit

instance sharesDec (f : List Int) : Decidable (Ph.sharesOk f) := by unfold Ph.sharesOk; infer_instance
/-- What is wrong with shares. -/
def shErr (f : List Int) : Int := if Ph.sharesOk f then 0 else 3
theorem shErr_zero {f : List Int} : shErr f = 0 ↔ Ph.sharesOk f := by
  unfold shErr
  split
  · exact ⟨fun _ => by assumption, fun _ => rfl⟩
  · exact ⟨fun h => absurd h (by omega), fun h => absurd h (by assumption)⟩
theorem shErr_no {f : List Int} (h : ¬ Ph.sharesOk f) : shErr f = 3 := if_neg h
theorem shErr_two (f : List Int) : shErr f = 0 ∨ shErr f = 3 := by unfold shErr; split <;> simp
/-- Where shares start. -/
def begins (f : List Int) : List Int := (List.range f.length).map (Ph.pre f)
theorem begins_length (f : List Int) : (begins f).length = f.length := by simp [begins]
theorem begins_getD (f : List Int) (i : Nat) (h : i < f.length) : (begins f).getD i 0 = Ph.pre f i := Ph.getD_map_range _ _ _ h
theorem pre_bd {f : List Int} (h : Ph.sharesOk f) (i : Nat) : 0 ≤ Ph.pre f i ∧ Ph.pre f i ≤ 256 := by
  have h1 := Ph.pre_nonneg (fun x hx => (h.2.2.1 x hx).1) i
  have h2 := Ph.total_take_le (l := f) (fun x hx => (h.2.2.1 x hx).1) i
  have := h.2.2.2
  unfold Ph.pre at *
  omega
/-- What is wrong with a place. -/
def findErr (f : List Int) (a : Int) : Int := if shErr f ≠ 0 then 3 else if a < 0 ∨ 255 < a then 1 else 0
theorem scaled_shares {l : List Int} (h0 : scaleErr l = 0) : Ph.sharesOk (Ph.scaled l) := by
  have hz := scaleErr_zero.1 h0
  have h1 := Ph.scaled_ok hz.2.1 (fun x hx => (hz.2.2.1 x hx).1) hz.2.2.2
  have hp : ∀ x ∈ Ph.scaled l, 0 ≤ x := by
    intro x hx
    obtain ⟨j, hj, rfl⟩ := List.mem_iff_getElem.1 hx
    have := (h1.1.2 j (by have := h1.1.1; omega)).1
    rwa [List.getD_eq_getElem?_getD, List.getElem?_eq_getElem hj] at this
  refine ⟨by have := h1.1.1; omega, by have := h1.1.1; omega, fun x hx => ⟨hp x hx, ?_⟩, h1.2⟩
  have := Ph.mem_le_total hp x hx
  omega
end Go.Proofs.YtlilommhdjdblaaDoor
