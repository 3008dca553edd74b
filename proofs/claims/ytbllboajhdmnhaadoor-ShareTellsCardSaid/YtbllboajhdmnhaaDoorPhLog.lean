/- Plain law: records of bytes, each ended by a byte 10 (chapter 19). No program in sight. -/
import Derived.Test.YtbllboajhdmnhaaDoorPhHide
namespace Ph
def noNl (l : List UInt8) : Prop := ∀ x ∈ l, x ≠ 10
def isRec (r : List UInt8) : Prop := ∃ body, r = body ++ [10] ∧ noNl body
theorem isRec_pos {r : List UInt8} (h : isRec r) : 0 < r.length := by obtain ⟨b, rfl, _⟩ := h; simp
theorem noNl_take {l : List UInt8} (h : noNl l) (k : Nat) : noNl (l.take k) := fun x hx => h x (List.mem_of_mem_take hx)
theorem rec_part {r : List UInt8} (h : isRec r) {k : Nat} (hk : k < r.length) : noNl (r.take k) := by
  obtain ⟨b, rfl, hb⟩ := h
  rw [List.length_append] at hk
  rw [List.take_append_of_le_length (by simp at hk; omega)]
  exact noNl_take hb k
/-- How many bytes the first i records have. -/
def mark (rs : List (List UInt8)) (i : Nat) : Nat := (rs.take i).flatten.length
theorem mark_zero (rs : List (List UInt8)) : mark rs 0 = 0 := rfl
theorem mark_succ (rs : List (List UInt8)) (i : Nat) (h : i < rs.length) : mark rs (i + 1) = mark rs i + rs[i].length := by
  unfold mark; rw [List.take_succ_eq_append_getElem h, List.flatten_append, List.length_append]; simp only [List.flatten_cons, List.flatten_nil, List.append_nil]
theorem mark_mono (rs : List (List UInt8)) {i j : Nat} (h : i ≤ j) : mark rs i ≤ mark rs j := by
  unfold mark
  have : rs.take j = rs.take i ++ (rs.take j).drop i := by
    have e : rs.take i = (rs.take j).take i := by rw [List.take_take, Nat.min_eq_left h]
    rw [e, List.take_append_drop]
  rw [this, List.flatten_append, List.length_append]; omega
theorem mark_all (rs : List (List UInt8)) : mark rs rs.length = rs.flatten.length := by unfold mark; rw [List.take_length]
theorem mark_lt {rs : List (List UInt8)} (hr : ∀ r ∈ rs, isRec r) {i j : Nat} (h : i < j) (hj : j ≤ rs.length) : mark rs i < mark rs j := by
  have h1 := mark_succ rs i (by omega)
  have h2 := isRec_pos (hr rs[i] (List.getElem_mem _))
  have h3 := mark_mono rs (show i + 1 ≤ j by omega)
  omega
/-- The first bytes of records: whole records, and a part of the next one. -/
theorem cut_recs : ∀ (rs : List (List UInt8)) (tail : List UInt8) (high : Nat), (∀ r ∈ rs, isRec r) → noNl tail →
    ∃ i P, i ≤ rs.length ∧ (rs.flatten ++ tail).take high = (rs.take i).flatten ++ P ∧ noNl P ∧ mark rs i ≤ high ∧ (∀ j, i < j → j ≤ rs.length → high < mark rs j)
  | [], tail, high, _, ht => ⟨0, tail.take high, by simp, by simp, noNl_take ht high, by simp [mark], fun j h1 h2 => by simp at h2; omega⟩
  | r :: rs, tail, high, hr, ht => by
    have hr0 := hr r (by simp)
    rcases Nat.lt_or_ge high r.length with h | h
    · refine ⟨0, r.take high, by simp, ?_, rec_part hr0 h, by simp [mark], fun j h1 h2 => ?_⟩
      · simp only [List.flatten_cons, List.append_assoc, List.take_zero, List.flatten_nil, List.nil_append]
        rw [List.take_append_of_le_length (by omega)]
      · have := mark_mono (r :: rs) (show 1 ≤ j by omega)
        have e : mark (r :: rs) 1 = r.length := by simp [mark]
        omega
    · obtain ⟨i, P, h1, h2, h3, h4, h5⟩ := cut_recs rs tail (high - r.length) (fun x hx => hr x (by simp [hx])) ht
      have em : ∀ k, mark (r :: rs) (k + 1) = r.length + mark rs k := fun k => by simp [mark]
      refine ⟨i + 1, P, by simp; omega, ?_, h3, by rw [em]; omega, fun j hj1 hj2 => ?_⟩
      · simp only [List.flatten_cons, List.append_assoc, List.take_succ_cons]
        rw [List.take_append, List.take_of_length_le h, h2]
      · obtain ⟨k, rfl⟩ : ∃ k, j = k + 1 := ⟨j - 1, by omega⟩
        have := h5 k (by omega) (by simp at hj2; omega)
        rw [em]; omega
theorem count_rec {r : List UInt8} (h : isRec r) : r.count 10 = 1 := by
  obtain ⟨b, rfl, hb⟩ := h
  rw [List.count_append, List.count_eq_zero.2 (fun h => hb 10 h rfl)]; rfl
theorem count_noNl {l : List UInt8} (h : noNl l) : l.count 10 = 0 := List.count_eq_zero.2 (fun h2 => h 10 h2 rfl)
theorem count_recs : ∀ (rs : List (List UInt8)), (∀ r ∈ rs, isRec r) → rs.flatten.count 10 = rs.length
  | [], _ => rfl
  | r :: rs, h => by rw [List.flatten_cons, List.count_append, count_rec (h r (by simp)), count_recs rs (fun x hx => h x (by simp [hx])), List.length_cons]; omega
/-- Records end in a byte 10, or there is none. -/
theorem flatten_ends : ∀ (rs : List (List UInt8)), (∀ r ∈ rs, isRec r) → rs = [] ∨ ∃ b, rs.flatten = b ++ [10]
  | [], _ => .inl rfl
  | r :: rs, h => by
    right
    rcases flatten_ends rs (fun x hx => h x (by simp [hx])) with rfl | ⟨b, hb⟩
    · obtain ⟨b, rfl, _⟩ := h r (by simp)
      exact ⟨b, by simp⟩
    · exact ⟨r ++ b, by rw [List.flatten_cons, hb, List.append_assoc]⟩
end Ph
