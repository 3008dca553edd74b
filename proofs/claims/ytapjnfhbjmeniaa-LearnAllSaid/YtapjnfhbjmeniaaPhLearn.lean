/- Plain law: how often signs are in rows (chapter 12). No program in sight. -/
import Derived.Test.YtapjnfhbjmeniaaPhScale
namespace Ph
/-- One more than how often each of m signs is in a row. -/
def cnts (xs : List Int) (m : Nat) : List Int := (List.range m).map fun (s : Nat) => 1 + ((xs.count (s : Int) : Nat) : Int)
theorem cnts_length (xs : List Int) (m : Nat) : (cnts xs m).length = m := by simp [cnts]
theorem cnts_nil (m : Nat) : cnts [] m = List.replicate m 1 := by
  apply List.ext_getElem
  · simp [cnts]
  · intro i h1 h2; simp [cnts]
theorem cnts_getD {m s : Nat} (xs : List Int) (h : s < m) : (cnts xs m).getD s 0 = 1 + ((xs.count (s : Int) : Nat) : Int) := by
  rw [List.getD_eq_getElem?_getD, List.getElem?_eq_getElem (by rw [cnts_length]; exact h)]
  simp [cnts]
theorem cnts_snoc {m s : Nat} (xs : List Int) (h : s < m) : cnts (xs ++ [(s : Int)]) m = (cnts xs m).set s ((cnts xs m).getD s 0 + 1) := by
  rw [cnts_getD xs h]
  apply List.ext_getElem
  · simp [cnts]
  · intro i h1 h2
    rw [List.getElem_set]
    by_cases e : s = i
    · subst e; simp [cnts, List.count_append]; omega
    · have hne : ¬ (s : Int) = (i : Int) := by omega
      rw [if_neg e]; simp [cnts, List.count_append, List.count_cons, hne]
theorem cnts_take {m : Nat} (xs : List Int) {k : Nat} (h : k < m) : (cnts xs m).take (k + 1) = (cnts xs m).take k ++ [1 + ((xs.count (k : Int) : Nat) : Int)] := by
  rw [List.take_add_one, List.getElem?_eq_getElem (by rw [cnts_length]; exact h)]
  simp [cnts]
theorem cnts_bd {m : Nat} {xs : List Int} : ∀ x ∈ cnts xs m, 1 ≤ x ∧ x ≤ 1 + xs.length := fun x hx => by
  obtain ⟨s, _, rfl⟩ := List.mem_map.1 hx
  have := List.count_le_length (a := (s : Int)) (l := xs)
  omega
theorem cnts_perm {m : Nat} {xs ys : List Int} (h : xs.Perm ys) : cnts xs m = cnts ys m := by
  unfold cnts
  apply List.map_congr_left
  intro s _
  rw [h.count_eq]
theorem flat_take {ls : List (List Int)} {k : Nat} (h : k < ls.length) : (ls.take (k + 1)).flatten = (ls.take k).flatten ++ ls.getD k [] := by
  have e : ls.getD k [] = ls[k] := by rw [List.getD_eq_getElem?_getD, List.getElem?_eq_getElem h]; rfl
  rw [List.take_add_one, List.getElem?_eq_getElem h, e, List.flatten_append]
  simp
theorem row_mem {ls : List (List Int)} {k : Nat} (h : k < ls.length) : ls.getD k [] ∈ ls := by
  rw [List.getD_eq_getElem?_getD, List.getElem?_eq_getElem h]
  simp
theorem flat_le {ls : List (List Int)} {b : Nat} (h : ∀ l ∈ ls, l.length ≤ b) : ls.flatten.length ≤ ls.length * b := by
  induction ls with
  | nil => simp
  | cons l ls ih =>
    have h1 := ih (fun x hx => h x (by simp [hx]))
    have h2 := h l (by simp)
    rw [List.flatten_cons, List.length_append, List.length_cons, Nat.succ_mul]
    omega
theorem flat_rev_perm (ls : List (List Int)) : ls.reverse.flatten.Perm ls.flatten := by
  induction ls with
  | nil => simp
  | cons l ls ih =>
    rw [List.reverse_cons, List.flatten_append, List.flatten_cons]
    simp only [List.flatten_cons, List.flatten_nil, List.append_nil]
    exact (List.perm_append_comm).trans (List.Perm.append_left l ih)
theorem count_take {r : List Int} {t : Nat} (h : t < r.length) (s : Int) : (r.take (t + 1)).count s = (r.take t).count s + if r.getD t 0 = s then 1 else 0 := by
  rw [List.take_add_one, List.getElem?_eq_getElem h, List.getD_eq_getElem?_getD, List.getElem?_eq_getElem h]
  simp only [Option.toList_some, Option.getD_some, List.count_append, List.count_cons, List.count_nil, beq_iff_eq, Nat.zero_add]
end Ph
