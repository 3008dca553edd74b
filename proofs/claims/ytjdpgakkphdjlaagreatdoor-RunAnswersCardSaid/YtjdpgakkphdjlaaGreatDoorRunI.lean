/- Walks of a session (chapter 20): its lines (strings.Lines), one by one. -/
import Derived.Test.YtjdpgakkphdjlaaGreatDoorRunW
namespace Pr
/-- A text's lines, each with the byte 10 at its end. -/
def rawL : List UInt8 → List (List UInt8)
  | [] => []
  | x :: l => if x = 10 then [10] :: rawL l else match rawL l with
    | [] => [[x]]
    | p :: ps => (x :: p) :: ps
theorem rawL_hit : ∀ (p r : List UInt8), (10 : UInt8) ∉ p → rawL (p ++ 10 :: r) = (p ++ [10]) :: rawL r
  | [], r, _ => by simp [rawL]
  | x :: p, r, h => by
    have h1 : x ≠ 10 := fun e => h (by simp [e])
    rw [List.cons_append, rawL, if_neg h1, rawL_hit p r (fun e => h (by simp [e]))]
    rfl
theorem rawL_miss : ∀ (p : List UInt8), (10 : UInt8) ∉ p → p ≠ [] → rawL p = [p]
  | [], _, h => absurd rfl h
  | [x], h, _ => by
    have h1 : x ≠ 10 := fun e => h (by simp [e])
    rw [rawL, if_neg h1]; rfl
  | x :: y :: p, h, _ => by
    have h1 : x ≠ 10 := fun e => h (by simp [e])
    rw [rawL, if_neg h1, rawL_miss (y :: p) (fun e => h (by simp [List.mem_cons.1 e])) (by simp)]
theorem rawL_ne {t : List UInt8} (h : t ≠ []) : rawL t ≠ [] := by
  rcases first_place 10 t with h1 | ⟨p, r, rfl, h1⟩
  · rw [rawL_miss t h1 h]; simp
  · rw [rawL_hit p r h1]; simp
theorem rawL_flat : ∀ (n : Nat) (t : List UInt8), t.length ≤ n → (rawL t).flatten = t
  | 0, t, h => by rw [List.length_eq_zero_iff.1 (by omega : t.length = 0)]; rfl
  | n + 1, t, h => by
    rcases first_place 10 t with h1 | ⟨p, r, rfl, h1⟩
    · by_cases h0 : t = []
      · rw [h0]; rfl
      · rw [rawL_miss t h1 h0]; simp
    · rw [rawL_hit p r h1, List.flatten_cons, rawL_flat n r (by simp at h; omega)]; simp
/-- The line without the byte 10 at its end. -/
def trimL (p : List UInt8) : List UInt8 := if p.getLast? = some 10 then p.dropLast else p
theorem raw_lines : ∀ (n : Nat) (t : List UInt8), t.length ≤ n → linesL t = (rawL t).map trimL
  | 0, t, h => by rw [List.length_eq_zero_iff.1 (by omega : t.length = 0)]; rfl
  | n + 1, t, h => by
    rcases first_place 10 t with h1 | ⟨p, r, rfl, h1⟩
    · by_cases h0 : t = []
      · rw [h0]; rfl
      · rw [rawL_miss t h1 h0, linesL_miss t h1 h0]
        have : trimL t = t := by
          unfold trimL
          rw [if_neg]
          intro e
          exact h1 (List.mem_of_mem_getLast? (by rw [e]; rfl))
        simp [this]
    · rw [rawL_hit p r h1, linesL_hit p r h1, List.map_cons, raw_lines n r (by simp at h; omega)]
      have : trimL (p ++ [10]) = p := by unfold trimL; rw [if_pos (by simp)]; simp
      rw [this]
theorem trim_suffix (p : List UInt8) : Go.Lib.trimSuffix p [10] = trimL p := by
  unfold Go.Lib.trimSuffix Go.Lib.hasSuffix trimL
  rcases List.eq_nil_or_concat p with rfl | ⟨q, c, rfl⟩
  · rfl
  · rw [List.concat_eq_append]
    by_cases hc : c = 10
    · subst hc
      rw [if_pos (by simp [List.isSuffixOf, List.isPrefixOf]), if_pos (by simp)]
      simp
    · have h1 : ((10 : UInt8) == c) = false := by rw [beq_eq_false_iff_ne]; exact fun e => hc e.symm
      rw [if_neg (by simp [List.isSuffixOf, List.isPrefixOf, h1]), if_neg (by simpa using hc)]
/-- What is left behind so many lines: its first line, and where that ends. -/
theorem raw_rest (t : List UInt8) {q : Nat} (h : q < (rawL t).length) : ((rawL t).drop q).flatten = (rawL t).getD q [] ++ ((rawL t).drop (q + 1)).flatten := by
  rw [List.drop_eq_getElem_cons h, List.flatten_cons, List.getD_eq_getElem?_getD, List.getElem?_eq_getElem h]; rfl
theorem raw_again : ∀ (n : Nat) (t : List UInt8) (q : Nat), t.length ≤ n → rawL ((rawL t).drop q).flatten = (rawL t).drop q
  | n, t, 0, _ => by rw [List.drop_zero, rawL_flat t.length t (Nat.le_refl _)]
  | 0, t, q + 1, h => by rw [List.length_eq_zero_iff.1 (by omega : t.length = 0)]; rfl
  | n + 1, t, q + 1, h => by
    rcases first_place 10 t with h1 | ⟨p, r, rfl, h1⟩
    · by_cases h0 : t = []
      · rw [h0]; rfl
      · rw [rawL_miss t h1 h0]; simp [rawL]
    · rw [rawL_hit p r h1, List.drop_succ_cons, raw_again n r q (by simp at h; omega)]
/-- The next line of what is left: it ends with the byte 10, or nothing stands behind it. -/
theorem raw_next (t : List UInt8) {q : Nat} (h : q < (rawL t).length) : ∃ p, (10 : UInt8) ∉ p ∧ (((rawL t).getD q [] = p ++ [10] ∧ ((rawL t).drop q).flatten = p ++ 10 :: ((rawL t).drop (q + 1)).flatten) ∨ (p ≠ [] ∧ (rawL t).getD q [] = p ∧ ((rawL t).drop q).flatten = p ∧ ((rawL t).drop (q + 1)).flatten = [])) := by
  have ha := raw_again t.length t q (Nat.le_refl _)
  have hr := raw_rest t h
  obtain ⟨u, hu⟩ : ∃ u, u = ((rawL t).drop q).flatten := ⟨_, rfl⟩
  have hd : (rawL t).drop q ≠ [] := by intro e; have := List.drop_eq_nil_iff.1 e; omega
  rw [← hu] at ha hr ⊢
  have hg : (rawL t).getD q [] = (rawL u).getD 0 [] := by rw [ha, List.getD_eq_getElem?_getD, List.getD_eq_getElem?_getD, List.getElem?_drop]; rfl
  have hdd : (rawL t).drop (q + 1) = (rawL u).drop 1 := by rw [ha, List.drop_drop]
  rcases first_place 10 u with h1 | ⟨p, r, rfl, h1⟩
  · have hne : u ≠ [] := by
      rintro rfl
      rw [← ha] at hd
      exact hd rfl
    have hru := rawL_miss u h1 hne
    refine ⟨u, h1, .inr ⟨hne, ?_, rfl, ?_⟩⟩
    · rw [hg, hru]; rfl
    · rw [hdd, hru]; rfl
  · have hru := rawL_hit p r h1
    refine ⟨p, h1, .inl ⟨?_, ?_⟩⟩
    · rw [hg, hru]; rfl
    · rw [hdd, hru]
      show p ++ 10 :: r = p ++ 10 :: (rawL r).flatten
      rw [rawL_flat r.length r (Nat.le_refl _)]
end Pr
