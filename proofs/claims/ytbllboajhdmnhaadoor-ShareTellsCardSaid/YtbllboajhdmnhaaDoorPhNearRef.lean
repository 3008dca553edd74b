/- Plain law: the same pulses by choosing again and again who has the greatest rest (chapter 7, as the reference goes). -/
import Derived.Test.YtbllboajhdmnhaaDoorPhLog
namespace Ph
/-- Of those that have none yet, the first of the greatest rest. -/
def sel (r : Nat → Int) (S : List Nat) : Nat → Int
  | 0 => -1
  | i + 1 => if i ∉ S ∧ (sel r S i < 0 ∨ r (sel r S i).toNat < r i) then i else sel r S i
theorem sel_bd (r : Nat → Int) (S : List Nat) : ∀ n, -1 ≤ sel r S n ∧ sel r S n < n
  | 0 => by simp [sel]
  | n + 1 => by
    have := sel_bd r S n
    unfold sel; split <;> omega
theorem sel_none {r : Nat → Int} {S : List Nat} : ∀ {n}, sel r S n < 0 → ∀ i, i < n → i ∈ S
  | 0, _, i, hi => by omega
  | n + 1, h, i, hi => by
    unfold sel at h
    split at h
    · omega
    · rename_i hc
      rcases Nat.lt_or_ge i n with h1 | h1
      · exact sel_none h i h1
      · have e : i = n := by omega
        subst e
        by_cases hm : i ∈ S
        · exact hm
        · exact absurd ⟨hm, .inl h⟩ hc
theorem sel_some {r : Nat → Int} {S : List Nat} : ∀ {n}, 0 ≤ sel r S n → (sel r S n).toNat ∉ S ∧ ∀ j, j < n → j ∉ S → j = (sel r S n).toNat ∨ ahd r (sel r S n).toNat j
  | 0, h => by simp [sel] at h
  | n + 1, h => by
    have hb := sel_bd r S n
    unfold sel at h ⊢
    split
    · rename_i hc
      refine ⟨by simpa using hc.1, fun j hj hjS => ?_⟩
      rw [Int.toNat_natCast]
      rcases Nat.lt_or_ge j n with h1 | h1
      · right
        rcases Int.lt_or_le (sel r S n) 0 with hn | hn
        · exact absurd (sel_none hn j h1) hjS
        · have h2 := (sel_some hn).2 j h1 hjS
          have h3 : r (sel r S n).toNat < r n := by
            rcases hc.2 with h4 | h4
            · omega
            · exact h4
          left
          rcases h2 with rfl | h2
          · exact h3
          · unfold ahd at h2; omega
      · left; omega
    · rename_i hc
      rw [if_neg hc] at h
      have ih := sel_some h
      refine ⟨ih.1, fun j hj hjS => ?_⟩
      rcases Nat.lt_or_ge j n with h1 | h1
      · exact ih.2 j h1 hjS
      · have e : j = n := by omega
        subst e
        right
        have h4 : ¬ (sel r S j < 0 ∨ r (sel r S j).toNat < r j) := fun h5 => hc ⟨hjS, h5⟩
        unfold ahd
        have := hb.2
        rcases Int.lt_trichotomy (r j) (r (sel r S j).toNat) with h6 | h6 | h6
        · left; exact h6
        · right; exact ⟨h6.symm, by omega⟩
        · exact absurd (.inr h6) h4
theorem ord_get_not (r : Nat → Int) (n t : Nat) (h : t < (ord r n).length) : (ord r n)[t] ∉ (ord r n).take t := by
  intro hm
  have hd := ord_nodup r n
  rw [← List.take_append_drop t (ord r n), List.nodup_append] at hd
  have h2 : (ord r n)[t] ∈ (ord r n).drop t := by
    rw [List.drop_eq_getElem_cons h]; exact List.mem_cons_self
  exact hd.2.2 _ hm _ h2 rfl
/-- The one that is chosen next is the next of the order. -/
theorem sel_next (r : Nat → Int) (n t : Nat) (h : t < n) : sel r ((ord r n).take t) n = ((ord r n)[t]'(by rw [ord_length]; exact h) : Nat) := by
  have hl : t < (ord r n).length := by rw [ord_length]; exact h
  have hx := ord_get_not r n t hl
  have hxn : (ord r n)[t] < n := (ord_mem r n _).1 (List.getElem_mem _)
  have h0 : 0 ≤ sel r ((ord r n).take t) n := by
    rcases Int.lt_or_le (sel r ((ord r n).take t) n) 0 with h1 | h1
    · exact absurd (sel_none h1 _ hxn) hx
    · exact h1
  have hs := sel_some h0
  have hb := sel_bd r ((ord r n).take t) n
  have h3 := hs.2 _ hxn hx
  rcases h3 with h3 | h3
  · omega
  · -- the one chosen is not among the first, so the t-th comes ahead of it or is it
    exfalso
    have hm : (sel r ((ord r n).take t) n).toNat ∈ (ord r n).drop t := by
      have h4 := (ord_mem r n (sel r ((ord r n).take t) n).toNat).2 (by omega)
      generalize (sel r ((ord r n).take t) n).toNat = x at *
      rw [← List.take_append_drop t (ord r n), List.mem_append] at h4
      rcases h4 with h4 | h4
      · exact absurd h4 hs.1
      · exact h4
    rw [List.drop_eq_getElem_cons hl] at hm
    have hp := ord_pairwise r n
    rw [← List.take_append_drop t (ord r n), List.pairwise_append, List.drop_eq_getElem_cons hl, List.pairwise_cons] at hp
    rcases List.mem_cons.1 hm with h5 | h5
    · unfold ahd at h3; rw [h5] at h3; omega
    · have h6 := hp.2.1.1 _ h5
      unfold ahd at h3 h6; omega
/-- So many have been chosen: one more for the next one. -/
theorem one_take_succ (r : Nat → Int) (n t i : Nat) (h : t < n) :
    one ((ord r n).take (t + 1)) i = if i = (ord r n)[t]'(by rw [ord_length]; exact h) then 1 else one ((ord r n).take t) i := by
  have hl : t < (ord r n).length := by rw [ord_length]; exact h
  have key : i ∈ (ord r n).take (t + 1) ↔ i ∈ (ord r n).take t ∨ i = (ord r n)[t] := by
    rw [List.take_succ_eq_append_getElem hl, List.mem_append, List.mem_singleton]
  unfold one
  by_cases he : i = (ord r n)[t]
  · rw [if_pos he, if_pos (key.2 (.inr he))]
  · rw [if_neg he]
    by_cases hm : i ∈ (ord r n).take t
    · rw [if_pos hm, if_pos (key.2 (.inl hm))]
    · rw [if_neg hm, if_neg (fun h5 => by rcases key.1 h5 with h6 | h6 <;> contradiction)]
/-! ### Counting by the other way: of one number more, whatever that is. -/
/-- So many of the parts that are added twice. -/
def belowP (n j : Nat) : Nat → Nat
  | 0 => 0
  | t + 1 => belowP n j t + cnt n (j - (t + 1))
theorem belowP_eq (n : Nat) : ∀ (t j : Nat), t ≤ j → belowP n j t + below n (j - t) = below n j
  | 0, j, _ => by simp [belowP]
  | t + 1, j, h => by
    have ih := belowP_eq n t j (by omega)
    have e : j - t = (j - (t + 1)) + 1 := by omega
    have e2 : below n (j - (t + 1) + 1) = below n (j - (t + 1)) + cnt n (j - (t + 1)) := rfl
    rw [e, e2] at ih
    simp only [belowP]; omega
theorem cnt_next (n j : Nat) : cnt (n + 1) j = cnt n j + 2 * belowP n j j := by
  have h := belowP_eq n j j (Nat.le_refl _)
  rw [Nat.sub_self] at h
  rw [cnt_ref, ← h]; simp [below]
end Ph
