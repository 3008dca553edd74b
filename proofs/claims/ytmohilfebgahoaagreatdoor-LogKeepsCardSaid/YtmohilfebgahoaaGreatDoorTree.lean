/- Walks: level by level (chapter 3): what is wrong. -/
import Derived.Test.YtmohilfebgahoaaGreatDoorSound
import Derived.Test.YtmohilfebgahoaaGreatDoorMem
import Derived.Test.YtmohilfebgahoaaGreatDoorShelf
import Derived.Outline
import Derived.StillTailTactics
namespace Go.Proofs.YtmohilfebgahoaaGreatDoor
open Go.RowKit

/-- What is wrong with numbers, and so many levels. -/
def treeErr (l : List Int) (levels bound : Int) : Int :=
  if 32 < l.length then 4 else if levels < 0 ∨ 5 < levels then 1 else if l.length % 2 ^ levels.toNat ≠ 0 then 3 else if Ph.allIn l bound = true then 0 else 1
theorem treeErr_zero {l : List Int} {levels bound : Int} : treeErr l levels bound = 0 ↔ l.length ≤ 32 ∧ 0 ≤ levels ∧ levels ≤ 5 ∧ l.length % 2 ^ levels.toNat = 0 ∧ Ph.allIn l bound = true := by
  unfold treeErr
  by_cases h1 : 32 < l.length
  · rw [if_pos h1]; constructor
    · intro h; omega
    · intro h; omega
  · rw [if_neg h1]
    by_cases h2 : levels < 0 ∨ 5 < levels
    · rw [if_pos h2]; constructor
      · intro h; omega
      · intro h; omega
    · rw [if_neg h2]
      by_cases h3 : l.length % 2 ^ levels.toNat ≠ 0
      · rw [if_pos h3]; constructor
        · intro h; omega
        · intro h; exact absurd h.2.2.2.1 h3
      · rw [if_neg h3]
        by_cases h4 : Ph.allIn l bound = true
        · rw [if_pos h4]; constructor
          · intro _; exact ⟨by omega, by omega, by omega, by omega, h4⟩
          · intro _; rfl
        · rw [if_neg h4]; constructor
          · intro h; omega
          · intro h; exact absurd h.2.2.2.2 h4
end Go.Proofs.YtmohilfebgahoaaGreatDoor
/- Walks: level by level, back (chapter 3). -/
namespace Go.Proofs.YtmohilfebgahoaaGreatDoor
open Go.RowKit

theorem clone_any (A : Option Addr) (n c : Nat) (l : List Int) (w : World) (B : Nat) (h : RdI w B A n l) (hn : n ≤ 1000000) :
    Calls Tryz.prog 26 #[.slice A n c] w fun e w' => ∃ A' c', e = .returned (.slice A' n c') ∧ w'.ownsRow w.heap.size 3 1 (.slice A' n c') n (ivals l) ∧ Below w.heap.size w w' := by
  have hl := h.len
  cases A with
  | none =>
    have hn0 : n = 0 := by
      rcases Nat.eq_zero_or_pos n with h0 | h0
      · exact h0
      · obtain ⟨b, off, hA, _⟩ := h.at_ h0; cases hA
    subst hn0
    have hl0 : l = [] := List.length_eq_zero_iff.1 hl
    subst hl0
    refine (Tryz.slices_Clone_int_nil 0 c w).mono ?_
    rintro e w' ⟨rfl, rfl⟩
    exact ⟨none, 0, rfl, own_nil _ _ _, Below.refl _ _⟩
  | some ad =>
    rcases Nat.eq_zero_or_pos n with h0 | h0
    · subst h0
      have hl0 : l = [] := List.length_eq_zero_iff.1 hl
      subst hl0
      refine (Tryz.slices_Clone_int_zero ad c w).mono ?_
      rintro e w' ⟨v, rfl, ho, _, hb⟩
      obtain ⟨A', c', rfl⟩ := own_slice ho
      exact ⟨A', c', rfl, ho, hb⟩
    · obtain ⟨b, off, hA, hb, hcell⟩ := h.2 h0
      have hA2 : ad = ⟨b, off, none⟩ := by injection hA
      subst hA2
      refine (Tryz.slices_Clone_int b off n c l w (by omega) (by omega) (fun j hj => by rw [hcell j (by omega), ivals_get hj])).mono ?_
      rintro e w' ⟨v, rfl, ho, _, hb⟩
      obtain ⟨A', c', rfl⟩ := own_slice ho
      rw [List.take_of_length_le (by omega)] at ho
      exact ⟨A', c', rfl, ho, hb⟩
theorem merge_snoc : ∀ (s d : List Int) (x y : Int), s.length = d.length → Ph.merge (s ++ [x]) (d ++ [y]) = Ph.merge s d ++ [x + (y + 1) / 2, x + (y + 1) / 2 - y]
  | [], [], x, y, _ => rfl
  | a :: s, b :: d, x, y, h => by
    simp only [List.cons_append, Ph.merge, merge_snoc s d x y (by simpa using h)]
  | [], _ :: _, _, _, h => by simp at h
  | _ :: _, [], _, _, h => by simp at h
theorem merge_take (s d : List Int) (k : Nat) (h1 : k < s.length) (h2 : k < d.length) :
    Ph.merge (s.take (k + 1)) (d.take (k + 1)) = Ph.merge (s.take k) (d.take k) ++ [s.getD k 0 + (d.getD k 0 + 1) / 2, s.getD k 0 + (d.getD k 0 + 1) / 2 - d.getD k 0] := by
  rw [Ph.take_snoc s k h1, Ph.take_snoc d k h2, merge_snoc _ _ _ _ (by rw [List.length_take, List.length_take]; omega)]
/-- One level more. -/
theorem treeI_step (m s : List Int) (t p : Nat) (hp : 2 * p ≤ m.length) (hs : Ph.treeI t (m.take p) = some s) :
    Ph.treeI (t + 1) (m.take (2 * p)) = if Ph.allIn (Ph.merge s ((m.drop p).take p)) 4000 = true then some (Ph.merge s ((m.drop p).take p)) else none := by
  have hl : (m.take (2 * p)).length / 2 = p := by rw [List.length_take]; omega
  have h1 : (m.take (2 * p)).take p = m.take p := by rw [List.take_take, Nat.min_eq_left (by omega)]
  have h2 : (m.take (2 * p)).drop p = (m.drop p).take p := by rw [List.drop_take]; congr 1; omega
  unfold Ph.treeI
  rw [hl, h1, hs, h2]
/-- One level that fails: all fails. -/
theorem treeI_none : ∀ (v t : Nat) (m : List Int) (p : Nat), 2 ^ v * p = m.length → Ph.treeI t (m.take p) = none → Ph.treeI (v + t) m = none
  | 0, t, m, p, h, hn => by
    rw [List.take_of_length_le (by omega)] at hn
    rw [Nat.zero_add]; exact hn
  | v + 1, t, m, p, h, hn => by
    have h2 : m.length / 2 = 2 ^ v * p := by rw [← h, Nat.pow_succ]; rw [Nat.mul_comm (2 ^ v) 2, Nat.mul_assoc]; omega
    have h3 : (m.take (m.length / 2)).length = 2 ^ v * p := by rw [List.length_take, h2]; rw [Nat.min_eq_left]; rw [← h, Nat.pow_succ, Nat.mul_comm (2 ^ v) 2, Nat.mul_assoc]; omega
    have hle : p ≤ m.length / 2 := by rw [h2]; exact Nat.le_mul_of_pos_left _ (Nat.two_pow_pos v)
    have ih := treeI_none v t (m.take (m.length / 2)) p h3.symm (by rw [List.take_take, Nat.min_eq_left hle]; exact hn)
    rw [show v + 1 + t = (v + t) + 1 by omega]
    unfold Ph.treeI
    rw [ih]
theorem half_pow {n v t u : Nat} (hv : t + (u + 1) = v) (h : n % 2 ^ v = 0) : n / 2 ^ u = 2 * (n / 2 ^ (u + 1)) := by
  have h1 : 2 ^ (u + 1) ∣ n := Nat.dvd_trans (Nat.pow_dvd_pow 2 (by omega)) (Nat.dvd_of_mod_eq_zero h)
  obtain ⟨k, rfl⟩ := h1
  rw [Nat.mul_div_cancel_left _ (Nat.two_pow_pos _), Nat.pow_succ, Nat.mul_assoc, Nat.mul_div_cancel_left _ (Nat.two_pow_pos _)]
theorem pow_part {n v t u : Nat} (hv : t + (u + 1) = v) (h : n % 2 ^ v = 0) : (n / 2 ^ (u + 1)) % 2 ^ t = 0 := by
  obtain ⟨k, rfl⟩ := Nat.dvd_of_mod_eq_zero h
  have e : 2 ^ v = 2 ^ (u + 1) * 2 ^ t := by rw [← Nat.pow_add]; congr 1; omega
  rw [e, Nat.mul_assoc, Nat.mul_div_cancel_left _ (Nat.two_pow_pos _), Nat.mul_mod_right]
/-- Back is told, or that there is none. -/
def ToldTree (T : Nat) (o : Option (List Int)) (n : Nat) (w : World) (e : Ending) (w' : World) : Prop :=
  match o with
  | some l => ∃ A c, e = .returned (.tuple #[.slice A n c, .nilIface]) ∧ w'.ownsRow w.heap.size T 1 (.slice A n c) n (ivals l) ∧ Below w.heap.size w w'
  | none => e = .returned (.tuple #[.slice none 0 0, errV 1]) ∧ Below w.heap.size w w'
end Go.Proofs.YtmohilfebgahoaaGreatDoor
