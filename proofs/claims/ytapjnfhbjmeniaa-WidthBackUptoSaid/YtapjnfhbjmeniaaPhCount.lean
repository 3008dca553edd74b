/- Plain law: how many rows there are; each has its number (chapters 5, 6). No program in sight. -/
import Derived.Test.YtapjnfhbjmeniaaPhLap
namespace Ph

/-- How many rows of n numbers and k pulses there are. -/
def cntRow (f : Nat → Nat) : Nat → Nat
  | 0 => 1
  | k + 1 => f (k + 1) + cntRow f k + f k
def cnt : Nat → Nat → Nat
  | 0 => fun k => if k = 0 then 1 else 0
  | n + 1 => cntRow (cnt n)
theorem cnt_zero (n : Nat) : cnt n 0 = 1 := by cases n <;> rfl
theorem cnt_none (k : Nat) : cnt 0 (k + 1) = 0 := by simp [cnt]
theorem cnt_succ (n k : Nat) : cnt (n + 1) (k + 1) = cnt n (k + 1) + cnt (n + 1) k + cnt n k := rfl
theorem cnt_mono_n (n k : Nat) : cnt n k ≤ cnt (n + 1) k := by
  cases k with
  | zero => rw [cnt_zero, cnt_zero]; omega
  | succ k => rw [cnt_succ]; omega
theorem cnt_mono_k (n k : Nat) : cnt (n + 1) k ≤ cnt (n + 1) (k + 1) := by rw [cnt_succ]; omega
theorem cnt_le : ∀ n k : Nat, n ≤ 6 → k ≤ 8 → cnt n k ≤ 100000 := by
  have h : ∀ n : Fin 7, ∀ k : Fin 9, cnt n.1 k.1 ≤ 100000 := by decide +kernel
  intro n k hn hk
  exact h ⟨n, by omega⟩ ⟨k, by omega⟩
theorem cnt_pos (n k : Nat) : 0 < cnt (n + 1) k := by
  induction k with
  | zero => rw [cnt_zero]; omega
  | succ k ih => rw [cnt_succ]; omega

/-- How many numbers of bits: the least b with 2^b not below m. -/
def bitsOf (m : Nat) : Nat := if m ≤ 1 then 0 else Nat.log2 (m - 1) + 1
theorem turns : ∀ n k : Nat, n ≤ 6 → k ≤ 6 → k * cnt n k = n * cnt k n := by
  have h : ∀ n : Fin 7, ∀ k : Fin 7, k.1 * cnt n.1 k.1 = n.1 * cnt k.1 n.1 := by decide +kernel
  intro n k hn hk
  exact h ⟨n, by omega⟩ ⟨k, by omega⟩
theorem bits_enough : ∀ n k : Nat, n ≤ 6 → k ≤ 8 → bitsOf (cnt n k) ≤ 20 ∧ cnt n k ≤ 2 ^ bitsOf (cnt n k) ∧ (bitsOf (cnt n k) = 0 ∨ 2 ^ bitsOf (cnt n k) / 2 < cnt n k) := by
  have h : ∀ n : Fin 7, ∀ k : Fin 9, bitsOf (cnt n.1 k.1) ≤ 20 ∧ cnt n.1 k.1 ≤ 2 ^ bitsOf (cnt n.1 k.1) ∧ (bitsOf (cnt n.1 k.1) = 0 ∨ 2 ^ bitsOf (cnt n.1 k.1) / 2 < cnt n.1 k.1) := by decide +kernel
  intro n k hn hk
  exact h ⟨n, by omega⟩ ⟨k, by omega⟩

/-! ### How many rows have a first number below x: the sum over y from -k on. -/
/-- far as a Nat -/
def farN (n : Int) : Nat := n.natAbs
theorem farN_far (n : Int) : (farN n : Int) = far n := by unfold farN; rw [far_eq]; split <;> omega

/-- The rows of n + 1 numbers and k pulses of which the first is one of the j numbers from -k on. -/
def upto (n k : Nat) : Nat → Nat
  | 0 => 0
  | j + 1 => upto n k j + cnt n (k - farN ((j : Int) - k))
theorem upto_mono (n k : Nat) : ∀ i j : Nat, i ≤ j → upto n k i ≤ upto n k j := by
  intro i j h
  induction j with
  | zero => have : i = 0 := by omega
            rw [this]; omega
  | succ j ih =>
    rcases Nat.lt_or_ge i (j + 1) with h1 | h1
    · have := ih (by omega); simp only [upto]; omega
    · have : i = j + 1 := by omega
      rw [this]; omega
/-- Up to 0: the sum of those of n numbers and fewer pulses. -/
def below (n : Nat) : Nat → Nat
  | 0 => 0
  | j + 1 => below n j + cnt n j
theorem upto_low (n k : Nat) : ∀ j, j ≤ k + 1 → upto n k j = below n j
  | 0, _ => rfl
  | j + 1, h => by
    simp only [upto, below, upto_low n k j (by omega)]
    have : k - farN ((j : Int) - k) = j := by unfold farN; omega
    rw [this]
theorem upto_high (n k : Nat) : ∀ j, j ≤ k → upto n k (k + 1 + j) + below n (k - j) = below n (k + 1) + below n k
  | 0, _ => by rw [Nat.add_zero, upto_low n k (k + 1) (by omega), Nat.sub_zero]
  | j + 1, h => by
    have ih := upto_high n k j (by omega)
    rw [← Nat.add_assoc]
    simp only [upto]
    have e : k - farN (((k + 1 + j : Nat) : Int) - k) = k - (j + 1) := by unfold farN; omega
    rw [e]
    have e2 : k - j = (k - (j + 1)) + 1 := by omega
    have e3 : below n (k - (j + 1) + 1) = below n (k - (j + 1)) + cnt n (k - (j + 1)) := rfl
    rw [e2, e3] at ih
    omega
theorem cnt_below (n : Nat) : ∀ k, cnt (n + 1) k = below n (k + 1) + below n k
  | 0 => by simp [below, cnt_zero]
  | k + 1 => by rw [cnt_succ, cnt_below n k]; simp only [below]; omega
/-- All together. -/
theorem upto_all (n k : Nat) : upto n k (2 * k + 1) = cnt (n + 1) k := by
  have h := upto_high n k k (by omega)
  rw [Nat.sub_self, show k + 1 + k = 2 * k + 1 by omega] at h
  rw [cnt_below]; simpa [below] using h
theorem upto_last (n k : Nat) : upto n k (2 * k) + 1 = cnt (n + 1) k := by
  rw [← upto_all]
  simp only [upto]
  have e : k - farN (((2 * k : Nat) : Int) - k) = 0 := by unfold farN; omega
  rw [e, cnt_zero]
/-- What the document's other way counts. -/
theorem cnt_ref (n k : Nat) : cnt (n + 1) k = cnt n k + 2 * below n k := by rw [cnt_below]; simp only [below]; omega

/-! ### Ranks. -/
def loudN (v : List Int) : Nat := (loud v).toNat
theorem loudN_cons (x : Int) (v : List Int) : loudN (x :: v) = farN x + loudN v := by
  unfold loudN; simp only [loud]
  have := loud_nonneg v; have := farN_far x; have := far_nonneg x; omega
theorem loudN_int (v : List Int) : (loudN v : Int) = loud v := by unfold loudN; have := loud_nonneg v; omega
def rank : List Int → Nat
  | [] => 0
  | x :: v => upto v.length (farN x + loudN v) (x + (farN x + loudN v : Nat)).toNat + rank v
/-- Of how many rows the first number is below the one that a rank finds: the place that it finds. -/
def find (n k : Nat) : Nat → Nat → Nat → Nat
  | 0, j, _ => j
  | fuel + 1, j, r => if r < upto n k (j + 1) then j else find n k fuel (j + 1) r
theorem find_spec (n k : Nat) : ∀ (fuel j r : Nat), upto n k j ≤ r → r < upto n k (j + fuel) → upto n k (find n k fuel j r) ≤ r ∧ r < upto n k (find n k fuel j r + 1) ∧ j ≤ find n k fuel j r ∧ find n k fuel j r < j + fuel
  | 0, j, r, h1, h2 => by rw [Nat.add_zero] at h2; omega
  | fuel + 1, j, r, h1, h2 => by
    unfold find
    split
    · rename_i h; exact ⟨h1, h, by omega, by omega⟩
    · rename_i h
      have := find_spec n k fuel (j + 1) r (by omega) (by rw [show j + 1 + fuel = j + (fuel + 1) by omega]; exact h2)
      omega
theorem find_unique {n k r i j : Nat} (h1 : upto n k i ≤ r) (h2 : r < upto n k (i + 1)) (h3 : upto n k j ≤ r) (h4 : r < upto n k (j + 1)) : i = j := by
  rcases Nat.lt_trichotomy i j with h | h | h
  · have := upto_mono n k (i + 1) j (by omega); omega
  · exact h
  · have := upto_mono n k (j + 1) i (by omega); omega
/-- The row of a rank. -/
def rowOf : Nat → Nat → Nat → List Int
  | 0, _, _ => []
  | n + 1, k, r =>
    let j := find n k (2 * k + 1) 0 r
    ((j : Int) - k) :: rowOf n (k - farN ((j : Int) - k)) (r - upto n k j)
theorem rank_lt : ∀ v : List Int, rank v < cnt v.length (loudN v)
  | [] => by show 0 < cnt 0 (loudN []); rw [show loudN [] = 0 from rfl, cnt_zero]; omega
  | x :: v => by
    have ih := rank_lt v
    rw [loudN_cons, List.length_cons, ← upto_all]
    simp only [rank]
    have hx : (x + ((farN x + loudN v : Nat) : Int)).toNat + 1 ≤ 2 * (farN x + loudN v) + 1 := by unfold farN; omega
    have hm := upto_mono v.length (farN x + loudN v) _ _ hx
    simp only [upto] at hm
    have e : farN x + loudN v - farN (((x + ((farN x + loudN v : Nat) : Int)).toNat : Int) - ((farN x + loudN v : Nat) : Int)) = loudN v := by unfold farN; omega
    rw [e] at hm
    simp only [upto]; omega
/-- A row is the one of its rank. -/
theorem rowOf_rank : ∀ v : List Int, rowOf v.length (loudN v) (rank v) = v
  | [] => rfl
  | x :: v => by
    have hlt := rank_lt v
    have ih := rowOf_rank v
    rw [loudN_cons, List.length_cons]
    simp only [rank]
    generalize hk : farN x + loudN v = k
    have hxk : (x + (k : Int)).toNat + 1 ≤ 2 * k + 1 := by unfold farN at hk; omega
    have hx0 : ((x + (k : Int)).toNat : Int) - k = x := by unfold farN at hk; omega
    have e : k - farN (((x + (k : Int)).toNat : Int) - k) = loudN v := by rw [hx0]; omega
    have h1 : upto v.length k (x + (k : Int)).toNat ≤ upto v.length k (x + (k : Int)).toNat + rank v := by omega
    have h2 : upto v.length k (x + (k : Int)).toNat + rank v < upto v.length k ((x + (k : Int)).toNat + 1) := by simp only [upto, e]; omega
    have h3 : upto v.length k (x + (k : Int)).toNat + rank v < upto v.length k (0 + (2 * k + 1)) := by
      have := upto_mono v.length k _ _ hxk; rw [Nat.zero_add]; omega
    have hf := find_spec v.length k (2 * k + 1) 0 _ (by simp [upto]) h3
    have hj := find_unique hf.1 hf.2.1 h1 h2
    simp only [rowOf, hj, hx0, Nat.add_sub_cancel_left]
    rw [hx0] at e
    rw [e, ih]
theorem rowOf_length : ∀ n k r : Nat, (rowOf n k r).length = n
  | 0, _, _ => rfl
  | n + 1, k, r => by simp only [rowOf, List.length_cons, rowOf_length n]
/-- A rank is that of its row. -/
theorem rank_rowOf : ∀ n k r : Nat, r < cnt n k → rank (rowOf n k r) = r ∧ loudN (rowOf n k r) = k
  | 0, 0, r, h => by rw [cnt_zero] at h; have : r = 0 := by omega
                     rw [this]; exact ⟨rfl, rfl⟩
  | 0, k + 1, r, h => by rw [cnt_none] at h; omega
  | n + 1, k, r, h => by
    rw [← upto_all] at h
    have hf := find_spec n k (2 * k + 1) 0 r (by simp [upto]) (by rw [Nat.zero_add]; exact h)
    simp only [rowOf]
    generalize find n k (2 * k + 1) 0 r = j at *
    have hr : r - upto n k j < cnt n (k - farN ((j : Int) - k)) := by have := hf.2.1; simp only [upto] at this; omega
    have ih := rank_rowOf n _ _ hr
    have hfj : farN ((j : Int) - k) ≤ k := by unfold farN; omega
    simp only [rank, rowOf_length, loudN_cons, ih.1, ih.2]
    rw [show farN ((j : Int) - k) + (k - farN ((j : Int) - k)) = k by omega]
    refine ⟨?_, by omega⟩
    rw [show ((j : Int) - k + (k : Int)).toNat = j by omega]; omega
theorem rank_inj {a b : List Int} (hl : a.length = b.length) (hk : loudN a = loudN b) (hr : rank a = rank b) : a = b := by
  rw [← rowOf_rank a, ← rowOf_rank b, hl, hk, hr]
/-- Of a lesser rank is who has the lesser number where two first differ. -/
theorem rank_order : ∀ (a b : List Int) (i : Nat), a.length = b.length → loudN a = loudN b → i < a.length → (∀ j, j < i → a.getD j 0 = b.getD j 0) → a.getD i 0 < b.getD i 0 → rank a < rank b
  | [], _, i, _, _, hi, _, _ => by simp at hi
  | x :: a, [], i, hl, _, _, _, _ => by simp at hl
  | x :: a, y :: b, 0, hl, hk, _, _, hlt => by
    rw [loudN_cons, loudN_cons] at hk
    have ha := rank_lt a
    have hl' : a.length = b.length := by simpa using hl
    have hlt' : x < y := by simpa using hlt
    simp only [rank]
    rw [← hk, ← hl']
    have e : farN x + loudN a - farN (((x + ((farN x + loudN a : Nat) : Int)).toNat : Int) - ((farN x + loudN a : Nat) : Int)) = loudN a := by unfold farN; omega
    have h1 : upto a.length (farN x + loudN a) ((x + ((farN x + loudN a : Nat) : Int)).toNat + 1) ≤ upto a.length (farN x + loudN a) (y + ((farN x + loudN a : Nat) : Int)).toNat := upto_mono _ _ _ _ (by unfold farN at *; omega)
    simp only [upto, e] at h1; omega
  | x :: a, y :: b, i + 1, hl, hk, hi, hj, hlt => by
    have h0 : x = y := by simpa using hj 0 (by omega)
    subst h0
    rw [loudN_cons, loudN_cons] at hk
    have ih := rank_order a b i (by simpa using hl) (by omega) (by simpa using hi) (fun j h => by simpa using hj (j + 1) (by omega)) (by simpa using hlt)
    have hl' : a.length = b.length := by simpa using hl
    have hk' : loudN a = loudN b := by omega
    simp only [rank, hl', hk']; omega
/-- The first rank: all pulses below 0 at the first number; the last: above. -/
theorem rowOf_first (n k : Nat) : (rowOf (n + 1) k 0).getD 0 0 = -k := by
  have hf := find_spec n k (2 * k + 1) 0 0 (by simp [upto]) (by rw [Nat.zero_add, upto_all]; exact cnt_pos n k)
  have h1 : (0 : Nat) < upto n k (0 + 1) := by
    simp only [upto]
    have : k - farN (((0 : Nat) : Int) - k) = 0 := by unfold farN; omega
    rw [this, cnt_zero]; omega
  have hj := find_unique (j := 0) hf.1 hf.2.1 (by simp [upto]) h1
  simp only [rowOf, hj]; simp
theorem rowOf_final (n k : Nat) : (rowOf (n + 1) k (cnt (n + 1) k - 1)).getD 0 0 = k := by
  have hp := cnt_pos n k
  have hl := upto_last n k
  have ha := upto_all n k
  have hf := find_spec n k (2 * k + 1) 0 (cnt (n + 1) k - 1) (by simp [upto]) (by rw [Nat.zero_add, ha]; omega)
  have hj := find_unique (j := 2 * k) hf.1 hf.2.1 (by omega) (by rw [ha]; omega)
  simp only [rowOf, hj]; simp; omega

/-! ### Pulses: what is wrong with them. -/
def pulsesErr (v : List Int) : Int := if 6 < v.length then 4 else if allIn v 8 = true then (if 8 < loud v then 4 else 0) else 1
theorem pulsesErr_zero {v : List Int} : pulsesErr v = 0 ↔ v.length ≤ 6 ∧ allIn v 8 = true ∧ loud v ≤ 8 := by
  unfold pulsesErr; split
  · simp; omega
  · split
    · split
      · simp_all
      · simp_all
    · simp_all
end Ph
