/- Plain law: who gets a pulse; tanks (chapters 14, 15). No program in sight. -/
import Derived.Test.YtbllboajhdmnhaaDoorPhWidth
namespace Ph
def wid (n k : Int) : Int := (bitsOf (cnt n.toNat k.toNat) : Nat)
def cost : List Int → List Int → Int
  | s :: sizes, p :: pulses => wid s p + cost sizes pulses
  | _, _ => 0
theorem wid_nonneg (n k : Int) : 0 ≤ wid n k := by unfold wid; omega
theorem wid_zero (n : Int) : wid n 0 = 0 := by unfold wid; rw [show (0 : Int).toNat = 0 from rfl, cnt_zero]; rfl
theorem cost_nonneg : ∀ s p, 0 ≤ cost s p
  | [], _ => by simp [cost]
  | _ :: _, [] => by simp [cost]
  | s :: sizes, p :: pulses => by have := cost_nonneg sizes pulses; have := wid_nonneg s p; simp only [cost]; omega
theorem cost_zeros : ∀ (s : List Int), cost s (List.replicate s.length 0) = 0
  | [] => rfl
  | x :: s => by rw [List.length_cons, List.replicate_succ]; simp only [cost, wid_zero, cost_zeros s]; rfl
theorem cost_set : ∀ (s p : List Int) (i : Nat) (x : Int), s.length = p.length → i < p.length → cost s (p.set i x) = cost s p - wid (s.getD i 0) (p.getD i 0) + wid (s.getD i 0) x
  | [], [], i, _, _, hi => by simp at hi
  | [], _ :: _, _, _, h, _ => by simp at h
  | _ :: _, [], _, _, h, _ => by simp at h
  | y :: s, z :: p, 0, x, h, hi => by simp [cost]; omega
  | y :: s, z :: p, i + 1, x, h, hi => by
    have := cost_set s p i x (by simpa using h) (by simpa using hi)
    simp only [List.set_cons_succ, cost, this]; simp; omega
theorem cost_take (s p : List Int) (k : Nat) (h1 : k < s.length) (h2 : k < p.length) : cost (s.take (k + 1)) (p.take (k + 1)) = cost (s.take k) (p.take k) + wid (s.getD k 0) (p.getD k 0) := by
  induction k generalizing s p with
  | zero =>
    cases s with
    | nil => simp at h1
    | cons a s => cases p with
      | nil => simp at h2
      | cons b p => simp [cost]
  | succ k ih =>
    cases s with
    | nil => simp at h1
    | cons a s => cases p with
      | nil => simp at h2
      | cons b p =>
        have := ih s p (by simpa using h1) (by simpa using h2)
        simp only [List.take_succ_cons, cost, this]; simp; omega
def costWith (s out : List Int) (i : Nat) : Int := cost s (bump out i 1)
theorem costWith_eq {s out : List Int} {i : Nat} (h : s.length = out.length) (hi : i < out.length) : costWith s out i = cost s out + (wid (s.getD i 0) (out.getD i 0 + 1) - wid (s.getD i 0) (out.getD i 0)) := by
  unfold costWith bump; rw [cost_set s out i _ h hi]; omega
/-- May one get one more? -/
def cand (s loud : List Int) (bits : Int) (out : List Int) (i : Nat) : Bool :=
  !decide (loud.getD i 0 = 0) && !decide (out.getD i 0 = 8) && decide (costWith s out i ≤ bits)
/-- Is the i-th more in need than the j-th? -/
def ahead (loud out : List Int) (i j : Nat) : Bool :=
  decide (loud.getD j 0 * (out.getD i 0 + 1) * (out.getD i 0 + 1) < loud.getD i 0 * (out.getD j 0 + 1) * (out.getD j 0 + 1))
def pick (s loud : List Int) (bits : Int) (out : List Int) : Nat → Int
  | 0 => -1
  | i + 1 =>
    if cand s loud bits out i = true then
      (if pick s loud bits out i < 0 then i else if ahead loud out i (pick s loud bits out i).toNat = true then i else pick s loud bits out i)
    else pick s loud bits out i
theorem pick_bd (s loud : List Int) (bits : Int) (out : List Int) : ∀ n, -1 ≤ pick s loud bits out n ∧ pick s loud bits out n < n
  | 0 => by simp [pick]
  | n + 1 => by
    have := pick_bd s loud bits out n
    unfold pick
    split
    · split
      · omega
      · split <;> omega
    · omega
theorem pick_none {s loud : List Int} {bits : Int} {out : List Int} : ∀ {n}, pick s loud bits out n < 0 → ∀ i, i < n → cand s loud bits out i = false
  | 0, _, i, hi => by omega
  | n + 1, h, i, hi => by
    unfold pick at h
    split at h
    · have hb := pick_bd s loud bits out n
      split at h
      · omega
      · split at h <;> omega
    · rename_i hc
      rcases Nat.lt_or_ge i n with h1 | h1
      · exact pick_none h i h1
      · have : i = n := by omega
        subst this; simpa using hc
theorem pick_cand {s loud : List Int} {bits : Int} {out : List Int} : ∀ {n}, 0 ≤ pick s loud bits out n → cand s loud bits out (pick s loud bits out n).toNat = true
  | 0, h => by simp [pick] at h
  | n + 1, h => by
    unfold pick at h ⊢
    split
    · rename_i hc
      rw [if_pos hc] at h
      split
      · simpa using hc
      · rename_i hp
        rw [if_neg hp] at h
        split
        · simpa using hc
        · exact pick_cand (by omega)
    · rename_i hc
      rw [if_neg hc] at h
      exact pick_cand h
def givenN (s loud : List Int) (bits : Int) : Nat → List Int → List Int
  | 0, out => out
  | m + 1, out => if pick s loud bits out s.length < 0 then out else givenN s loud bits m (bump out (pick s loud bits out s.length).toNat 1)
/-- How many more may be given at most. -/
def space (out : List Int) : Nat := (8 * out.length - total out).toNat
def given (s loud : List Int) (bits : Int) (out : List Int) : List Int := givenN s loud bits (space out + 1) out
def pulsesOk (out : List Int) : Prop := ∀ x ∈ out, 0 ≤ x ∧ x ≤ 8
theorem pulsesOk_getD {out : List Int} (h : pulsesOk out) (i : Nat) : 0 ≤ out.getD i 0 ∧ out.getD i 0 ≤ 8 := by
  rw [List.getD_eq_getElem?_getD]
  rcases Nat.lt_or_ge i out.length with hi | hi
  · rw [List.getElem?_eq_getElem hi]; exact h _ (List.getElem_mem hi)
  · rw [List.getElem?_eq_none hi]; simp
theorem pulsesOk_of {out : List Int} (h : ∀ i, i < out.length → 0 ≤ out.getD i 0 ∧ out.getD i 0 ≤ 8) : pulsesOk out := by
  intro x hx
  obtain ⟨i, hi, rfl⟩ := List.mem_iff_getElem.1 hx
  have := h i hi
  rw [List.getD_eq_getElem?_getD, List.getElem?_eq_getElem hi] at this
  exact this
theorem pulsesOk_zeros (n : Nat) : pulsesOk (List.replicate n 0) := fun x hx => by rw [List.eq_of_mem_replicate hx]; omega
theorem total_pulses_le {out : List Int} (h : pulsesOk out) : 0 ≤ total out ∧ total out ≤ 8 * out.length := by
  have h1 := total_nonneg (l := out) (fun x hx => (h x hx).1)
  have h2 := total_le (l := out) (m := 8) (fun x hx => (h x hx).2)
  omega
/-- One turn. -/
theorem turn_ok {s loud : List Int} {bits : Int} {out : List Int} (hl : out.length = s.length) (h : pulsesOk out) (hp : 0 ≤ pick s loud bits out s.length) :
    (bump out (pick s loud bits out s.length).toNat 1).length = s.length ∧ pulsesOk (bump out (pick s loud bits out s.length).toNat 1) ∧ space (bump out (pick s loud bits out s.length).toNat 1) + 1 = space out := by
  have hb := (pick_bd s loud bits out s.length).2
  have hc := pick_cand hp
  generalize hq : (pick s loud bits out s.length).toNat = q at *
  have hq2 : q < out.length := by omega
  have ht : total (bump out q 1) = total out + 1 := total_bump hq2
  have h8 : out.getD q 0 ≠ 8 := by simp only [cand, Bool.and_eq_true, Bool.not_eq_true', decide_eq_false_iff_not] at hc; exact hc.1.2
  have hok : pulsesOk (bump out q 1) := by
    apply pulsesOk_of
    intro i _
    rw [bump_getD _ _ _ _ hq2]
    have h1 := pulsesOk_getD h i
    have h2 := pulsesOk_getD h q
    split <;> omega
  refine ⟨by rw [bump_length, hl], hok, ?_⟩
  have h2 := total_pulses_le hok
  rw [ht, bump_length] at h2
  unfold space; rw [ht, bump_length]; omega
theorem givenN_enough {s loud : List Int} {bits : Int} : ∀ (m : Nat) (out : List Int), out.length = s.length → pulsesOk out → space out < m → givenN s loud bits m out = givenN s loud bits (space out + 1) out
  | 0, _, _, _, h => by omega
  | m + 1, out, hl, hk, h => by
    unfold givenN
    split
    · rfl
    · rename_i hp
      have ht := turn_ok (loud := loud) (bits := bits) hl hk (by omega)
      rw [givenN_enough m _ ht.1 ht.2.1 (by omega), ht.2.2]
theorem given_done {s loud : List Int} {bits : Int} {out : List Int} (h : pick s loud bits out s.length < 0) : given s loud bits out = out := by
  unfold given givenN; rw [if_pos h]
theorem given_turn {s loud : List Int} {bits : Int} {out : List Int} (hl : out.length = s.length) (hk : pulsesOk out) (h : 0 ≤ pick s loud bits out s.length) :
    given s loud bits out = given s loud bits (bump out (pick s loud bits out s.length).toNat 1) := by
  have ht := turn_ok (loud := loud) (bits := bits) hl hk h
  unfold given
  rw [givenN, if_neg (by omega), ht.2.2]
/-- What every turn keeps: a proof by turns. -/
theorem given_ind {s loud : List Int} {bits : Int} (I : List Int → Prop)
    (step : ∀ out, out.length = s.length → pulsesOk out → I out → 0 ≤ pick s loud bits out s.length → I (bump out (pick s loud bits out s.length).toNat 1)) :
    ∀ (g : Nat) (out : List Int), space out = g → out.length = s.length → pulsesOk out → I out →
      (given s loud bits out).length = s.length ∧ pulsesOk (given s loud bits out) ∧ I (given s loud bits out) ∧ pick s loud bits (given s loud bits out) s.length < 0 := by
  intro g
  induction g using Nat.strongRecOn with
  | ind g ih =>
    intro out hg hl hk hI
    rcases Int.lt_or_le (pick s loud bits out s.length) 0 with h | h
    · rw [given_done h]; exact ⟨hl, hk, hI, h⟩
    · have ht := turn_ok (loud := loud) (bits := bits) hl hk h
      rw [given_turn hl hk h]
      exact ih _ (by omega) _ rfl ht.1 ht.2.1 (step out hl hk hI h)
def shareOf (s loud : List Int) (bits : Int) : List Int := given s loud bits (List.replicate s.length 0)
/-- NEVER MORE THAN THERE ARE, AND NONE MORE WOULD DO. -/
theorem share_ok {s loud : List Int} {bits : Int} (hb : 0 ≤ bits) :
    (shareOf s loud bits).length = s.length ∧ pulsesOk (shareOf s loud bits) ∧ cost s (shareOf s loud bits) ≤ bits ∧ (∀ i, i < s.length → loud.getD i 0 = 0 → (shareOf s loud bits).getD i 0 = 0) ∧
      ∀ i, i < s.length → loud.getD i 0 ≠ 0 → (shareOf s loud bits).getD i 0 ≠ 8 → bits < costWith s (shareOf s loud bits) i := by
  have h := given_ind (s := s) (loud := loud) (bits := bits) (fun out => cost s out ≤ bits ∧ ∀ i, i < s.length → loud.getD i 0 = 0 → out.getD i 0 = 0)
    (fun out hl _ hI hp => by
      have hc := pick_cand hp
      have hlt := (pick_bd s loud bits out s.length).2
      simp only [cand, Bool.and_eq_true, Bool.not_eq_true', decide_eq_false_iff_not, decide_eq_true_eq] at hc
      refine ⟨hc.2, fun i hi hz => ?_⟩
      rw [bump_getD _ _ _ _ (by omega)]
      split
      · rename_i e; subst e; exact absurd hz hc.1.1
      · exact hI.2 i hi hz)
    _ (List.replicate s.length 0) rfl (by simp) (pulsesOk_zeros _)
    ⟨by rw [cost_zeros]; exact hb, fun i _ _ => by rw [List.getD_eq_getElem?_getD, List.getElem?_replicate]; split <;> rfl⟩
  refine ⟨h.1, h.2.1, h.2.2.1.1, h.2.2.1.2, fun i hi h1 h2 => ?_⟩
  have := pick_none h.2.2.2 i hi
  unfold shareOf at *
  simp only [cand, Bool.and_eq_false_iff, Bool.not_eq_false', decide_eq_true_eq, decide_eq_false_iff_not] at this
  rcases this with (h3 | h3) | h3
  · exact absurd h3 h1
  · exact absurd h3 h2
  · omega
/-- Where all is silent none gets one. -/
theorem pick_silent {s loud : List Int} {bits : Int} {out : List Int} (h : ∀ i, loud.getD i 0 = 0) : ∀ n, pick s loud bits out n = -1
  | 0 => rfl
  | n + 1 => by unfold pick; rw [if_neg (by simp only [cand, h n]; simp), pick_silent h n]
theorem share_silent {s loud : List Int} {bits : Int} (h : ∀ i, loud.getD i 0 = 0) : shareOf s loud bits = List.replicate s.length 0 :=
  given_done (by rw [pick_silent h]; omega)
/-- Twice as loud all of them they get the same. -/
theorem pick_twice {s a b : List Int} {bits : Int} (h : ∀ i, b.getD i 0 = 2 * a.getD i 0) (out : List Int) : ∀ n, pick s b bits out n = pick s a bits out n
  | 0 => rfl
  | n + 1 => by
    have ih := pick_twice (s := s) (bits := bits) h out n
    have hc : cand s b bits out n = cand s a bits out n := by
      have e : decide (2 * a.getD n 0 = 0) = decide (a.getD n 0 = 0) := decide_eq_decide.2 (by omega)
      unfold cand; rw [h n, e]
    have ha : ∀ j, ahead b out n j = ahead a out n j := by
      intro j
      unfold ahead; rw [h n, h j]
      rw [Int.mul_assoc 2, Int.mul_assoc 2, Int.mul_assoc 2, Int.mul_assoc 2, decide_eq_decide]; omega
    unfold pick
    rw [ih, hc, ha]
theorem givenN_twice {s a b : List Int} {bits : Int} (h : ∀ i, b.getD i 0 = 2 * a.getD i 0) : ∀ (m : Nat) (out : List Int), givenN s b bits m out = givenN s a bits m out
  | 0, _ => rfl
  | m + 1, out => by
    unfold givenN
    rw [pick_twice h out, givenN_twice h m]
theorem share_twice {s a b : List Int} {bits : Int} (h : ∀ i, b.getD i 0 = 2 * a.getD i 0) : shareOf s b bits = shareOf s a bits := givenN_twice h _ _

/-! ### Tanks. -/
structure Tank where
  size : Int
  each : Int
  has : Int
def tankErr (t : Tank) : Int := if t.size < 0 ∨ 1000000 < t.size ∨ t.each < 0 ∨ t.size < t.each ∨ t.has < 0 ∨ t.size < t.has then 1 else 0
theorem tankErr_zero {t : Tank} : tankErr t = 0 ↔ 0 ≤ t.size ∧ t.size ≤ 1000000 ∧ 0 ≤ t.each ∧ t.each ≤ t.size ∧ 0 ≤ t.has ∧ t.has ≤ t.size := by
  unfold tankErr; split <;> simp <;> omega
def full (t : Tank) : Int := if t.has + t.each < t.size then t.has + t.each else t.size
def turnErr (t : Tank) (bits : Int) : Int := if tankErr t ≠ 0 then 1 else if bits < 0 ∨ 1000000 < bits then 1 else if full t < bits then 8 else 0
def turned (t : Tank) (bits : Int) : Tank := { t with has := full t - bits }
/-- Turns in a row: how many there are at last; the fault. -/
def runT : List Int → Tank → Tank
  | [], t => t
  | n :: l, t => runT l (turned t n)
def runErr : List Int → Tank → Int
  | [], _ => 0
  | n :: l, t => if turnErr t n ≠ 0 then turnErr t n else runErr l (turned t n)
theorem turned_ok {t : Tank} {n : Int} (h : turnErr t n = 0) : tankErr t = 0 ∧ 0 ≤ n ∧ n ≤ full t ∧ tankErr (turned t n) = 0 := by
  unfold turnErr at h
  split at h
  · omega
  · rename_i h1
    split at h
    · omega
    · split at h
      · omega
      · have h2 : tankErr t = 0 := by omega
        have h3 := tankErr_zero.1 h2
        refine ⟨h2, by omega, by omega, tankErr_zero.2 ?_⟩
        simp only [turned]; unfold full at *; split <;> split at * <;> omega
theorem run_holds : ∀ (l : List Int) (t : Tank), runErr l t = 0 → tankErr t = 0 → (∀ n ∈ l, 0 ≤ n) ∧ total l ≤ t.has + l.length * t.each ∧ (runT l t).has ≤ t.size ∧ 0 ≤ (runT l t).has
  | [], t, _, h => by have := tankErr_zero.1 h; simp [total, runT]; omega
  | n :: l, t, h, ht => by
    unfold runErr at h
    split at h
    · omega
    · rename_i hn
      have hk := turned_ok (show turnErr t n = 0 by omega)
      have h3 := tankErr_zero.1 ht
      have ih := run_holds l (turned t n) h hk.2.2.2
      have he : (turned t n).each = t.each := rfl
      have hs : (turned t n).size = t.size := rfl
      have hh : (turned t n).has = full t - n := rfl
      rw [he, hs, hh] at ih
      refine ⟨fun m hm => ?_, ?_, ih.2.2⟩
      · rcases List.mem_cons.1 hm with rfl | hm
        · exact hk.2.1
        · exact ih.1 m hm
      · have e : ((n :: l).length : Int) * t.each = l.length * t.each + t.each := by rw [List.length_cons, Int.natCast_add, Int.add_mul]; simp
        rw [e]; simp only [total]
        have : full t ≤ t.has + t.each := by unfold full; split <;> omega
        omega
theorem runErr_drop : ∀ (l : List Int) (t : Tank) (i : Nat), runErr l t = 0 → tankErr t = 0 → ∃ u : Tank, tankErr u = 0 ∧ u.size = t.size ∧ u.each = t.each ∧ runErr (l.drop i) u = 0
  | l, t, 0, h, ht => ⟨t, ht, rfl, rfl, h⟩
  | [], t, i + 1, h, ht => ⟨t, ht, rfl, rfl, h⟩
  | n :: l, t, i + 1, h, ht => by
    unfold runErr at h
    split at h
    · omega
    · have hk := turned_ok (show turnErr t n = 0 by omega)
      obtain ⟨u, h1, h2, h3, h4⟩ := runErr_drop l (turned t n) i h hk.2.2.2
      exact ⟨u, h1, h2, h3, by simpa using h4⟩
theorem runErr_take : ∀ (l : List Int) (t : Tank) (i : Nat), runErr l t = 0 → runErr (l.take i) t = 0
  | l, t, 0, _ => rfl
  | [], t, i + 1, _ => rfl
  | n :: l, t, i + 1, h => by
    unfold runErr at h
    split at h
    · omega
    · rename_i hn
      rw [List.take_succ_cons, runErr, if_neg hn]
      exact runErr_take l _ i h
/-- IN ANY ROW OF TURNS NO MORE GOES THAN THERE WAS, AND CAME. -/
theorem run_part {l : List Int} {t : Tank} (h : runErr l t = 0) (ht : tankErr t = 0) (i j : Nat) (hij : i + j ≤ l.length) : total ((l.drop i).take j) ≤ t.size + j * t.each := by
  obtain ⟨u, h1, h2, h3, h4⟩ := runErr_drop l t i h ht
  have h5 := run_holds _ u (runErr_take _ u j h4) h1
  have h6 := tankErr_zero.1 h1
  have hl : ((l.drop i).take j).length = j := by rw [List.length_take, List.length_drop]; omega
  rw [hl, h3] at h5
  omega
/-- As much as comes may go, for ever. -/
theorem run_even (t : Tank) (h : tankErr t = 0) (he : t.has = t.size - t.each) : ∀ n : Nat, runErr (List.replicate n t.each) t = 0 ∧ runT (List.replicate n t.each) t = t
  | 0 => ⟨rfl, rfl⟩
  | n + 1 => by
    have h3 := tankErr_zero.1 h
    have hf : full t = t.size := by unfold full; split <;> omega
    have ht : turned t t.each = t := by unfold turned; rw [hf, ← he]
    have h0 : turnErr t t.each = 0 := by unfold turnErr; rw [if_neg (by omega), if_neg (by omega), hf, if_neg (by omega)]
    have ih := run_even t h he n
    rw [List.replicate_succ]
    unfold runErr runT
    rw [ht, if_neg (by omega)]
    exact ih
end Ph
