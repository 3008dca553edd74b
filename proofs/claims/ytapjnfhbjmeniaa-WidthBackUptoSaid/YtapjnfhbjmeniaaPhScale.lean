/- Plain law: bands, and shares that are all together 256 (chapters 9, 10). No program in sight. -/
import Derived.Test.YtapjnfhbjmeniaaPhGain
namespace Ph
/-- Added up. -/
def total : List Int → Int
  | [] => 0
  | x :: l => x + total l
theorem total_append (a b : List Int) : total (a ++ b) = total a + total b := by
  induction a with
  | nil => simp [total]
  | cons x a ih => simp [total, ih]; omega
theorem total_snoc (a : List Int) (x : Int) : total (a ++ [x]) = total a + x := by simp [total_append, total]
theorem total_nonneg {l : List Int} (h : ∀ x ∈ l, 0 ≤ x) : 0 ≤ total l := by
  induction l with
  | nil => simp [total]
  | cons x l ih => have := ih (fun y hy => h y (by simp [hy])); have := h x (by simp); simp only [total]; omega
theorem total_le {l : List Int} {m : Int} (h : ∀ x ∈ l, x ≤ m) : total l ≤ l.length * m := by
  induction l with
  | nil => simp [total]
  | cons x l ih =>
    have h1 := ih (fun y hy => h y (by simp [hy])); have h2 := h x (by simp)
    have e : ((x :: l).length : Int) * m = l.length * m + m := by rw [List.length_cons, Int.natCast_add, Int.add_mul]; simp
    rw [e]; simp only [total]; omega
theorem total_take_le {l : List Int} (h : ∀ x ∈ l, 0 ≤ x) (k : Nat) : total (l.take k) ≤ total l := by
  have h1 := total_append (l.take k) (l.drop k)
  rw [List.take_append_drop] at h1
  have := total_nonneg (l := l.drop k) (fun x hx => h x (List.mem_of_mem_drop hx)); omega
theorem mem_le_total {l : List Int} (h : ∀ x ∈ l, 0 ≤ x) : ∀ x ∈ l, x ≤ total l := by
  induction l with
  | nil => simp
  | cons y l ih =>
    intro x hx
    have h0 := h y (by simp)
    have h1 := total_nonneg (l := l) (fun z hz => h z (by simp [hz]))
    simp only [total]
    rcases List.mem_cons.1 hx with rfl | hx
    · omega
    · have := ih (fun z hz => h z (by simp [hz])) x hx; omega
/-- What lies ahead of the i-th. -/
def pre (f : List Int) (i : Nat) : Int := total (f.take i)
theorem pre_zero (f : List Int) : pre f 0 = 0 := rfl
theorem pre_succ (f : List Int) (i : Nat) (h : i < f.length) : pre f (i + 1) = pre f i + f.getD i 0 := by unfold pre; rw [take_snoc f i h, total_snoc]
theorem pre_all (f : List Int) : pre f f.length = total f := by unfold pre; rw [List.take_length]
theorem pre_nonneg {f : List Int} (h : ∀ x ∈ f, 0 ≤ x) (i : Nat) : 0 ≤ pre f i := total_nonneg fun x hx => h x (List.mem_of_mem_take hx)
theorem pre_mono {f : List Int} (h : ∀ x ∈ f, 0 ≤ x) {i j : Nat} (hij : i ≤ j) : pre f i ≤ pre f j := by
  unfold pre
  have : f.take i = (f.take j).take i := by rw [List.take_take, Nat.min_eq_left hij]
  rw [this]; exact total_take_le (fun x hx => h x (List.mem_of_mem_take hx)) i
/-- Whose a place is. -/
def atL : List Int → Int → Nat
  | [], _ => 0
  | x :: f, a => if x ≤ a then atL f (a - x) + 1 else 0
theorem atL_spec : ∀ (f : List Int) (a : Int), 0 ≤ a → a < total f → atL f a < f.length ∧ pre f (atL f a) ≤ a ∧ a < pre f (atL f a + 1)
  | [], a, h0, h1 => by simp [total] at h1; omega
  | x :: f, a, h0, h1 => by
    simp only [total] at h1
    unfold atL
    split
    · rename_i hx
      have ih := atL_spec f (a - x) (by omega) (by omega)
      unfold pre at *
      simp only [List.length_cons, List.take_succ_cons, total]
      omega
    · unfold pre
      simp only [List.length_cons, List.take_succ_cons, List.take_zero, total]
      omega
theorem at_unique {f : List Int} (h : ∀ x ∈ f, 0 ≤ x) {a : Int} {i j : Nat} (h1 : pre f i ≤ a) (h2 : a < pre f (i + 1)) (h3 : pre f j ≤ a) (h4 : a < pre f (j + 1)) : i = j := by
  rcases Nat.lt_trichotomy i j with hl | hl | hl
  · have := pre_mono h (show i + 1 ≤ j by omega); omega
  · exact hl
  · have := pre_mono h (show j + 1 ≤ i by omega); omega

/-! ### The greatest, the first. -/
def best (f : Nat → Int) : Nat → Nat
  | 0 => 0
  | n + 1 => if f (best f n) < f n then n else best f n
theorem best_lt (f : Nat → Int) : ∀ n, best f (n + 1) < n + 1
  | 0 => by unfold best; split <;> simp [best]
  | n + 1 => by have := best_lt f n; rw [best]; split <;> omega
theorem best_ge (f : Nat → Int) : ∀ n i, i < n → f i ≤ f (best f n)
  | 0, i, h => by omega
  | n + 1, i, h => by
    rw [best]
    rcases Nat.lt_or_ge i n with hi | hi
    · have := best_ge f n i hi; split <;> omega
    · have : i = n := by omega
      subst this; split <;> omega
theorem best_first (f : Nat → Int) : ∀ n i, i < best f n → f i < f (best f n)
  | 0, i, h => by simp [best] at h
  | n + 1, i, h => by
    rw [best] at h ⊢
    split at h
    · rename_i hlt; rw [if_pos hlt]
      rcases Nat.eq_zero_or_pos n with h0 | h0
      · omega
      · have := best_ge f n i h; omega
    · rename_i hlt; rw [if_neg hlt]; exact best_first f n i h
theorem best_is {f : Nat → Int} {n i : Nat} (hi : i < n) (h1 : ∀ j, j < n → f j ≤ f i) (h2 : ∀ j, j < i → f j < f i) : best f n = i := by
  obtain ⟨m, rfl⟩ : ∃ m, n = m + 1 := ⟨n - 1, by omega⟩
  have hb := best_lt f m
  rcases Nat.lt_trichotomy (best f (m + 1)) i with h | h | h
  · have := h2 _ h; have := best_ge f (m + 1) i hi; omega
  · exact h
  · have := best_first f (m + 1) i h; have := h1 _ hb; omega
def bestL (l : List Int) : Nat := best (fun i => l.getD i 0) l.length
theorem bestL_lt {l : List Int} (h : l ≠ []) : bestL l < l.length := by
  unfold bestL
  obtain ⟨m, hm⟩ : ∃ m, l.length = m + 1 := ⟨l.length - 1, by have := List.length_pos_iff.2 h; omega⟩
  rw [hm]; exact best_lt _ m
/-- One more, or one less, at a place. -/
def bump (l : List Int) (i : Nat) (d : Int) : List Int := l.set i (l.getD i 0 + d)
theorem bump_length (l : List Int) (i : Nat) (d : Int) : (bump l i d).length = l.length := by simp [bump]
theorem bump_getD (l : List Int) (i j : Nat) (d : Int) (hi : i < l.length) : (bump l i d).getD j 0 = if i = j then l.getD i 0 + d else l.getD j 0 := by
  unfold bump
  rw [List.getD_eq_getElem?_getD, List.getElem?_set]
  by_cases h : i = j
  · subst h; simp [hi]
  · simp [h]
theorem total_set (l : List Int) : ∀ (i : Nat) (x : Int), i < l.length → total (l.set i x) = total l - l.getD i 0 + x := by
  induction l with
  | nil => intro i x h; simp at h
  | cons y l ih =>
    intro i x h
    cases i with
    | zero => simp [total]; omega
    | succ i => simp only [List.set_cons_succ, total]; rw [ih i x (by simpa using h)]; simp; omega
theorem total_bump {l : List Int} {i : Nat} {d : Int} (hi : i < l.length) : total (bump l i d) = total l + d := by unfold bump; rw [total_set l i _ hi]; omega
def adj : Nat → Int → List Int → List Int
  | 0, _, l => l
  | k + 1, d, l => adj k d (bump l (bestL l) d)
theorem adj_length : ∀ k d l, (adj k d l).length = l.length
  | 0, _, _ => rfl
  | k + 1, d, l => by rw [adj, adj_length k, bump_length]
theorem adj_total : ∀ (k : Nat) (d : Int) (l : List Int), l ≠ [] → total (adj k d l) = total l + k * d
  | 0, d, l, _ => by simp [adj]
  | k + 1, d, l, h => by
    have hb := bestL_lt h
    have hne : bump l (bestL l) d ≠ [] := by
      intro he; have := congrArg List.length he; rw [bump_length] at this; simp at this; exact h this
    rw [adj, adj_total k d _ hne, total_bump hb, Int.natCast_add, Int.add_mul]; simp; omega
def gap (l : List Int) : Nat := (256 - total l).natAbs
def dirn (l : List Int) : Int := if 256 < total l then -1 else 1
def finish (l : List Int) : List Int := adj (gap l) (dirn l) l
theorem finish_done {l : List Int} (h : total l = 256) : finish l = l := by unfold finish gap; rw [h]; rfl
theorem finish_step {l : List Int} (h : total l ≠ 256) (hne : l ≠ []) : finish l = finish (bump l (bestL l) (dirn l)) ∧ gap (bump l (bestL l) (dirn l)) + 1 = gap l := by
  have hb := bestL_lt hne
  have ht : total (bump l (bestL l) (dirn l)) = total l + dirn l := total_bump hb
  have hg : gap (bump l (bestL l) (dirn l)) + 1 = gap l := by unfold gap; rw [ht]; unfold dirn; split <;> omega
  refine ⟨?_, hg⟩
  unfold finish
  rw [← hg, adj]
  by_cases hz : gap (bump l (bestL l) (dirn l)) = 0
  · rw [hz]; rfl
  · have : dirn (bump l (bestL l) (dirn l)) = dirn l := by
      unfold gap at hz; rw [ht] at hz
      have hd : dirn (bump l (bestL l) (dirn l)) = if 256 < total l + dirn l then -1 else 1 := by rw [← ht]; rfl
      rw [hd]
      unfold dirn at hz ⊢
      by_cases h1 : 256 < total l
      · rw [if_pos h1] at hz ⊢; rw [if_pos (by omega)]
      · rw [if_neg h1] at hz ⊢; rw [if_neg (by omega)]
    rw [this]
theorem finish_length (l : List Int) : (finish l).length = l.length := adj_length _ _ _
theorem finish_total {l : List Int} (h : l ≠ []) : total (finish l) = 256 := by
  unfold finish; rw [adj_total _ _ _ h]; unfold gap dirn
  split
  · omega
  · omega
/-- What is positive stays so, what is 0 stays so: of no more than forty that are not negative, of which one is positive. -/
theorem max_pos {l : List Int} (h0 : ∃ i, i < l.length ∧ 0 < l.getD i 0) : 0 < l.getD (bestL l) 0 := by
  obtain ⟨i, hi, hp⟩ := h0
  have := best_ge (fun i => l.getD i 0) l.length i hi
  unfold bestL; omega
theorem le_max {l : List Int} {i : Nat} (hi : i < l.length) : l.getD i 0 ≤ l.getD (bestL l) 0 := best_ge (fun i => l.getD i 0) l.length i hi
theorem total_le_max (l : List Int) : total l ≤ l.length * l.getD (bestL l) 0 := by
  apply total_le
  intro x hx
  obtain ⟨i, hi, rfl⟩ := List.mem_iff_getElem.1 hx
  have := le_max hi
  rw [List.getD_eq_getElem?_getD, List.getElem?_eq_getElem hi] at this
  simpa using this
/-- The relation that every turn of the adjusting keeps. -/
def Fits (l out : List Int) : Prop := out.length = l.length ∧ ∀ i, i < l.length → 0 ≤ out.getD i 0 ∧ (0 < out.getD i 0 ↔ 0 < l.getD i 0)
theorem fits_bump {l out : List Int} (hl : l.length ≤ 40) (hp : ∃ i, i < l.length ∧ 0 < l.getD i 0) (h : Fits l out) : Fits l (bump out (bestL out) (dirn out)) := by
  obtain ⟨h1, h2⟩ := h
  obtain ⟨i0, hi0, hp0⟩ := hp
  have hne : out ≠ [] := by intro he; rw [he] at h1; simp at h1; omega
  have hb := bestL_lt hne
  have hpos := max_pos (l := out) ⟨i0, by omega, (h2 i0 hi0).2.2 hp0⟩
  refine ⟨by rw [bump_length, h1], fun i hi => ?_⟩
  rw [bump_getD _ _ _ _ hb]
  have hi2 := h2 i hi
  split
  · rename_i e
    subst e
    unfold dirn
    split
    · rename_i hgt
      have hm := total_le_max out
      have : (out.length : Int) * out.getD (bestL out) 0 ≤ 40 * out.getD (bestL out) 0 := Int.mul_le_mul_of_nonneg_right (by omega) (by omega)
      refine ⟨by omega, ?_⟩
      constructor
      · intro _; exact hi2.2.1 hpos
      · intro _; omega
    · refine ⟨by omega, ?_⟩
      constructor
      · intro _; exact hi2.2.1 hpos
      · intro _; omega
  · exact hi2
theorem fits_finish {l : List Int} (hl : l.length ≤ 40) (hp : ∃ i, i < l.length ∧ 0 < l.getD i 0) : ∀ (g : Nat) (out : List Int), gap out = g → Fits l out → Fits l (finish out)
  | 0, out, hg, h => by rw [finish_done (by unfold gap at hg; omega)]; exact h
  | g + 1, out, hg, h => by
    have h256 : total out ≠ 256 := by unfold gap at hg; omega
    have hne : out ≠ [] := by
      obtain ⟨i, hi, _⟩ := hp
      intro he; have := h.1; rw [he] at this; simp at this; omega
    have hs := finish_step h256 hne
    rw [hs.1]
    exact fits_finish hl hp g _ (by omega) (fits_bump hl hp h)
def share1 (all n : Int) : Int := if 0 < n then (if n * 256 / all < 1 then 1 else n * 256 / all) else 0
def firsts (l : List Int) : List Int := l.map (share1 (total l))
def scaled (l : List Int) : List Int := finish (firsts l)
theorem firsts_getD (l : List Int) (i : Nat) (h : i < l.length) : (firsts l).getD i 0 = share1 (total l) (l.getD i 0) := by
  unfold firsts
  rw [List.getD_eq_getElem?_getD, List.getD_eq_getElem?_getD, List.getElem?_map, List.getElem?_eq_getElem h]; rfl
theorem firsts_length (l : List Int) : (firsts l).length = l.length := by simp [firsts]
theorem firsts_fits {l : List Int} (h0 : ∀ x ∈ l, 0 ≤ x) : Fits l (firsts l) := by
  refine ⟨firsts_length l, fun i hi => ?_⟩
  rw [firsts_getD l i hi]
  have h1 := h0 _ (getD_mem hi)
  unfold share1
  split
  · split <;> omega
  · omega
theorem some_pos {l : List Int} (h0 : ∀ x ∈ l, 0 ≤ x) (ht : total l ≠ 0) : ∃ i, i < l.length ∧ 0 < l.getD i 0 := by
  induction l with
  | nil => exact absurd rfl ht
  | cons x l ih =>
    have hx := h0 x (by simp)
    by_cases h : x = 0
    · subst h
      obtain ⟨i, hi, hp⟩ := ih (fun y hy => h0 y (by simp [hy])) (by simpa [total] using ht)
      exact ⟨i + 1, by simpa using hi, by simpa using hp⟩
    · exact ⟨0, by simp, by simp; omega⟩
theorem scaled_ok {l : List Int} (hl : l.length ≤ 40) (h0 : ∀ x ∈ l, 0 ≤ x) (ht : total l ≠ 0) : Fits l (scaled l) ∧ total (scaled l) = 256 := by
  have hp := some_pos h0 ht
  refine ⟨fits_finish hl hp _ _ rfl (firsts_fits h0), finish_total ?_⟩
  obtain ⟨i, hi, _⟩ := hp
  intro he; have := congrArg List.length he; rw [firsts_length, List.length_nil] at this; omega
/-- No share is above Total, ahead of the adjusting, and none above 10240 on the way. -/
theorem share1_le {all n : Int} (h1 : n ≤ all) : 0 ≤ share1 all n ∧ share1 all n ≤ 256 := by
  unfold share1
  split
  · have : n * 256 / all ≤ 256 := Int.ediv_le_of_le_mul (by omega) (by rw [Int.mul_comm 256]; exact Int.mul_le_mul_of_nonneg_right h1 (by omega))
    split <;> omega
  · omega
theorem firsts_total_le {l : List Int} (hl : l.length ≤ 40) (h0 : ∀ x ∈ l, 0 ≤ x) : 0 ≤ total (firsts l) ∧ total (firsts l) ≤ 10240 := by
  have hb : ∀ y ∈ firsts l, 0 ≤ y ∧ y ≤ 256 := by
    intro y hy
    unfold firsts at hy
    obtain ⟨x, hx, rfl⟩ := List.mem_map.1 hy
    exact share1_le (mem_le_total h0 x hx)
  have h1 := total_nonneg (l := firsts l) (fun y hy => (hb y hy).1)
  have h2 := total_le (l := firsts l) (m := 256) (fun y hy => (hb y hy).2)
  rw [firsts_length] at h2
  omega

/-! ### Counted alike. -/
theorem total_replicate (n : Nat) (x : Int) : total (List.replicate n x) = n * x := by
  induction n with
  | zero => simp [total]
  | succ n ih => rw [List.replicate_succ]; simp only [total, ih]; rw [Int.natCast_add, Int.add_mul]; simp; omega
theorem adj_front (q : Int) (n : Nat) : ∀ (k : Nat) (x : Int), q ≤ x → adj k 1 (x :: List.replicate n q) = (x + k) :: List.replicate n q
  | 0, x, _ => by simp [adj]
  | k + 1, x, h => by
    have hb : bestL (x :: List.replicate n q) = 0 := by
      unfold bestL
      apply best_is
      · simp
      · intro j hj
        simp only [List.length_cons, List.length_replicate] at hj
        cases j with
        | zero => omega
        | succ j => simp [List.getD_eq_getElem?_getD, show j < n by omega]; exact h
      · intro j hj; omega
    rw [adj, hb]
    have : bump (x :: List.replicate n q) 0 1 = (x + 1) :: List.replicate n q := by simp [bump]
    rw [this, adj_front q n k (x + 1) (by omega)]
    congr 1; omega
theorem scaled_alike {n : Nat} {x : Int} (hn : n + 1 ≤ 40) (hx : 1 ≤ x) :
    scaled (List.replicate (n + 1) x) = (256 - n * (256 / ((n + 1 : Nat) : Int))) :: List.replicate n (256 / ((n + 1 : Nat) : Int)) := by
  generalize hq : 256 / ((n + 1 : Nat) : Int) = q
  have hd : x * 256 / (((n + 1 : Nat) : Int) * x) = q := by
    rw [Int.mul_comm x 256, ← hq]; exact Int.mul_ediv_mul_of_pos_left _ _ (by omega)
  have hq1 : 1 ≤ q := by
    rw [← hq]; exact (Int.le_ediv_iff_mul_le (by omega)).2 (by omega)
  have hqn : ((n + 1 : Nat) : Int) * q ≤ 256 := by rw [← hq]; exact Int.mul_ediv_self_le (by omega)
  have hf : firsts (List.replicate (n + 1) x) = List.replicate (n + 1) q := by
    unfold firsts
    rw [List.map_replicate, total_replicate]
    unfold share1
    rw [hd, if_pos (by omega), if_neg (by omega)]
  unfold scaled
  rw [hf]
  unfold finish gap dirn
  rw [total_replicate, if_neg (by omega), List.replicate_succ, adj_front q n _ q (Int.le_refl _)]
  congr 1
  have e : ((n + 1 : Nat) : Int) * q = n * q + q := by rw [Int.natCast_add, Int.add_mul]; simp
  rw [e] at hqn ⊢
  omega

/-! ### Bands. -/
def bandErr (s : List Int) : Int :=
  if s.length = 0 then 5 else if 8 < s.length then 4 else if s.all (fun x => decide (1 ≤ x) && decide (x ≤ 6)) = true then (if 32 < total s then 4 else 0) else 1
theorem bandErr_zero {s : List Int} : bandErr s = 0 ↔ 1 ≤ s.length ∧ s.length ≤ 8 ∧ (∀ x ∈ s, 1 ≤ x ∧ x ≤ 6) ∧ total s ≤ 32 := by
  unfold bandErr
  split
  · simp; omega
  · split
    · simp; omega
    · split
      · rename_i h
        simp only [List.all_eq_true, Bool.and_eq_true, decide_eq_true_eq] at h
        split
        · simp; intros; omega
        · simp; exact ⟨by omega, by omega, h, by omega⟩
      · rename_i h
        simp only [List.all_eq_true, Bool.and_eq_true, decide_eq_true_eq] at h
        constructor
        · intro h1; omega
        · intro h1; exact absurd h1.2.2.1 h
def cut : List Int → List Int → List (List Int)
  | _, [] => []
  | l, n :: s => l.take n.toNat :: cut (l.drop n.toNat) s
theorem cut_length : ∀ (s l : List Int), (cut l s).length = s.length
  | [], _ => rfl
  | _ :: s, l => by simp only [cut, List.length_cons, cut_length s]
theorem cut_flatten : ∀ (s l : List Int), (∀ x ∈ s, 0 ≤ x) → total s = l.length → (cut l s).flatten = l
  | [], l, _, h => by simp only [total] at h; cases l with
    | nil => rfl
    | cons => simp at h; omega
  | n :: s, l, h0, h => by
    simp only [total] at h
    have hn := h0 n (by simp)
    have ht := total_nonneg (l := s) (fun x hx => h0 x (by simp [hx]))
    simp only [cut, List.flatten_cons]
    rw [cut_flatten s _ (fun x hx => h0 x (by simp [hx])) (by rw [List.length_drop]; omega), List.take_append_drop]
theorem flatten_cut : ∀ (m : List (List Int)) (s : List Int), m.length = s.length → (∀ i, i < s.length → ((m.getD i []).length : Int) = s.getD i 0) → cut m.flatten s = m
  | [], [], _, _ => rfl
  | [], _ :: _, h, _ => by simp at h
  | _ :: _, [], h, _ => by simp at h
  | b :: m, n :: s, h, hi => by
    have h0 : (b.length : Int) = n := by simpa using hi 0 (by simp)
    have ih := flatten_cut m s (by simpa using h) (fun i h => by simpa using hi (i + 1) (by simpa using h))
    have e : n.toNat = b.length := by omega
    simp only [List.flatten_cons, cut, e, List.take_left, List.drop_left, ih]
theorem cut_sizes : ∀ (s l : List Int), (∀ x ∈ s, 0 ≤ x) → total s = l.length → ∀ i, i < s.length → (((cut l s).getD i []).length : Int) = s.getD i 0
  | [], _, _, _, i, hi => by simp at hi
  | n :: s, l, h0, h, i, hi => by
    simp only [total] at h
    have hn := h0 n (by simp)
    have ht := total_nonneg (l := s) (fun x hx => h0 x (by simp [hx]))
    cases i with
    | zero => simp [cut]; omega
    | succ i =>
      have := cut_sizes s (l.drop n.toNat) (fun x hx => h0 x (by simp [hx])) (by rw [List.length_drop]; omega) i (by simpa using hi)
      simpa [cut] using this
theorem flatten_length : ∀ (m : List (List Int)) (s : List Int), m.length = s.length → (∀ i, i < s.length → ((m.getD i []).length : Int) = s.getD i 0) → (m.flatten.length : Int) = total s
  | [], [], _, _ => rfl
  | [], _ :: _, h, _ => by simp at h
  | _ :: _, [], h, _ => by simp at h
  | b :: m, n :: s, h, hi => by
    have h0 : (b.length : Int) = n := by simpa using hi 0 (by simp)
    have ih := flatten_length m s (by simpa using h) (fun i h => by simpa using hi (i + 1) (by simpa using h))
    simp only [List.flatten_cons, List.length_append, total]; omega
end Ph
