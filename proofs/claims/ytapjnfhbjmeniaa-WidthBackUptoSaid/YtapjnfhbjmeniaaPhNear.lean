/- Plain law: as near as may be (chapter 7). No program in sight. -/
import Derived.Test.YtapjnfhbjmeniaaPhCount
namespace Ph

def sumTo : Nat → (Nat → Int) → Int
  | 0, _ => 0
  | n + 1, f => sumTo n f + f n
theorem sumTo_congr {f g : Nat → Int} : ∀ n, (∀ i, i < n → f i = g i) → sumTo n f = sumTo n g
  | 0, _ => rfl
  | n + 1, h => by simp only [sumTo, sumTo_congr n (fun i hi => h i (by omega)), h n (by omega)]
theorem sumTo_le {f g : Nat → Int} : ∀ n, (∀ i, i < n → f i ≤ g i) → sumTo n f ≤ sumTo n g
  | 0, _ => by simp [sumTo]
  | n + 1, h => by
    have := sumTo_le n (fun i hi => h i (by omega)); have := h n (by omega)
    simp only [sumTo]; omega
theorem sumTo_add (f g : Nat → Int) : ∀ n, sumTo n (fun i => f i + g i) = sumTo n f + sumTo n g
  | 0 => rfl
  | n + 1 => by simp only [sumTo, sumTo_add f g n]; omega
theorem sumTo_mul (c : Int) (f : Nat → Int) : ∀ n, sumTo n (fun i => c * f i) = c * sumTo n f
  | 0 => by simp [sumTo]
  | n + 1 => by simp only [sumTo, sumTo_mul c f n, Int.mul_add]
theorem sumTo_zero : ∀ n, sumTo n (fun _ => 0) = 0
  | 0 => rfl
  | n + 1 => by simp only [sumTo, sumTo_zero n]; rfl
theorem sumTo_nonneg {f : Nat → Int} (n : Nat) (h : ∀ i, i < n → 0 ≤ f i) : 0 ≤ sumTo n f := by
  rw [← sumTo_zero n]; exact sumTo_le n h
theorem loud_sumTo (l : List Int) : ∀ k, k ≤ l.length → loud (l.take k) = sumTo k (fun i => far (l.getD i 0))
  | 0, _ => by simp [loud, sumTo]
  | k + 1, h => by rw [take_snoc l k (by omega), loud_snoc, loud_sumTo l k (by omega)]; rfl
theorem loud_is (l : List Int) : loud l = sumTo l.length (fun i => far (l.getD i 0)) := by
  rw [← loud_sumTo l l.length (Nat.le_refl _), List.take_length]

/-! ### The order: by the rests, the greater ones first, of the same the first one first. -/
/-- Does i come ahead of j? -/
def ahd (r : Nat → Int) (i j : Nat) : Prop := r j < r i ∨ r i = r j ∧ i < j
instance (r : Nat → Int) (i j : Nat) : Decidable (ahd r i j) := by unfold ahd; infer_instance
/-- Behind whom a later one is put: behind all that have no lesser rest. -/
def ins (r : Nat → Int) (x : Nat) : List Nat → List Nat
  | [] => [x]
  | y :: l => if r y < r x then x :: y :: l else y :: ins r x l
def ord (r : Nat → Int) : Nat → List Nat
  | 0 => []
  | n + 1 => ins r n (ord r n)
theorem ins_perm (r : Nat → Int) (x : Nat) : ∀ l : List Nat, (ins r x l).Perm (x :: l)
  | [] => List.Perm.refl _
  | y :: l => by
    unfold ins; split
    · exact List.Perm.refl _
    · exact ((ins_perm r x l).cons y).trans (List.Perm.swap x y l)
theorem ord_perm (r : Nat → Int) : ∀ n, (ord r n).Perm (List.range n)
  | 0 => List.Perm.refl _
  | n + 1 => by
    rw [List.range_succ]
    exact (ins_perm r n _).trans (((ord_perm r n).cons n).trans (List.perm_append_singleton n _).symm)
theorem ord_length (r : Nat → Int) (n : Nat) : (ord r n).length = n := by rw [(ord_perm r n).length_eq, List.length_range]
theorem ord_nodup (r : Nat → Int) (n : Nat) : (ord r n).Nodup := (ord_perm r n).nodup_iff.2 List.nodup_range
theorem ord_mem (r : Nat → Int) (n i : Nat) : i ∈ ord r n ↔ i < n := by rw [(ord_perm r n).mem_iff, List.mem_range]
theorem ins_pairwise (r : Nat → Int) (x : Nat) : ∀ l : List Nat, l.Pairwise (ahd r) → (∀ y ∈ l, y < x) → (ins r x l).Pairwise (ahd r)
  | [], _, _ => by simp [ins]
  | y :: l, h, hx => by
    rw [List.pairwise_cons] at h
    have hy : y < x := hx y (by simp)
    unfold ins; split
    · rename_i hlt
      rw [List.pairwise_cons, List.pairwise_cons]
      refine ⟨fun z hz => ?_, h⟩
      rcases List.mem_cons.1 hz with rfl | hz
      · exact .inl hlt
      · have := h.1 z hz; unfold ahd at *; omega
    · rename_i hge
      rw [List.pairwise_cons]
      refine ⟨fun z hz => ?_, ins_pairwise r x l h.2 (fun z hz => hx z (by simp [hz]))⟩
      rw [(ins_perm r x l).mem_iff] at hz
      rcases List.mem_cons.1 hz with rfl | hz
      · unfold ahd; omega
      · exact h.1 z hz
theorem ord_pairwise (r : Nat → Int) : ∀ n, (ord r n).Pairwise (ahd r)
  | 0 => List.Pairwise.nil
  | n + 1 => ins_pairwise r n _ (ord_pairwise r n) (fun y hy => (ord_mem r n y).1 hy)
/-- Whoever is among the first m comes ahead of whoever is not. -/
theorem take_ahd {r : Nat → Int} {n m i j : Nat} (hi : i ∈ (ord r n).take m) (hj : j < n) (hn : j ∉ (ord r n).take m) : ahd r i j := by
  have hp := ord_pairwise r n
  rw [← List.take_append_drop m (ord r n), List.pairwise_append] at hp
  have hj' : j ∈ (ord r n).drop m := by
    have := (ord_mem r n j).2 hj
    rw [← List.take_append_drop m (ord r n), List.mem_append] at this
    rcases this with h | h
    · exact absurd h hn
    · exact h
  exact hp.2.2 i hi j hj'
/-- One more for whoever is in a list. -/
def one (s : List Nat) (i : Nat) : Int := if i ∈ s then 1 else 0
theorem one_nil (i : Nat) : one [] i = 0 := rfl
theorem sum_single (x : Nat) : ∀ n, sumTo n (fun i => if i = x then 1 else 0) = if x < n then 1 else 0
  | 0 => by simp [sumTo]
  | n + 1 => by
    simp only [sumTo, sum_single x n]
    by_cases h : n = x
    · subst h; simp
    · rw [if_neg h]
      by_cases h2 : x < n
      · rw [if_pos h2, if_pos (by omega)]; rfl
      · rw [if_neg h2, if_neg (by omega)]; rfl
theorem sum_one (n : Nat) : ∀ s : List Nat, s.Nodup → (∀ i ∈ s, i < n) → sumTo n (one s) = s.length
  | [], _, _ => by rw [sumTo_congr n (g := fun _ => 0) (fun i _ => one_nil i), sumTo_zero]; rfl
  | x :: s, hd, hm => by
    rw [List.nodup_cons] at hd
    have e : sumTo n (one (x :: s)) = sumTo n (fun i => (if i = x then 1 else 0) + one s i) := by
      apply sumTo_congr
      intro i _
      unfold one
      by_cases h : i = x
      · subst h; simp [hd.1]
      · simp [h]
    rw [e, sumTo_add, sum_single, sum_one n s hd.2 (fun i hi => hm i (by simp [hi])), if_pos (hm x (by simp))]
    simp; omega

/-! ### Pulses near to numbers. -/
def nq (v : List Int) (k : Int) (i : Nat) : Int := k * far (v.getD i 0) / loud v
def nr (v : List Int) (k : Int) (i : Nat) : Int := k * far (v.getD i 0) % loud v
def nleft (v : List Int) (k : Int) : Int := k - sumTo v.length (nq v k)
def nadd (v : List Int) (k : Int) : List Nat := (ord (nr v k) v.length).take (nleft v k).toNat
def sgn (n : Int) : Int := if n < 0 then -1 else 1
def nmag (v : List Int) (k : Int) (i : Nat) : Int := nq v k i + one (nadd v k) i
def near (v : List Int) (k : Int) : List Int :=
  if k = 0 then List.replicate v.length 0 else (List.range v.length).map fun i => nmag v k i * sgn (v.getD i 0)
theorem near_length (v : List Int) (k : Int) : (near v k).length = v.length := by unfold near; split <;> simp
section
variable {v : List Int} {k : Int} (hL : 0 < loud v) (hk : 0 ≤ k)
include hL hk
theorem nq_nonneg (i : Nat) : 0 ≤ nq v k i := Int.ediv_nonneg (Int.mul_nonneg hk (far_nonneg _)) (by omega)
omit hk in
theorem nr_bd (i : Nat) : 0 ≤ nr v k i ∧ nr v k i < loud v := ⟨Int.emod_nonneg _ (by omega), Int.emod_lt_of_pos _ hL⟩
omit hL hk in
theorem nqr (i : Nat) : loud v * nq v k i + nr v k i = k * far (v.getD i 0) := Int.mul_ediv_add_emod _ _
omit hL hk in
theorem nr_sum : sumTo v.length (nr v k) = loud v * nleft v k := by
  have h : sumTo v.length (fun i => loud v * nq v k i + nr v k i) = sumTo v.length (fun i => k * far (v.getD i 0)) := sumTo_congr _ fun i _ => nqr i
  rw [sumTo_add, sumTo_mul, sumTo_mul, ← loud_is] at h
  have e : loud v * nleft v k = loud v * k - loud v * sumTo v.length (nq v k) := by unfold nleft; rw [Int.mul_sub]
  rw [e, Int.mul_comm (loud v) k]; omega
omit hk in
theorem nleft_nonneg : 0 ≤ nleft v k := by
  have h := nr_sum (v := v) (k := k)
  have h0 := sumTo_nonneg v.length (fun i _ => (nr_bd (k := k) hL i).1)
  rw [h] at h0
  rcases Int.lt_or_le (nleft v k) 0 with hn | hn
  · have := Int.mul_neg_of_pos_of_neg hL hn; omega
  · exact hn
omit hk in
theorem nleft_le : nleft v k ≤ v.length := by
  have h := nr_sum (v := v) (k := k)
  have h0 : sumTo v.length (nr v k) ≤ sumTo v.length (fun _ => loud v * 1) := sumTo_le _ fun i _ => by have := (nr_bd (k := k) hL i).2; omega
  rw [sumTo_mul, h] at h0
  have e : ∀ n : Nat, sumTo n (fun _ => 1) = n := by
    intro n; induction n with
    | zero => rfl
    | succ n ih => simp only [sumTo, ih]; omega
  rw [e] at h0
  exact Int.le_of_mul_le_mul_left h0 hL
omit hk in
theorem nadd_sum : sumTo v.length (one (nadd v k)) = nleft v k := by
  have h1 := nleft_nonneg (k := k) hL
  have h2 := nleft_le (k := k) hL
  rw [sum_one v.length (nadd v k)]
  · unfold nadd; rw [List.length_take, ord_length]; omega
  · exact (ord_nodup _ _).sublist (List.take_sublist _ _)
  · intro i hi
    exact (ord_mem _ _ i).1 (List.mem_of_mem_take hi)
omit hk in
theorem nmag_sum : sumTo v.length (nmag v k) = k := by
  have : sumTo v.length (nmag v k) = sumTo v.length (nq v k) + sumTo v.length (one (nadd v k)) := sumTo_add _ _ _
  rw [this, nadd_sum hL]; unfold nleft; omega
omit hL hk in
theorem one_bd (s : List Nat) (i : Nat) : 0 ≤ one s i ∧ one s i ≤ 1 := by unfold one; split <;> omega
theorem nmag_nonneg (i : Nat) : 0 ≤ nmag v k i := by have := nq_nonneg hL hk i; have := one_bd (nadd v k) i; unfold nmag; omega
omit hk in
/-- Who gets one more has a rest. -/
theorem nadd_rest {i : Nat} (hi : i ∈ nadd v k) : 0 < nr v k i := by
  rcases Int.lt_or_le 0 (nr v k i) with h | h
  · exact h
  · exfalso
    have hb := fun j => nr_bd (k := k) hL j
    -- all that are not among those have rest 0: the sum is less than left times loud
    have hle : sumTo v.length (nr v k) ≤ sumTo v.length (fun j => (loud v - 1) * one (nadd v k) j) := by
      apply sumTo_le
      intro j hj
      unfold one; split
      · have := (hb j).2; omega
      · rename_i hn
        have := take_ahd hi hj hn
        have := (hb j).1; have := (hb i).1
        unfold ahd at *; omega
    rw [sumTo_mul, nadd_sum hL, nr_sum, Int.sub_mul, Int.one_mul] at hle
    have h1 := nleft_nonneg (k := k) hL
    have h0 : nleft v k = 0 := by omega
    unfold nadd at hi
    rw [h0] at hi; simp at hi
omit hk in
theorem nmag_zero {i : Nat} (hv : v.getD i 0 = 0) : nmag v k i = 0 := by
  have hq : nq v k i = 0 := by unfold nq; rw [hv, far_zero]; simp
  have hr : nr v k i = 0 := by unfold nr; rw [hv, far_zero]; simp
  have hn : i ∉ nadd v k := fun h => by have := nadd_rest hL h; omega
  unfold nmag one; rw [hq, if_neg hn]; rfl
end
theorem near_getD (v : List Int) (k : Int) (h : k ≠ 0) (i : Nat) (hi : i < v.length) : (near v k).getD i 0 = nmag v k i * sgn (v.getD i 0) := by
  unfold near; rw [if_neg h]; exact getD_map_range _ _ _ hi
theorem far_sgn {m n : Int} (h : 0 ≤ m) : far (m * sgn n) = m := by
  unfold sgn; split
  · rw [Int.mul_neg, Int.mul_one, far_neg, far_eq, if_neg (by omega)]
  · rw [Int.mul_one, far_eq, if_neg (by omega)]
theorem near_loud {v : List Int} {k : Int} (hk : 0 ≤ k) (h : k = 0 ∨ 0 < loud v) : loud (near v k) = k := by
  by_cases h0 : k = 0
  · subst h0; unfold near; rw [if_pos rfl, loud_replicate_zero]
  · have hL : 0 < loud v := by omega
    rw [loud_is, near_length]
    rw [sumTo_congr (g := nmag v k) _ (fun i hi => by rw [near_getD v k h0 i hi, far_sgn (nmag_nonneg hL hk i)])]
    exact nmag_sum hL
/-- With the numbers' signs. -/
theorem near_sign {v : List Int} {k : Int} (hk : 0 ≤ k) (h : k = 0 ∨ 0 < loud v) (i : Nat) (hi : i < v.length) :
    ¬ ((near v k).getD i 0 < 0 ∧ 0 ≤ v.getD i 0) ∧ ¬ (0 < (near v k).getD i 0 ∧ v.getD i 0 ≤ 0) := by
  by_cases h0 : k = 0
  · subst h0; unfold near; rw [if_pos rfl]
    have : (List.replicate v.length (0 : Int)).getD i 0 = 0 := by rw [List.getD_eq_getElem?_getD, List.getElem?_replicate]; split <;> rfl
    rw [this]; omega
  · have hL : 0 < loud v := by omega
    rw [near_getD v k h0 i hi]
    have hm := nmag_nonneg hL hk i
    unfold sgn
    split
    · rw [Int.mul_neg, Int.mul_one]; omega
    · rw [Int.mul_one]
      by_cases hz : v.getD i 0 = 0
      · rw [nmag_zero hL hz]; omega
      · omega

/-! ### None is nearer. -/
def farFrom (v p : List Int) : Int := sumTo v.length (fun i => far (loud p * v.getD i 0 - loud v * p.getD i 0))
theorem farFrom_nonneg (v p : List Int) : 0 ≤ farFrom v p := sumTo_nonneg _ fun _ _ => far_nonneg _
theorem far_mul {a b : Int} (h : 0 ≤ a) : far (a * b) = a * far b := by
  rw [far_eq, far_eq]
  rcases Int.lt_or_le b 0 with hb | hb
  · rw [if_pos hb]
    split
    · rw [Int.mul_neg]
    · rename_i hn
      have h1 : a * b ≤ 0 := Int.mul_nonpos_of_nonneg_of_nonpos h (by omega)
      have h2 : a * b = 0 := by omega
      rw [Int.mul_neg, h2]; rfl
  · have h1 : 0 ≤ a * b := Int.mul_nonneg h hb
    rw [if_neg (by omega), if_neg (by omega)]
theorem far_far_le (a b : Int) : far (far a - far b) ≤ far (a - b) := by
  rw [far_eq a, far_eq b, far_eq (a - b)]
  split <;> split <;> split <;> rw [far_le] <;> omega
/-- One number: against the price mu. r: its rest, c: whether it gets one more, d: what another row gives it beyond the whole part. -/
theorem price {L r c d mu : Int} (hL : 0 < L) (hr0 : 0 ≤ r) (hr1 : r < L) (hc : c = 0 ∧ mu ≤ L - 2 * r ∨ c = 1 ∧ L - 2 * r ≤ mu) (hm1 : -L ≤ mu) (hm2 : mu ≤ L) :
    far (r - L * c) + mu * (d - c) ≤ far (r - L * d) := by
  have key : ∀ e : Int, 0 ≤ e → mu * e ≤ L * e ∧ -(L * e) ≤ mu * e := by
    intro e he
    refine ⟨Int.mul_le_mul_of_nonneg_right hm2 he, ?_⟩
    have := Int.mul_le_mul_of_nonneg_right hm1 he
    rwa [Int.neg_mul] at this
  rcases hc with ⟨rfl, hmu⟩ | ⟨rfl, hmu⟩
  · rw [Int.mul_zero, Int.sub_zero, Int.sub_zero]
    rcases Int.lt_or_le d 1 with hd | hd
    · -- d ≤ 0
      have h := (key (-d) (by omega)).2
      rw [Int.mul_neg, Int.mul_neg] at h
      have h3 : L * d ≤ 0 := Int.mul_nonpos_of_nonneg_of_nonpos (by omega) (by omega)
      rw [far_eq, far_eq, if_neg (by omega), if_neg (by omega)]; omega
    · have h := (key (d - 1) (by omega)).1
      rw [Int.mul_sub, Int.mul_sub, Int.mul_one, Int.mul_one] at h
      have h3 : L ≤ L * d := by have := Int.mul_le_mul_of_nonneg_left hd (show 0 ≤ L by omega); rwa [Int.mul_one] at this
      rw [far_eq, far_eq, if_neg (by omega), if_pos (by omega)]; omega
  · rw [Int.mul_one, Int.mul_sub, Int.mul_one]
    rcases Int.lt_or_le d 1 with hd | hd
    · have h := (key (-d) (by omega)).2
      rw [Int.mul_neg, Int.mul_neg] at h
      have h3 : L * d ≤ 0 := Int.mul_nonpos_of_nonneg_of_nonpos (by omega) (by omega)
      rw [far_eq, far_eq, if_pos (by omega), if_neg (by omega)]; omega
    · have h := (key (d - 1) (by omega)).1
      rw [Int.mul_sub, Int.mul_sub, Int.mul_one, Int.mul_one] at h
      have h3 : L ≤ L * d := by have := Int.mul_le_mul_of_nonneg_left hd (show 0 ≤ L by omega); rwa [Int.mul_one] at this
      rw [far_eq, far_eq, if_pos (by omega), if_pos (by omega)]; omega
/-- A price there is: no more than the rest of who gets one more, no less than that of who does not. -/
theorem some_price (r : Nat → Int) (L : Int) (n m : Nat) (hL : 0 < L) (hr : ∀ i, 0 ≤ r i ∧ r i < L) :
    ∃ t : Int, 0 ≤ t ∧ t < L ∧ (∀ i, i ∈ (ord r n).take m → t ≤ r i) ∧ (∀ i, i < n → i ∉ (ord r n).take m → r i ≤ t) := by
  have least : ∀ s : List Nat, s ≠ [] → ∃ i ∈ s, ∀ j ∈ s, r i ≤ r j := by
    intro s
    induction s with
    | nil => intro h; exact absurd rfl h
    | cons x s ih =>
      intro _
      by_cases hs : s = []
      · subst hs; exact ⟨x, by simp, by simp⟩
      · obtain ⟨i, hi, hj⟩ := ih hs
        rcases Int.le_total (r x) (r i) with h | h
        · refine ⟨x, by simp, fun j hjm => ?_⟩
          rcases List.mem_cons.1 hjm with rfl | hjm
          · exact Int.le_refl _
          · have := hj j hjm; omega
        · refine ⟨i, by simp [hi], fun j hjm => ?_⟩
          rcases List.mem_cons.1 hjm with rfl | hjm
          · exact h
          · exact hj j hjm
  by_cases hs : (ord r n).take m = []
  · rw [hs]
    exact ⟨L - 1, by omega, by omega, by simp, fun i _ _ => by have := (hr i).2; omega⟩
  · obtain ⟨i0, h0, h1⟩ := least _ hs
    refine ⟨r i0, (hr i0).1, (hr i0).2, h1, fun i hi hn => ?_⟩
    have := take_ahd h0 hi hn
    unfold ahd at this; omega
/-- NONE IS NEARER. -/
theorem near_best {v p : List Int} {k : Int} (hk : 0 ≤ k) (h : k = 0 ∨ 0 < loud v) (hl : p.length = v.length) (hp : loud p = k) : farFrom v (near v k) ≤ farFrom v p := by
  by_cases h0 : k = 0
  · subst h0
    have hz : ∀ i, p.getD i 0 = 0 := by
      intro i
      rw [List.getD_eq_getElem?_getD]
      rcases Nat.lt_or_ge i p.length with hi | hi
      · rw [List.getElem?_eq_getElem hi]; exact loud_eq_zero hp _ (List.getElem_mem hi)
      · rw [List.getElem?_eq_none hi]; rfl
    unfold farFrom
    rw [near_loud (by omega) h, hp]
    apply Int.le_of_eq
    apply sumTo_congr
    intro i hi
    rw [hz]
    have : (near v 0).getD i 0 = 0 := by
      unfold near; rw [if_pos rfl, List.getD_eq_getElem?_getD, List.getElem?_replicate]; split <;> rfl
    rw [this]
  · have hL : 0 < loud v := by omega
    obtain ⟨t, ht0, ht1, hin, hout⟩ := some_price (nr v k) (loud v) v.length (nleft v k).toNat hL (fun i => nr_bd hL i)
    have e1 : farFrom v (near v k) = sumTo v.length (fun i => far (nr v k i - loud v * one (nadd v k) i)) := by
      unfold farFrom
      apply sumTo_congr
      intro i hi
      rw [near_loud hk h, near_getD v k h0 i hi]
      have hq := nqr (v := v) (k := k) i
      have hm : k * v.getD i 0 - loud v * (nmag v k i * sgn (v.getD i 0)) = (k * far (v.getD i 0) - loud v * nmag v k i) * sgn (v.getD i 0) := by
        rw [Int.sub_mul, Int.mul_assoc, Int.mul_assoc]
        have : far (v.getD i 0) * sgn (v.getD i 0) = v.getD i 0 := by
          rw [far_eq]; unfold sgn; split
          · rw [Int.neg_mul_neg, Int.mul_one]
          · rw [Int.mul_one]
        rw [this]
      rw [hm]
      have hs : ∀ x : Int, far (x * sgn (v.getD i 0)) = far x := by
        intro x; unfold sgn; split
        · rw [Int.mul_neg, Int.mul_one, far_neg]
        · rw [Int.mul_one]
      rw [hs, ← hq]
      unfold nmag
      rw [Int.mul_add]
      congr 1; omega
    have e2 : sumTo v.length (fun i => far (nr v k i - loud v * (far (p.getD i 0) - nq v k i))) ≤ farFrom v p := by
      unfold farFrom
      apply sumTo_le
      intro i hi
      have hq := nqr (v := v) (k := k) i
      rw [hp]
      have h1 := far_far_le (k * v.getD i 0) (loud v * p.getD i 0)
      rw [far_mul hk, far_mul (by omega)] at h1
      rw [Int.mul_sub]
      rw [← hq] at h1
      rw [show nr v k i - (loud v * far (p.getD i 0) - loud v * nq v k i) = loud v * nq v k i + nr v k i - loud v * far (p.getD i 0) by omega]
      exact h1
    have e3 : sumTo v.length (fun i => far (nr v k i - loud v * one (nadd v k) i) + (loud v - 2 * t) * ((far (p.getD i 0) - nq v k i) - one (nadd v k) i)) ≤ sumTo v.length (fun i => far (nr v k i - loud v * (far (p.getD i 0) - nq v k i))) := by
      apply sumTo_le
      intro i hi
      have hb := nr_bd (k := k) hL i
      refine price hL hb.1 hb.2 ?_ (by omega) (by omega)
      by_cases hm : i ∈ nadd v k
      · right; refine ⟨by unfold one; rw [if_pos hm], ?_⟩
        have := hin i hm; omega
      · left; refine ⟨by unfold one; rw [if_neg hm], ?_⟩
        have := hout i hi hm; omega
    rw [sumTo_add, sumTo_mul] at e3
    have e4 : sumTo v.length (fun i => far (p.getD i 0) - nq v k i - one (nadd v k) i) = 0 := by
      have h1 : sumTo v.length (fun i => (far (p.getD i 0) - nq v k i - one (nadd v k) i) + nmag v k i) = sumTo v.length (fun i => far (p.getD i 0)) := by
        apply sumTo_congr; intro i _; unfold nmag; omega
      rw [sumTo_add, nmag_sum hL, ← hl, ← loud_is, hp] at h1
      rw [← hl]; omega
    rw [e4, Int.mul_zero] at e3
    rw [e1]; omega
/-! ### What is a whole row already is its own. -/
theorem loud_scale (b : Int) (hb : 0 ≤ b) : ∀ p : List Int, loud (p.map (b * ·)) = b * loud p
  | [] => by simp [loud]
  | x :: p => by simp only [List.map_cons, loud, loud_scale b hb p, far_mul hb, Int.mul_add]
theorem scale_getD (b : Int) (p : List Int) (i : Nat) : (p.map (b * ·)).getD i 0 = b * p.getD i 0 := by
  rw [List.getD_eq_getElem?_getD, List.getD_eq_getElem?_getD, List.getElem?_map]
  cases p[i]? <;> simp
theorem near_whole {p : List Int} {b : Int} (hb : 0 < b) (hk : 0 < loud p) : near (p.map (b * ·)) (loud p) = p := by
  have hL : 0 < loud (p.map (b * ·)) := by rw [loud_scale b (by omega)]; exact Int.mul_pos hb hk
  have hq : ∀ i, nq (p.map (b * ·)) (loud p) i = far (p.getD i 0) := by
    intro i
    unfold nq
    rw [scale_getD, far_mul (by omega), loud_scale b (by omega), ← Int.mul_assoc, Int.mul_comm (loud p) b]
    exact Int.mul_ediv_cancel_left _ (by have := Int.mul_pos hb hk; omega)
  have hl0 : nleft (p.map (b * ·)) (loud p) = 0 := by
    unfold nleft
    rw [sumTo_congr _ (fun i _ => hq i), List.length_map, ← loud_is]; omega
  apply ext_getD
  · rw [near_length, List.length_map]
  intro i hi
  rw [near_length, List.length_map] at hi
  rw [near_getD _ _ (by omega) i (by rw [List.length_map]; exact hi)]
  unfold nmag nadd one
  rw [hl0, hq, scale_getD]
  simp only [Int.toNat_zero, List.take_zero, List.not_mem_nil, if_false, Int.add_zero]
  unfold sgn
  rw [far_eq]
  by_cases h0 : p.getD i 0 < 0
  · have : b * p.getD i 0 < 0 := Int.mul_neg_of_pos_of_neg hb h0
    rw [if_pos h0, if_pos this]; omega
  · have : 0 ≤ b * p.getD i 0 := Int.mul_nonneg (by omega) (by omega)
    rw [if_neg h0, if_neg (by omega)]; omega
theorem farFrom_whole {p : List Int} {b : Int} (hb : 0 < b) : farFrom (p.map (b * ·)) p = 0 := by
  unfold farFrom
  rw [sumTo_congr (g := fun _ => 0), sumTo_zero]
  intro i _
  rw [scale_getD, loud_scale b (by omega)]
  have : loud p * (b * p.getD i 0) - b * loud p * p.getD i 0 = 0 := by rw [← Int.mul_assoc, Int.mul_comm (loud p) b]; omega
  rw [this]; rfl
/-- No further than one pulse each, at its loudness. -/
theorem near_far_le {v : List Int} {k : Int} (hk : 0 ≤ k) (h : k = 0 ∨ 0 < loud v) : farFrom v (near v k) ≤ loud v * v.length := by
  have hn := loud_nonneg v
  unfold farFrom
  have e : ∀ n : Nat, sumTo n (fun _ => loud v * 1) = loud v * n := by
    intro n
    rw [sumTo_mul]
    have : ∀ n : Nat, sumTo n (fun _ => 1) = n := by
      intro n; induction n with
      | zero => rfl
      | succ n ih => simp only [sumTo, ih]; omega
    rw [this]
  rw [← e]
  apply sumTo_le
  intro i hi
  rw [near_loud hk h, Int.mul_one]
  by_cases h0 : k = 0
  · subst h0
    have : (near v 0).getD i 0 = 0 := by
      unfold near; rw [if_pos rfl, List.getD_eq_getElem?_getD, List.getElem?_replicate]; split <;> rfl
    rw [this]; simp [far_zero]; omega
  · have hL : 0 < loud v := by omega
    rw [near_getD v k h0 i hi]
    have hq := nqr (v := v) (k := k) i
    have hb := nr_bd (k := k) hL i
    have h1 := one_bd (nadd v k) i
    have hf := far_eq (v.getD i 0)
    have hm : k * v.getD i 0 = (k * far (v.getD i 0)) * sgn (v.getD i 0) := by
      rw [Int.mul_assoc]; congr 1
      rw [hf]; unfold sgn; split
      · rw [Int.neg_mul_neg, Int.mul_one]
      · rw [Int.mul_one]
    rw [hm, ← Int.mul_assoc, ← Int.sub_mul, ← hq]
    unfold nmag one sgn
    rw [Int.mul_add]
    split <;> split <;> (simp only [Int.mul_neg, Int.mul_one, Int.mul_zero]; rw [far_le]; omega)
end Ph
