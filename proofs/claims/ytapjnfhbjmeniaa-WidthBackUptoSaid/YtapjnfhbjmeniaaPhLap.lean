/- Plain law: pairs, over the edges, level by level (chapters 2, 3, 4). No program in sight. -/
import Derived.Test.YtapjnfhbjmeniaaPhSound
namespace Ph

def half (n : Int) : Int := n / 2
theorem back_there (a b : Int) : (a + b) / 2 + (a - b + 1) / 2 = a := by omega
theorem there_back (s d : Int) : (s + (d + 1) / 2 + (s + (d + 1) / 2 - d)) / 2 = s := by omega

/-! ### Over the edges. -/
/-- The i-th even one. -/
def ev (l : List Int) (i : Nat) : Int := l.getD (2 * i) 0
def nxt (n i : Nat) : Nat := if i + 1 < n then i + 1 else n - 1
def dif (l : List Int) (n i : Nat) : Int := l.getD (2 * i + 1) 0 - (ev l i + ev l (nxt n i)) / 2
def stay (l : List Int) (n i : Nat) : Int := ev l i + (dif l n (i - 1) + dif l n i + 2) / 4
def evens (l : List Int) : List Int := (List.range (l.length / 2)).map (ev l)
def difs (l : List Int) : List Int := (List.range (l.length / 2)).map (dif l (l.length / 2))
def stays (l : List Int) : List Int := (List.range (l.length / 2)).map (stay l (l.length / 2))
def lapF (l : List Int) : List Int := stays l ++ difs l

def evI (m : List Int) (n i : Nat) : Int := m.getD i 0 - (m.getD (n + (i - 1)) 0 + m.getD (n + i) 0 + 2) / 4
def odI (m : List Int) (n i : Nat) : Int := m.getD (n + i) 0 + (evI m n i + evI m n (nxt n i)) / 2
def lapI (m : List Int) : List Int := (List.range (m.length / 2)).flatMap fun i => [evI m (m.length / 2) i, odI m (m.length / 2) i]

theorem getD_map_range (f : Nat → Int) (n i : Nat) (h : i < n) : ((List.range n).map f).getD i 0 = f i := by
  rw [List.getD_eq_getElem?_getD, List.getElem?_map, List.getElem?_range h]; rfl
theorem flat2_length (f : Nat → List Int) (hf : ∀ i, (f i).length = 2) (n : Nat) : ((List.range n).flatMap f).length = 2 * n := by
  induction n with
  | zero => rfl
  | succ n ih => rw [List.range_succ, List.flatMap_append, List.length_append, ih]; simp [hf]; omega
theorem lapI_length (m : List Int) : (lapI m).length = 2 * (m.length / 2) := flat2_length _ (fun _ => rfl) _
theorem lapF_length (l : List Int) (h : l.length % 2 = 0) : (lapF l).length = l.length := by simp [lapF, stays, difs]; omega
theorem flat2_getD (f g : Nat → Int) (n i : Nat) (h : i < n) :
    ((List.range n).flatMap fun i => [f i, g i]).getD (2 * i) 0 = f i ∧ ((List.range n).flatMap fun i => [f i, g i]).getD (2 * i + 1) 0 = g i := by
  induction n with
  | zero => omega
  | succ n ih =>
    have hl := flat2_length (fun i => [f i, g i]) (fun _ => rfl) n
    rw [List.range_succ, List.flatMap_append]
    rcases Nat.lt_or_ge i n with hi | hi
    · have := ih hi
      rw [getD_left _ _ _ (by omega), getD_left _ _ _ (by omega)]; exact this
    · obtain rfl : i = n := by omega
      rw [getD_right _ _ _ (by omega), getD_right _ _ _ (by omega), hl]
      simp
theorem lapF_lo (l : List Int) (i : Nat) (h : i < l.length / 2) : (lapF l).getD i 0 = stay l (l.length / 2) i := by
  unfold lapF
  rw [getD_left _ _ _ (by simp [stays]; omega)]
  exact getD_map_range _ _ _ h
theorem lapF_hi (l : List Int) (i : Nat) (h : i < l.length / 2) : (lapF l).getD (l.length / 2 + i) 0 = dif l (l.length / 2) i := by
  unfold lapF
  rw [getD_right _ _ _ (by simp [stays])]
  simp only [stays, List.length_map, List.length_range, Nat.add_sub_cancel_left]
  exact getD_map_range _ _ _ h
theorem lapI_ev (m : List Int) (i : Nat) (h : i < m.length / 2) : (lapI m).getD (2 * i) 0 = evI m (m.length / 2) i := (flat2_getD _ _ _ i h).1
theorem lapI_od (m : List Int) (i : Nat) (h : i < m.length / 2) : (lapI m).getD (2 * i + 1) 0 = odI m (m.length / 2) i := (flat2_getD _ _ _ i h).2

theorem ext_getD {a b : List Int} (hl : a.length = b.length) (h : ∀ i, i < a.length → a.getD i 0 = b.getD i 0) : a = b := by
  apply List.ext_getElem hl
  intro i h1 h2
  have := h i h1
  rw [List.getD_eq_getElem?_getD, List.getD_eq_getElem?_getD, List.getElem?_eq_getElem h1, List.getElem?_eq_getElem h2] at this
  simpa using this

theorem nxt_lt {n i : Nat} (h : i < n) : nxt n i < n := by unfold nxt; split <;> omega
/-- Back from forward. -/
theorem lapI_lapF (l : List Int) (h : l.length % 2 = 0) : lapI (lapF l) = l := by
  have hlen := lapF_length l h
  have hn : (lapF l).length / 2 = l.length / 2 := by rw [hlen]
  apply ext_getD
  · rw [lapI_length, hlen]; omega
  intro j hj
  rw [lapI_length, hn] at hj
  have he : ∀ i, i < l.length / 2 → evI (lapF l) (l.length / 2) i = ev l i := by
    intro i hi
    unfold evI
    rw [lapF_lo l i hi, lapF_hi l i hi, lapF_hi l (i - 1) (by omega)]
    unfold stay; omega
  have hi : j / 2 < l.length / 2 := by omega
  rcases Nat.mod_two_eq_zero_or_one j with h2 | h2
  · have e : j = 2 * (j / 2) := by omega
    rw [e, lapI_ev _ _ (by rw [hn]; exact hi), hn, he _ hi]
    rfl
  · have e : j = 2 * (j / 2) + 1 := by omega
    rw [e, lapI_od _ _ (by rw [hn]; exact hi), hn]
    unfold odI
    rw [he _ hi, he _ (nxt_lt hi), lapF_hi l _ hi]
    unfold dif; omega
/-- Forward from back. -/
theorem lapF_lapI (m : List Int) (h : m.length % 2 = 0) : lapF (lapI m) = m := by
  have hlen := lapI_length m
  have hn : (lapI m).length / 2 = m.length / 2 := by rw [hlen]; omega
  have hev : ∀ i, i < m.length / 2 → ev (lapI m) i = evI m (m.length / 2) i := fun i hi => lapI_ev m i hi
  have hdf : ∀ i, i < m.length / 2 → dif (lapI m) (m.length / 2) i = m.getD (m.length / 2 + i) 0 := by
    intro i hi
    unfold dif
    rw [lapI_od m i hi, hev _ hi, hev _ (nxt_lt hi)]
    unfold odI; omega
  apply ext_getD
  · rw [lapF_length _ (by rw [hlen]; omega), hlen]; omega
  intro j hj
  rw [lapF_length _ (by rw [hlen]; omega), hlen] at hj
  rcases Nat.lt_or_ge j (m.length / 2) with h1 | h1
  · rw [lapF_lo _ _ (by rw [hn]; exact h1), hn]
    unfold stay
    rw [hev _ h1, hdf _ h1, hdf _ (by omega)]
    unfold evI; omega
  · obtain ⟨i, rfl⟩ : ∃ i, j = m.length / 2 + i := ⟨j - m.length / 2, by omega⟩
    have hi : i < m.length / 2 := by omega
    have := lapF_hi (lapI m) i (by rw [hn]; exact hi)
    rw [hn] at this
    rw [this, hdf _ hi]
/-- What stays and the differences of samples are bounded. -/
theorem dif_bd {l : List Int} {M : Int} (hM : 0 ≤ M) (h : allIn l M = true) (n i : Nat) : -(2 * M) ≤ dif l n i ∧ dif l n i ≤ 2 * M := by
  have h1 := allIn_getD h hM (2 * i + 1)
  have h2 := allIn_getD h hM (2 * i)
  have h3 := allIn_getD h hM (2 * nxt n i)
  unfold dif ev; omega
theorem stay_bd {l : List Int} {M : Int} (hM : 0 ≤ M) (h : allIn l M = true) (n i : Nat) : -(2 * M + 1) ≤ stay l n i ∧ stay l n i ≤ 2 * M + 1 := by
  have h1 := dif_bd hM h n i
  have h2 := dif_bd hM h n (i - 1)
  have h3 := allIn_getD h hM (2 * i)
  unfold stay ev; omega
theorem lapF_allIn {l : List Int} (h : allIn l 1000 = true) : allIn (lapF l) 2001 = true := by
  rw [allIn_iff]
  intro x hx
  unfold lapF stays difs at hx
  rw [List.mem_append, List.mem_map, List.mem_map] at hx
  rcases hx with ⟨i, _, rfl⟩ | ⟨i, _, rfl⟩
  · have := stay_bd (by omega) h (l.length / 2) i; omega
  · have := dif_bd (by omega) h (l.length / 2) i; omega
/-- What rises evenly. -/
theorem dif_even {l : List Int} {a b : Int} (hl : ∀ i, i < l.length → l.getD i 0 = a + i * b) (h : l.length % 2 = 0) (i : Nat) (hi : i < l.length / 2) :
    dif l (l.length / 2) i = if i + 1 < l.length / 2 then 0 else b := by
  unfold dif ev nxt
  rw [hl _ (by omega), hl _ (by omega)]
  split
  · rw [hl _ (by omega)]
    have e1 : ((2 * i + 1 : Nat) : Int) * b = 2 * (i * b) + b := by
      rw [Int.natCast_add, Int.add_mul, Int.natCast_mul, Int.mul_assoc]; simp
    have e2 : ((2 * i : Nat) : Int) * b = 2 * (i * b) := by rw [Int.natCast_mul, Int.mul_assoc]; simp
    have e3 : ((2 * (i + 1) : Nat) : Int) * b = 2 * (i * b) + 2 * b := by
      rw [Int.natCast_mul, Int.mul_assoc, Int.natCast_add, Int.add_mul, Int.mul_add]; simp
    rw [e1, e2, e3]; omega
  · rw [hl _ (by omega)]
    have e0 : l.length / 2 - 1 = i := by omega
    rw [e0]
    have e1 : ((2 * i + 1 : Nat) : Int) * b = 2 * (i * b) + b := by
      rw [Int.natCast_add, Int.add_mul, Int.natCast_mul, Int.mul_assoc]; simp
    have e2 : ((2 * i : Nat) : Int) * b = 2 * (i * b) := by rw [Int.natCast_mul, Int.mul_assoc]; simp
    rw [e1, e2]; omega

def lapErr (l : List Int) (most : Int) : Int := if 32 < l.length then 4 else if l.length % 2 ≠ 0 then 3 else if allIn l most = true then 0 else 1
theorem lapErr_zero {l : List Int} {most : Int} : lapErr l most = 0 ↔ l.length ≤ 32 ∧ l.length % 2 = 0 ∧ allIn l most = true := by
  unfold lapErr; split
  · simp; omega
  · split
    · constructor
      · intro h; omega
      · intro h; omega
    · split
      · simp_all
      · simp_all

/-! ### Level by level. -/
def sums : List Int → List Int
  | a :: b :: l => (a + b) / 2 :: sums l
  | _ => []
def rests : List Int → List Int
  | a :: b :: l => (a - b) :: rests l
  | _ => []
def merge : List Int → List Int → List Int
  | s :: ss, d :: ds => (s + (d + 1) / 2) :: (s + (d + 1) / 2 - d) :: merge ss ds
  | _, _ => []
def treeF : Nat → List Int → List Int
  | 0, l => l
  | k + 1, l => treeF k (sums l) ++ rests l
theorem sums_length : ∀ l : List Int, (sums l).length = l.length / 2
  | a :: b :: l => by simp only [sums, List.length_cons, sums_length l]; omega
  | [] => rfl
  | [_] => by simp [sums]
theorem rests_length : ∀ l : List Int, (rests l).length = l.length / 2
  | a :: b :: l => by simp only [rests, List.length_cons, rests_length l]; omega
  | [] => rfl
  | [_] => by simp [rests]
theorem merge_length : ∀ s d : List Int, s.length = d.length → (merge s d).length = 2 * d.length
  | s :: ss, d :: ds, h => by
    have := merge_length ss ds (by simpa using h)
    simp only [merge, List.length_cons, this]; omega
  | [], [], _ => rfl
  | [], _ :: _, h => by simp at h
  | _ :: _, [], h => by simp at h
theorem merge_there : ∀ l : List Int, l.length % 2 = 0 → merge (sums l) (rests l) = l
  | a :: b :: l, h => by
    have := merge_there l (by simp at h; omega)
    simp only [sums, rests, merge, this]
    have e : (a + b) / 2 + (a - b + 1) / 2 = a := by omega
    rw [e]
    have e2 : a - (a - b) = b := by omega
    rw [e2]
  | [], _ => rfl
  | [_], h => by simp at h
theorem sums_merge : ∀ s d : List Int, s.length = d.length → sums (merge s d) = s
  | s :: ss, d :: ds, h => by
    have := sums_merge ss ds (by simpa using h)
    simp only [merge, sums, this]
    have e : (s + (d + 1) / 2 + (s + (d + 1) / 2 - d)) / 2 = s := by omega
    rw [e]
  | [], [], _ => rfl
  | [], _ :: _, h => by simp at h
  | _ :: _, [], h => by simp at h
theorem rests_merge : ∀ s d : List Int, s.length = d.length → rests (merge s d) = d
  | s :: ss, d :: ds, h => by
    have := rests_merge ss ds (by simpa using h)
    simp only [merge, rests, this]
    have e : s + (d + 1) / 2 - (s + (d + 1) / 2 - d) = d := by omega
    rw [e]
  | [], [], _ => rfl
  | [], _ :: _, h => by simp at h
  | _ :: _, [], h => by simp at h
theorem treeF_length : ∀ (k : Nat) (l : List Int), l.length % 2 ^ k = 0 → (treeF k l).length = l.length
  | 0, _, _ => rfl
  | k + 1, l, h => by
    have h2 : l.length % 2 = 0 := by
      have := Nat.mod_mod_of_dvd l.length (show 2 ∣ 2 ^ (k + 1) from ⟨2 ^ k, by rw [Nat.pow_succ]; omega⟩)
      rw [h] at this; omega
    have h3 : (sums l).length % 2 ^ k = 0 := by
      rw [sums_length]
      have e : l.length = 2 * (l.length / 2) := by omega
      rw [e, Nat.pow_succ, Nat.mul_comm (2 ^ k) 2, Nat.mul_mod_mul_left] at h
      omega
    simp only [treeF, List.length_append, treeF_length k _ h3, sums_length, rests_length]; omega
/-- Back: none where on the way a number would be too great. -/
def treeI : Nat → List Int → Option (List Int)
  | 0, l => some l
  | k + 1, l =>
    match treeI k (l.take (l.length / 2)) with
    | none => none
    | some s => if allIn (merge s (l.drop (l.length / 2))) 4000 = true then some (merge s (l.drop (l.length / 2))) else none
theorem sums_allIn {M : Int} (hM : 0 ≤ M) : ∀ l : List Int, allIn l M = true → allIn (sums l) M = true
  | a :: b :: l, h => by
    rw [allIn_cons, allIn_cons, Bool.and_eq_true, Bool.and_eq_true, within_iff, within_iff] at h
    simp only [sums, allIn_cons, Bool.and_eq_true, within_iff]
    exact ⟨by omega, sums_allIn hM l h.2.2⟩
  | [], _ => rfl
  | [_], _ => rfl
theorem rests_allIn {M : Int} : ∀ l : List Int, allIn l M = true → allIn (rests l) (2 * M) = true
  | a :: b :: l, h => by
    rw [allIn_cons, allIn_cons, Bool.and_eq_true, Bool.and_eq_true, within_iff, within_iff] at h
    simp only [rests, allIn_cons, Bool.and_eq_true, within_iff]
    exact ⟨by omega, rests_allIn l h.2.2⟩
  | [], _ => rfl
  | [_], _ => rfl
theorem treeF_allIn {M : Int} (hM : 0 ≤ M) : ∀ (k : Nat) (l : List Int), allIn l M = true → allIn (treeF k l) (2 * M) = true
  | 0, l, h => allIn_mono h (by omega)
  | k + 1, l, h => by
    simp only [treeF, allIn_append, Bool.and_eq_true]
    exact ⟨treeF_allIn hM k _ (sums_allIn hM l h), rests_allIn l h⟩
theorem mod_two_of {n k : Nat} (h : n % 2 ^ (k + 1) = 0) : n % 2 = 0 ∧ n / 2 % 2 ^ k = 0 := by
  have h2 : n % 2 = 0 := by
    have := Nat.mod_mod_of_dvd n (show 2 ∣ 2 ^ (k + 1) from ⟨2 ^ k, by rw [Nat.pow_succ]; omega⟩)
    rw [h] at this; omega
  refine ⟨h2, ?_⟩
  have e : n = 2 * (n / 2) := by omega
  rw [e, Nat.pow_succ, Nat.mul_comm (2 ^ k) 2, Nat.mul_mod_mul_left] at h
  omega
/-- Nothing is lost, back from forward. -/
theorem treeI_treeF : ∀ (k : Nat) (l : List Int), l.length % 2 ^ k = 0 → allIn l 1000 = true → treeI k (treeF k l) = some l
  | 0, _, _, _ => rfl
  | k + 1, l, h, hb => by
    obtain ⟨h2, h3⟩ := mod_two_of h
    have hlen := treeF_length (k + 1) l h
    have hsl : (sums l).length % 2 ^ k = 0 := by rw [sums_length]; exact h3
    have hs := treeF_length k (sums l) hsl
    have e1 : (treeF (k + 1) l).take ((treeF (k + 1) l).length / 2) = treeF k (sums l) := by
      rw [hlen]; simp only [treeF]
      rw [List.take_append_of_le_length (by rw [hs, sums_length]; omega), List.take_of_length_le (by rw [hs, sums_length]; omega)]
    have e2 : (treeF (k + 1) l).drop ((treeF (k + 1) l).length / 2) = rests l := by
      rw [hlen]; simp only [treeF]
      rw [List.drop_append_of_le_length (by rw [hs, sums_length]; omega), List.drop_of_length_le (by rw [hs, sums_length]; omega), List.nil_append]
    unfold treeI
    rw [e1, e2, treeI_treeF k _ hsl (sums_allIn (by omega) l hb)]
    simp only [merge_there l h2]
    rw [if_pos (allIn_mono hb (by omega))]
theorem treeI_length : ∀ (k : Nat) (m l : List Int), m.length % 2 ^ k = 0 → treeI k m = some l → l.length = m.length
  | 0, m, l, _, h => by simp only [treeI, Option.some.injEq] at h; rw [h]
  | k + 1, m, l, h, hx => by
    obtain ⟨h2, h3⟩ := mod_two_of h
    unfold treeI at hx
    cases hc : treeI k (m.take (m.length / 2)) with
    | none => rw [hc] at hx; simp at hx
    | some s =>
      rw [hc] at hx
      have hl := treeI_length k _ s (by rw [List.length_take, Nat.min_eq_left (by omega)]; exact h3) hc
      rw [List.length_take, Nat.min_eq_left (by omega)] at hl
      dsimp only at hx
      split at hx
      · simp only [Option.some.injEq] at hx
        rw [← hx, merge_length _ _ (by rw [hl, List.length_drop]; omega), List.length_drop]; omega
      · simp at hx
/-- Nothing is lost, forward from back. -/
theorem treeF_treeI : ∀ (k : Nat) (m l : List Int), m.length % 2 ^ k = 0 → treeI k m = some l → treeF k l = m
  | 0, m, l, _, h => by simp only [treeI, Option.some.injEq] at h; simp [treeF, h]
  | k + 1, m, l, h, hx => by
    obtain ⟨h2, h3⟩ := mod_two_of h
    unfold treeI at hx
    cases hc : treeI k (m.take (m.length / 2)) with
    | none => rw [hc] at hx; simp at hx
    | some s =>
      rw [hc] at hx
      have hm : (m.take (m.length / 2)).length % 2 ^ k = 0 := by rw [List.length_take, Nat.min_eq_left (by omega)]; exact h3
      have hl := treeI_length k _ s hm hc
      rw [List.length_take, Nat.min_eq_left (by omega)] at hl
      dsimp only at hx
      split at hx
      · simp only [Option.some.injEq] at hx
        have he : s.length = (m.drop (m.length / 2)).length := by rw [hl, List.length_drop]; omega
        rw [← hx]
        simp only [treeF, sums_merge _ _ he, rests_merge _ _ he, treeF_treeI k _ s hm hc, List.take_append_drop]
      · simp at hx
theorem sums_alike (x : Int) : ∀ n : Nat, sums (List.replicate n x) = List.replicate (n / 2) x
  | 0 => rfl
  | 1 => rfl
  | n + 2 => by
    have := sums_alike x n
    rw [List.replicate_succ, List.replicate_succ, show (n + 2) / 2 = n / 2 + 1 by omega, List.replicate_succ]
    simp only [sums, this]
    rw [show (x + x) / 2 = x by omega]
theorem rests_alike (x : Int) : ∀ n : Nat, rests (List.replicate n x) = List.replicate (n / 2) 0
  | 0 => rfl
  | 1 => rfl
  | n + 2 => by
    have := rests_alike x n
    rw [List.replicate_succ, List.replicate_succ, show (n + 2) / 2 = n / 2 + 1 by omega, List.replicate_succ]
    simp only [rests, this, Int.sub_self]
theorem treeF_alike (x : Int) : ∀ (k n : Nat), n % 2 ^ k = 0 → treeF k (List.replicate n x) = List.replicate (n / 2 ^ k) x ++ List.replicate (n - n / 2 ^ k) 0
  | 0, n, _ => by simp [treeF]
  | k + 1, n, h => by
    obtain ⟨h2, h3⟩ := mod_two_of h
    simp only [treeF, sums_alike, rests_alike]
    rw [treeF_alike x k (n / 2) h3, List.append_assoc, List.replicate_append_replicate, Nat.div_div_eq_div_mul, Nat.pow_succ, Nat.mul_comm 2]
    have : n / (2 ^ k * 2) ≤ n / 2 := by rw [Nat.mul_comm, ← Nat.div_div_eq_div_mul]; exact Nat.div_le_self _ _
    rw [show n / 2 - n / (2 ^ k * 2) + n / 2 = n - n / (2 ^ k * 2) by omega]
end Ph
