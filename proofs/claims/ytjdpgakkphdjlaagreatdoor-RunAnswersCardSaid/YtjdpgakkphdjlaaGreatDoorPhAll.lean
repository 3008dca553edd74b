/- Plain law: samples, pairs (chapters 1, 2). No program in sight. -/

namespace Ph

/-- How far a number is from 0. -/
def far (n : Int) : Int := if n < -n then -n else n
theorem far_eq (n : Int) : far n = if n < 0 then -n else n := by unfold far; split <;> split <;> omega
theorem far_nonneg (n : Int) : 0 ≤ far n := by rw [far_eq]; split <;> omega
theorem far_zero : far 0 = 0 := rfl
theorem far_eq_zero {n : Int} (h : far n = 0) : n = 0 := by rw [far_eq] at h; split at h <;> omega
theorem far_le {n m : Int} : far n ≤ m ↔ -m ≤ n ∧ n ≤ m := by rw [far_eq]; split <;> omega
theorem far_neg (n : Int) : far (-n) = far n := by rw [far_eq, far_eq]; split <;> split <;> omega
theorem far_sub_comm (a b : Int) : far (a - b) = far (b - a) := by rw [far_eq, far_eq]; split <;> split <;> omega
theorem far_tri (a b c : Int) : far (a - b) ≤ far (a - c) + far (c - b) := by
  rw [far_eq, far_eq, far_eq]; split <;> split <;> split <;> omega
theorem far_add_le (a b : Int) : far (a + b) ≤ far a + far b := by
  rw [far_eq, far_eq, far_eq]; split <;> split <;> split <;> omega

def within (n most : Int) : Bool := decide (-most ≤ n) && decide (n ≤ most)
theorem within_iff {n most : Int} : within n most = true ↔ -most ≤ n ∧ n ≤ most := by simp [within]
theorem within_false {n most : Int} : within n most = false ↔ n < -most ∨ most < n := by
  rw [← Bool.not_eq_true, within_iff]; omega

def allIn (l : List Int) (most : Int) : Bool := l.all (fun x => within x most)
theorem allIn_iff {l : List Int} {most : Int} : allIn l most = true ↔ ∀ x ∈ l, -most ≤ x ∧ x ≤ most := by
  simp [allIn, within_iff]
theorem allIn_nil (most : Int) : allIn [] most = true := rfl
theorem allIn_cons (x : Int) (l : List Int) (most : Int) : allIn (x :: l) most = (within x most && allIn l most) := rfl
theorem allIn_append (a b : List Int) (most : Int) : allIn (a ++ b) most = (allIn a most && allIn b most) := by simp [allIn]
theorem allIn_mono {l : List Int} {m m' : Int} (h : allIn l m = true) (hm : m ≤ m') : allIn l m' = true := by
  rw [allIn_iff] at *; intro x hx; have := h x hx; omega
theorem allIn_getD {l : List Int} {m : Int} (h : allIn l m = true) (hm : 0 ≤ m) (i : Nat) : -m ≤ l.getD i 0 ∧ l.getD i 0 ≤ m := by
  rw [allIn_iff] at h
  rw [List.getD_eq_getElem?_getD]
  rcases Nat.lt_or_ge i l.length with hi | hi
  · rw [List.getElem?_eq_getElem hi]; exact h _ (List.getElem_mem hi)
  · rw [List.getElem?_eq_none hi]; simp; omega

theorem getD_mem {l : List Int} {i : Nat} (h : i < l.length) : l.getD i 0 ∈ l := by
  rw [List.getD_eq_getElem?_getD, List.getElem?_eq_getElem h]; exact List.getElem_mem h
theorem getD_take (l : List Int) (i k : Nat) (h : i < k) : (l.take k).getD i 0 = l.getD i 0 := by
  rw [List.getD_eq_getElem?_getD, List.getD_eq_getElem?_getD, List.getElem?_take]; simp [h]
theorem take_snoc (l : List Int) (k : Nat) (h : k < l.length) : l.take (k + 1) = l.take k ++ [l.getD k 0] := by
  rw [List.take_succ_eq_append_getElem h, List.getD_eq_getElem?_getD, List.getElem?_eq_getElem h]; rfl

theorem getD_left (a b : List Int) (i : Nat) (h : i < a.length) : (a ++ b).getD i 0 = a.getD i 0 := by
  rw [List.getD_eq_getElem?_getD, List.getD_eq_getElem?_getD, List.getElem?_append_left h]
theorem getD_right (a b : List Int) (i : Nat) (h : a.length ≤ i) : (a ++ b).getD i 0 = b.getD (i - a.length) 0 := by
  rw [List.getD_eq_getElem?_getD, List.getD_eq_getElem?_getD, List.getElem?_append_right h]
/-- A list that is filled from the front. -/
theorem set_fill (p : List Int) (n : Nat) (x : Int) (h : p.length < n) : (p ++ List.replicate (n - p.length) 0).set p.length x = (p ++ [x]) ++ List.replicate (n - (p.length + 1)) 0 := by
  obtain ⟨m, hm⟩ : ∃ m, n - p.length = m + 1 := ⟨n - p.length - 1, by omega⟩
  rw [hm, List.set_append_right _ _ (Nat.le_refl _), Nat.sub_self, List.replicate_succ, List.set_cons_zero, show n - (p.length + 1) = m by omega, List.append_assoc]; rfl
/-- Sum of how far all are from 0. -/
def loud : List Int → Int
  | [] => 0
  | x :: l => far x + loud l
theorem loud_append (a b : List Int) : loud (a ++ b) = loud a + loud b := by
  induction a with
  | nil => simp [loud]
  | cons x a ih => simp [loud, ih]; omega
theorem loud_snoc (a : List Int) (x : Int) : loud (a ++ [x]) = loud a + far x := by simp [loud_append, loud]
theorem loud_nonneg (l : List Int) : 0 ≤ loud l := by
  induction l with
  | nil => simp [loud]
  | cons x l ih => have := far_nonneg x; simp [loud]; omega
theorem loud_le {l : List Int} {m : Int} (h : allIn l m = true) : loud l ≤ l.length * m := by
  induction l with
  | nil => simp [loud]
  | cons x l ih =>
    rw [allIn_cons, Bool.and_eq_true, within_iff] at h
    have h1 := ih h.2
    have h2 : far x ≤ m := far_le.2 h.1
    have e : ((x :: l).length : Int) * m = l.length * m + m := by
      rw [List.length_cons, Int.natCast_add, Int.add_mul]; simp
    rw [e]; simp only [loud]; omega
theorem loud_take_le (l : List Int) (k : Nat) : loud (l.take k) ≤ loud l := by
  have h := loud_append (l.take k) (l.drop k)
  rw [List.take_append_drop] at h
  have := loud_nonneg (l.drop k); omega
theorem loud_replicate_zero (n : Nat) : loud (List.replicate n 0) = 0 := by
  induction n with
  | zero => rfl
  | succ n ih => rw [List.replicate_succ]; simp only [loud, ih]; rfl
theorem loud_eq_zero {l : List Int} (h : loud l = 0) : ∀ x ∈ l, x = 0 := by
  induction l with
  | nil => simp
  | cons x l ih =>
    simp only [loud] at h
    have h1 := far_nonneg x
    have h2 := loud_nonneg l
    intro y hy
    rcases List.mem_cons.1 hy with rfl | hy
    · exact far_eq_zero (by omega)
    · exact ih (by omega) y hy

def energy : List Int → Int
  | [] => 0
  | x :: l => x * x + energy l
theorem energy_append (a b : List Int) : energy (a ++ b) = energy a + energy b := by
  induction a with
  | nil => simp [energy]
  | cons x a ih => simp [energy, ih]; omega
theorem energy_snoc (a : List Int) (x : Int) : energy (a ++ [x]) = energy a + x * x := by simp [energy_append, energy]
theorem sq_nonneg (x : Int) : 0 ≤ x * x := by
  rcases Int.le_total 0 x with h | h
  · exact Int.mul_nonneg h h
  · exact Int.mul_nonneg_of_nonpos_of_nonpos h h
theorem energy_nonneg (l : List Int) : 0 ≤ energy l := by
  induction l with
  | nil => simp [energy]
  | cons x l ih => have := sq_nonneg x; simp [energy]; omega
theorem sq_le {x m : Int} (h1 : -m ≤ x) (h2 : x ≤ m) : x * x ≤ m * m := by
  rcases Int.le_total 0 x with h | h
  · exact Int.mul_le_mul h2 h2 h (by omega)
  · rw [← Int.neg_mul_neg]
    exact Int.mul_le_mul (by omega) (by omega) (by omega) (by omega)
theorem energy_le {l : List Int} {m : Int} (h : allIn l m = true) : energy l ≤ l.length * (m * m) := by
  induction l with
  | nil => simp [energy]
  | cons x l ih =>
    rw [allIn_cons, Bool.and_eq_true, within_iff] at h
    have h1 := ih h.2
    have h2 := sq_le h.1.1 h.1.2
    have e : ((x :: l).length : Int) * (m * m) = l.length * (m * m) + m * m := by
      rw [List.length_cons, Int.natCast_add, Int.add_mul]; simp
    rw [e]; simp only [energy]; omega
theorem sq_far (x : Int) : x * x = far x * far x := by
  rw [far_eq]; split
  · rw [Int.neg_mul_neg]
  · rfl
/-- No energy is above the square of the loudness. -/
theorem energy_le_loud (l : List Int) : energy l ≤ loud l * loud l := by
  induction l with
  | nil => simp [energy, loud]
  | cons x l ih =>
    simp only [energy, loud]
    have h1 := far_nonneg x
    have h2 := loud_nonneg l
    have h3 : 0 ≤ far x * loud l := Int.mul_nonneg h1 h2
    have e : (far x + loud l) * (far x + loud l) = far x * far x + far x * loud l + far x * loud l + loud l * loud l := by
      rw [Int.add_mul, Int.mul_add, Int.mul_add, Int.mul_comm (loud l) (far x)]; omega
    rw [e, sq_far]; omega
theorem two_mul_le (a b : Int) : 2 * (a * b) ≤ a * a + b * b := by
  have h := sq_nonneg (a - b)
  have e : (a - b) * (a - b) = a * a + b * b - 2 * (a * b) := by
    rw [Int.sub_mul, Int.mul_sub, Int.mul_sub, Int.mul_comm b a]; omega
  omega
/-- For one number beside others: twice it times their loudness. -/
theorem cross_le (a : Int) (l : List Int) : 2 * (a * loud l) ≤ l.length * (a * a) + energy l := by
  induction l with
  | nil => simp [energy, loud]
  | cons x l ih =>
    simp only [energy, loud, List.length_cons]
    have h := two_mul_le a (far x)
    rw [← sq_far] at h
    have e1 : a * (far x + loud l) = a * far x + a * loud l := Int.mul_add _ _ _
    have e2 : ((l.length + 1 : Nat) : Int) * (a * a) = l.length * (a * a) + a * a := by
      rw [Int.natCast_add, Int.add_mul]; simp
    rw [e1, e2]; omega
/-- Nor is it below it by as many (Cauchy). -/
theorem loud_sq_le (l : List Int) : loud l * loud l ≤ energy l * l.length := by
  induction l with
  | nil => simp [energy, loud]
  | cons x l ih =>
    simp only [energy, loud, List.length_cons]
    have h := cross_le (far x) l
    rw [← sq_far] at h
    have e1 : (far x + loud l) * (far x + loud l) = x * x + 2 * (far x * loud l) + loud l * loud l := by
      rw [Int.add_mul, Int.mul_add, Int.mul_add, Int.mul_comm (loud l) (far x), sq_far x]; omega
    have e2 : (x * x + energy l) * ((l.length + 1 : Nat) : Int) = l.length * (x * x) + x * x + (energy l * l.length + energy l) := by
      rw [Int.natCast_add, Int.mul_add, Int.add_mul, Int.mul_comm (x * x)]; simp; omega
    rw [e1, e2]; omega

/-- The fault of samples. -/
def soundErr (l : List Int) : Int := if 32 < l.length then 4 else if allIn l 1000 = true then 0 else 1
theorem soundErr_zero {l : List Int} : soundErr l = 0 ↔ l.length ≤ 32 ∧ allIn l 1000 = true := by
  unfold soundErr; split
  · simp; omega
  · split <;> simp_all
/-- The fault of two. -/
def twoErr (a b : List Int) : Int := if soundErr a ≠ 0 then soundErr a else if soundErr b ≠ 0 then soundErr b else if a.length ≠ b.length then 3 else 0
theorem twoErr_zero {a b : List Int} : twoErr a b = 0 ↔ soundErr a = 0 ∧ soundErr b = 0 ∧ a.length = b.length := by
  unfold twoErr; split
  · simp_all
  · split
    · simp_all
    · split <;> simp_all

def apart : List Int → List Int → Int
  | x :: a, y :: b => let r := apart a b; if far (x - y) < r then r else far (x - y)
  | _, _ => 0
def clip (x : Int) : Int := if x < -1000 then -1000 else if 1000 < x then 1000 else x
def mix (a b : List Int) : List Int := List.zipWith (fun x y => clip (x + y)) a b
theorem mix_comm (a b : List Int) : mix a b = mix b a := by
  unfold mix
  rw [List.zipWith_comm]
  congr 1; funext x y; rw [Int.add_comm]
theorem mix_length {a b : List Int} (h : a.length = b.length) : (mix a b).length = a.length := by simp [mix, h]
theorem clip_eq (x : Int) : clip x = if x < -1000 then -1000 else if 1000 < x then 1000 else x := rfl
theorem clip_bd (x : Int) : -1000 ≤ clip x ∧ clip x ≤ 1000 := by
  unfold clip; split
  · omega
  · split <;> omega
theorem clip_self {x : Int} (h : -1000 ≤ x ∧ x ≤ 1000) : clip x = x := by
  unfold clip; rw [if_neg (by omega), if_neg (by omega)]
theorem mix_allIn (a b : List Int) : allIn (mix a b) 1000 = true := by
  rw [allIn_iff]
  unfold mix
  induction a generalizing b with
  | nil => simp
  | cons x a ih =>
    cases b with
    | nil => simp
    | cons y b =>
      intro z hz
      rw [List.zipWith_cons_cons] at hz
      rcases List.mem_cons.1 hz with rfl | hz
      · exact clip_bd _
      · exact ih b z hz
theorem apart_nonneg (a b : List Int) : 0 ≤ apart a b := by
  induction a generalizing b with
  | nil => simp [apart]
  | cons x a ih =>
    cases b with
    | nil => simp [apart]
    | cons y b => have := ih b; have := far_nonneg (x - y); simp only [apart]; split <;> omega
theorem apart_snoc : ∀ (a b : List Int) (x y : Int), a.length = b.length → apart (a ++ [x]) (b ++ [y]) = if apart a b < far (x - y) then far (x - y) else apart a b
  | [], [], x, y, _ => by
    have := far_nonneg (x - y)
    show (if far (x - y) < apart [] [] then apart [] [] else far (x - y)) = _
    have e : apart [] [] = 0 := rfl
    rw [e]; split <;> split <;> omega
  | [], _ :: _, _, _, h => by simp at h
  | _ :: _, [], _, _, h => by simp at h
  | p :: a, q :: b, x, y, h => by
    have ih := apart_snoc a b x y (by simpa using h)
    simp only [List.cons_append, apart, ih]
    repeat' split
    all_goals omega
theorem apart_take (a b : List Int) (k : Nat) (h1 : k < a.length) (h2 : k < b.length) :
    apart (a.take (k + 1)) (b.take (k + 1)) = if apart (a.take k) (b.take k) < far (a.getD k 0 - b.getD k 0) then far (a.getD k 0 - b.getD k 0) else apart (a.take k) (b.take k) := by
  rw [take_snoc a k h1, take_snoc b k h2, apart_snoc _ _ _ _ (by rw [List.length_take, List.length_take]; omega)]
theorem mix_take (a b : List Int) (k : Nat) (h1 : k < a.length) (h2 : k < b.length) : mix (a.take (k + 1)) (b.take (k + 1)) = mix (a.take k) (b.take k) ++ [clip (a.getD k 0 + b.getD k 0)] := by
  unfold mix
  rw [take_snoc a k h1, take_snoc b k h2, List.zipWith_append (by rw [List.length_take, List.length_take]; omega)]; rfl
theorem apart_self (a : List Int) : apart a a = 0 := by
  induction a with
  | nil => rfl
  | cons x a ih => simp only [apart, ih, Int.sub_self]; rfl
theorem apart_eq_zero {a b : List Int} (h : a.length = b.length) : apart a b = 0 ↔ a = b := by
  refine ⟨fun h0 => ?_, fun e => by rw [e]; exact apart_self b⟩
  induction a generalizing b with
  | nil => cases b <;> simp_all
  | cons x a ih =>
    cases b with
    | nil => simp at h
    | cons y b =>
      simp only [apart] at h0
      have h1 := apart_nonneg a b
      have h2 := far_nonneg (x - y)
      have h3 : far (x - y) = 0 := by split at h0 <;> omega
      have h4 : apart a b = 0 := by split at h0 <;> omega
      have h5 := far_eq_zero h3
      rw [ih (by simpa using h) h4, show x = y by omega]
theorem apart_tri (a b c : List Int) (h1 : a.length = c.length) (h2 : c.length = b.length) : apart a b ≤ apart a c + apart c b := by
  induction a generalizing b c with
  | nil => cases c <;> cases b <;> simp_all [apart]
  | cons x a ih =>
    cases c with
    | nil => simp at h1
    | cons z c =>
      cases b with
      | nil => simp at h2
      | cons y b =>
        have h := ih b c (by simpa using h1) (by simpa using h2)
        have h3 := far_tri x y z
        simp only [apart]
        split <;> split <;> split <;> omega
theorem apart_le {a b : List Int} (ha : allIn a 1000 = true) (hb : allIn b 1000 = true) : apart a b ≤ 2000 := by
  induction a generalizing b with
  | nil => simp [apart]
  | cons x a ih =>
    cases b with
    | nil => simp [apart]
    | cons y b =>
      rw [allIn_cons, Bool.and_eq_true, within_iff] at ha hb
      have h := ih ha.2 hb.2
      have : far (x - y) ≤ 2000 := far_le.2 (by omega)
      simp only [apart]; split <;> omega
theorem mix_zero {a : List Int} (h : allIn a 1000 = true) : mix a (List.replicate a.length 0) = a := by
  induction a with
  | nil => rfl
  | cons x a ih =>
    rw [allIn_cons, Bool.and_eq_true, within_iff] at h
    have := ih h.2
    unfold mix at *
    rw [List.length_cons, List.replicate_succ, List.zipWith_cons_cons, this]
    rw [Int.add_zero, clip_self h.1]
end Ph
/- Plain law: pairs, over the edges, level by level (chapters 2, 3, 4). No program in sight. -/
namespace Ph

def half (n : Int) : Int := n / 2
theorem back_there (a b : Int) : (a + b) / 2 + (a - b + 1) / 2 = a := by omega
theorem there_back (s d : Int) : (s + (d + 1) / 2 + (s + (d + 1) / 2 - d)) / 2 = s := by omega

/-! ### Over the edges. -/
/-- The i-th even one. -/
def ev (l : List Int) (i : Nat) : Int := l.getD (2 * i) 0
def nxt (n i : Nat) : Nat := if i + 1 < n then i + 1 else n - 1
def dif (l : List Int) (n i : Nat) : Int := l.getD (2 * i + 1) 0 - (ev l i + ev l (nxt n i)) / 2
def stay (l : List Int) (n i : Nat) : Int := ev l i + (dif l n (i - 1) + dif l n i + 2) / 4
def evens (l : List Int) : List Int := (List.range (l.length / 2)).map (ev l)
def difs (l : List Int) : List Int := (List.range (l.length / 2)).map (dif l (l.length / 2))
def stays (l : List Int) : List Int := (List.range (l.length / 2)).map (stay l (l.length / 2))
def lapF (l : List Int) : List Int := stays l ++ difs l

def evI (m : List Int) (n i : Nat) : Int := m.getD i 0 - (m.getD (n + (i - 1)) 0 + m.getD (n + i) 0 + 2) / 4
def odI (m : List Int) (n i : Nat) : Int := m.getD (n + i) 0 + (evI m n i + evI m n (nxt n i)) / 2
def lapI (m : List Int) : List Int := (List.range (m.length / 2)).flatMap fun i => [evI m (m.length / 2) i, odI m (m.length / 2) i]

theorem getD_map_range (f : Nat → Int) (n i : Nat) (h : i < n) : ((List.range n).map f).getD i 0 = f i := by
  rw [List.getD_eq_getElem?_getD, List.getElem?_map, List.getElem?_range h]; rfl
theorem flat2_length (f : Nat → List Int) (hf : ∀ i, (f i).length = 2) (n : Nat) : ((List.range n).flatMap f).length = 2 * n := by
  induction n with
  | zero => rfl
  | succ n ih => rw [List.range_succ, List.flatMap_append, List.length_append, ih]; simp [hf]; omega
theorem lapI_length (m : List Int) : (lapI m).length = 2 * (m.length / 2) := flat2_length _ (fun _ => rfl) _
theorem lapF_length (l : List Int) (h : l.length % 2 = 0) : (lapF l).length = l.length := by simp [lapF, stays, difs]; omega
theorem flat2_getD (f g : Nat → Int) (n i : Nat) (h : i < n) :
    ((List.range n).flatMap fun i => [f i, g i]).getD (2 * i) 0 = f i ∧ ((List.range n).flatMap fun i => [f i, g i]).getD (2 * i + 1) 0 = g i := by
  induction n with
  | zero => omega
  | succ n ih =>
    have hl := flat2_length (fun i => [f i, g i]) (fun _ => rfl) n
    rw [List.range_succ, List.flatMap_append]
    rcases Nat.lt_or_ge i n with hi | hi
    · have := ih hi
      rw [getD_left _ _ _ (by omega), getD_left _ _ _ (by omega)]; exact this
    · obtain rfl : i = n := by omega
      rw [getD_right _ _ _ (by omega), getD_right _ _ _ (by omega), hl]
      simp
theorem lapF_lo (l : List Int) (i : Nat) (h : i < l.length / 2) : (lapF l).getD i 0 = stay l (l.length / 2) i := by
  unfold lapF
  rw [getD_left _ _ _ (by simp [stays]; omega)]
  exact getD_map_range _ _ _ h
theorem lapF_hi (l : List Int) (i : Nat) (h : i < l.length / 2) : (lapF l).getD (l.length / 2 + i) 0 = dif l (l.length / 2) i := by
  unfold lapF
  rw [getD_right _ _ _ (by simp [stays])]
  simp only [stays, List.length_map, List.length_range, Nat.add_sub_cancel_left]
  exact getD_map_range _ _ _ h
theorem lapI_ev (m : List Int) (i : Nat) (h : i < m.length / 2) : (lapI m).getD (2 * i) 0 = evI m (m.length / 2) i := (flat2_getD _ _ _ i h).1
theorem lapI_od (m : List Int) (i : Nat) (h : i < m.length / 2) : (lapI m).getD (2 * i + 1) 0 = odI m (m.length / 2) i := (flat2_getD _ _ _ i h).2

theorem ext_getD {a b : List Int} (hl : a.length = b.length) (h : ∀ i, i < a.length → a.getD i 0 = b.getD i 0) : a = b := by
  apply List.ext_getElem hl
  intro i h1 h2
  have := h i h1
  rw [List.getD_eq_getElem?_getD, List.getD_eq_getElem?_getD, List.getElem?_eq_getElem h1, List.getElem?_eq_getElem h2] at this
  simpa using this

theorem nxt_lt {n i : Nat} (h : i < n) : nxt n i < n := by unfold nxt; split <;> omega
/-- Back from forward. -/
theorem lapI_lapF (l : List Int) (h : l.length % 2 = 0) : lapI (lapF l) = l := by
  have hlen := lapF_length l h
  have hn : (lapF l).length / 2 = l.length / 2 := by rw [hlen]
  apply ext_getD
  · rw [lapI_length, hlen]; omega
  intro j hj
  rw [lapI_length, hn] at hj
  have he : ∀ i, i < l.length / 2 → evI (lapF l) (l.length / 2) i = ev l i := by
    intro i hi
    unfold evI
    rw [lapF_lo l i hi, lapF_hi l i hi, lapF_hi l (i - 1) (by omega)]
    unfold stay; omega
  have hi : j / 2 < l.length / 2 := by omega
  rcases Nat.mod_two_eq_zero_or_one j with h2 | h2
  · have e : j = 2 * (j / 2) := by omega
    rw [e, lapI_ev _ _ (by rw [hn]; exact hi), hn, he _ hi]
    rfl
  · have e : j = 2 * (j / 2) + 1 := by omega
    rw [e, lapI_od _ _ (by rw [hn]; exact hi), hn]
    unfold odI
    rw [he _ hi, he _ (nxt_lt hi), lapF_hi l _ hi]
    unfold dif; omega
/-- Forward from back. -/
theorem lapF_lapI (m : List Int) (h : m.length % 2 = 0) : lapF (lapI m) = m := by
  have hlen := lapI_length m
  have hn : (lapI m).length / 2 = m.length / 2 := by rw [hlen]; omega
  have hev : ∀ i, i < m.length / 2 → ev (lapI m) i = evI m (m.length / 2) i := fun i hi => lapI_ev m i hi
  have hdf : ∀ i, i < m.length / 2 → dif (lapI m) (m.length / 2) i = m.getD (m.length / 2 + i) 0 := by
    intro i hi
    unfold dif
    rw [lapI_od m i hi, hev _ hi, hev _ (nxt_lt hi)]
    unfold odI; omega
  apply ext_getD
  · rw [lapF_length _ (by rw [hlen]; omega), hlen]; omega
  intro j hj
  rw [lapF_length _ (by rw [hlen]; omega), hlen] at hj
  rcases Nat.lt_or_ge j (m.length / 2) with h1 | h1
  · rw [lapF_lo _ _ (by rw [hn]; exact h1), hn]
    unfold stay
    rw [hev _ h1, hdf _ h1, hdf _ (by omega)]
    unfold evI; omega
  · obtain ⟨i, rfl⟩ : ∃ i, j = m.length / 2 + i := ⟨j - m.length / 2, by omega⟩
    have hi : i < m.length / 2 := by omega
    have := lapF_hi (lapI m) i (by rw [hn]; exact hi)
    rw [hn] at this
    rw [this, hdf _ hi]
/-- What stays and the differences of samples are bounded. -/
theorem dif_bd {l : List Int} {M : Int} (hM : 0 ≤ M) (h : allIn l M = true) (n i : Nat) : -(2 * M) ≤ dif l n i ∧ dif l n i ≤ 2 * M := by
  have h1 := allIn_getD h hM (2 * i + 1)
  have h2 := allIn_getD h hM (2 * i)
  have h3 := allIn_getD h hM (2 * nxt n i)
  unfold dif ev; omega
theorem stay_bd {l : List Int} {M : Int} (hM : 0 ≤ M) (h : allIn l M = true) (n i : Nat) : -(2 * M + 1) ≤ stay l n i ∧ stay l n i ≤ 2 * M + 1 := by
  have h1 := dif_bd hM h n i
  have h2 := dif_bd hM h n (i - 1)
  have h3 := allIn_getD h hM (2 * i)
  unfold stay ev; omega
theorem lapF_allIn {l : List Int} (h : allIn l 1000 = true) : allIn (lapF l) 2001 = true := by
  rw [allIn_iff]
  intro x hx
  unfold lapF stays difs at hx
  rw [List.mem_append, List.mem_map, List.mem_map] at hx
  rcases hx with ⟨i, _, rfl⟩ | ⟨i, _, rfl⟩
  · have := stay_bd (by omega) h (l.length / 2) i; omega
  · have := dif_bd (by omega) h (l.length / 2) i; omega
/-- What rises evenly. -/
theorem dif_even {l : List Int} {a b : Int} (hl : ∀ i, i < l.length → l.getD i 0 = a + i * b) (h : l.length % 2 = 0) (i : Nat) (hi : i < l.length / 2) :
    dif l (l.length / 2) i = if i + 1 < l.length / 2 then 0 else b := by
  unfold dif ev nxt
  rw [hl _ (by omega), hl _ (by omega)]
  split
  · rw [hl _ (by omega)]
    have e1 : ((2 * i + 1 : Nat) : Int) * b = 2 * (i * b) + b := by
      rw [Int.natCast_add, Int.add_mul, Int.natCast_mul, Int.mul_assoc]; simp
    have e2 : ((2 * i : Nat) : Int) * b = 2 * (i * b) := by rw [Int.natCast_mul, Int.mul_assoc]; simp
    have e3 : ((2 * (i + 1) : Nat) : Int) * b = 2 * (i * b) + 2 * b := by
      rw [Int.natCast_mul, Int.mul_assoc, Int.natCast_add, Int.add_mul, Int.mul_add]; simp
    rw [e1, e2, e3]; omega
  · rw [hl _ (by omega)]
    have e0 : l.length / 2 - 1 = i := by omega
    rw [e0]
    have e1 : ((2 * i + 1 : Nat) : Int) * b = 2 * (i * b) + b := by
      rw [Int.natCast_add, Int.add_mul, Int.natCast_mul, Int.mul_assoc]; simp
    have e2 : ((2 * i : Nat) : Int) * b = 2 * (i * b) := by rw [Int.natCast_mul, Int.mul_assoc]; simp
    rw [e1, e2]; omega

def lapErr (l : List Int) (most : Int) : Int := if 32 < l.length then 4 else if l.length % 2 ≠ 0 then 3 else if allIn l most = true then 0 else 1
theorem lapErr_zero {l : List Int} {most : Int} : lapErr l most = 0 ↔ l.length ≤ 32 ∧ l.length % 2 = 0 ∧ allIn l most = true := by
  unfold lapErr; split
  · simp; omega
  · split
    · constructor
      · intro h; omega
      · intro h; omega
    · split
      · simp_all
      · simp_all

/-! ### Level by level. -/
def sums : List Int → List Int
  | a :: b :: l => (a + b) / 2 :: sums l
  | _ => []
def rests : List Int → List Int
  | a :: b :: l => (a - b) :: rests l
  | _ => []
def merge : List Int → List Int → List Int
  | s :: ss, d :: ds => (s + (d + 1) / 2) :: (s + (d + 1) / 2 - d) :: merge ss ds
  | _, _ => []
def treeF : Nat → List Int → List Int
  | 0, l => l
  | k + 1, l => treeF k (sums l) ++ rests l
theorem sums_length : ∀ l : List Int, (sums l).length = l.length / 2
  | a :: b :: l => by simp only [sums, List.length_cons, sums_length l]; omega
  | [] => rfl
  | [_] => by simp [sums]
theorem rests_length : ∀ l : List Int, (rests l).length = l.length / 2
  | a :: b :: l => by simp only [rests, List.length_cons, rests_length l]; omega
  | [] => rfl
  | [_] => by simp [rests]
theorem merge_length : ∀ s d : List Int, s.length = d.length → (merge s d).length = 2 * d.length
  | s :: ss, d :: ds, h => by
    have := merge_length ss ds (by simpa using h)
    simp only [merge, List.length_cons, this]; omega
  | [], [], _ => rfl
  | [], _ :: _, h => by simp at h
  | _ :: _, [], h => by simp at h
theorem merge_there : ∀ l : List Int, l.length % 2 = 0 → merge (sums l) (rests l) = l
  | a :: b :: l, h => by
    have := merge_there l (by simp at h; omega)
    simp only [sums, rests, merge, this]
    have e : (a + b) / 2 + (a - b + 1) / 2 = a := by omega
    rw [e]
    have e2 : a - (a - b) = b := by omega
    rw [e2]
  | [], _ => rfl
  | [_], h => by simp at h
theorem sums_merge : ∀ s d : List Int, s.length = d.length → sums (merge s d) = s
  | s :: ss, d :: ds, h => by
    have := sums_merge ss ds (by simpa using h)
    simp only [merge, sums, this]
    have e : (s + (d + 1) / 2 + (s + (d + 1) / 2 - d)) / 2 = s := by omega
    rw [e]
  | [], [], _ => rfl
  | [], _ :: _, h => by simp at h
  | _ :: _, [], h => by simp at h
theorem rests_merge : ∀ s d : List Int, s.length = d.length → rests (merge s d) = d
  | s :: ss, d :: ds, h => by
    have := rests_merge ss ds (by simpa using h)
    simp only [merge, rests, this]
    have e : s + (d + 1) / 2 - (s + (d + 1) / 2 - d) = d := by omega
    rw [e]
  | [], [], _ => rfl
  | [], _ :: _, h => by simp at h
  | _ :: _, [], h => by simp at h
theorem treeF_length : ∀ (k : Nat) (l : List Int), l.length % 2 ^ k = 0 → (treeF k l).length = l.length
  | 0, _, _ => rfl
  | k + 1, l, h => by
    have h2 : l.length % 2 = 0 := by
      have := Nat.mod_mod_of_dvd l.length (show 2 ∣ 2 ^ (k + 1) from ⟨2 ^ k, by rw [Nat.pow_succ]; omega⟩)
      rw [h] at this; omega
    have h3 : (sums l).length % 2 ^ k = 0 := by
      rw [sums_length]
      have e : l.length = 2 * (l.length / 2) := by omega
      rw [e, Nat.pow_succ, Nat.mul_comm (2 ^ k) 2, Nat.mul_mod_mul_left] at h
      omega
    simp only [treeF, List.length_append, treeF_length k _ h3, sums_length, rests_length]; omega
/-- Back: none where on the way a number would be too great. -/
def treeI : Nat → List Int → Option (List Int)
  | 0, l => some l
  | k + 1, l =>
    match treeI k (l.take (l.length / 2)) with
    | none => none
    | some s => if allIn (merge s (l.drop (l.length / 2))) 4000 = true then some (merge s (l.drop (l.length / 2))) else none
theorem sums_allIn {M : Int} (hM : 0 ≤ M) : ∀ l : List Int, allIn l M = true → allIn (sums l) M = true
  | a :: b :: l, h => by
    rw [allIn_cons, allIn_cons, Bool.and_eq_true, Bool.and_eq_true, within_iff, within_iff] at h
    simp only [sums, allIn_cons, Bool.and_eq_true, within_iff]
    exact ⟨by omega, sums_allIn hM l h.2.2⟩
  | [], _ => rfl
  | [_], _ => rfl
theorem rests_allIn {M : Int} : ∀ l : List Int, allIn l M = true → allIn (rests l) (2 * M) = true
  | a :: b :: l, h => by
    rw [allIn_cons, allIn_cons, Bool.and_eq_true, Bool.and_eq_true, within_iff, within_iff] at h
    simp only [rests, allIn_cons, Bool.and_eq_true, within_iff]
    exact ⟨by omega, rests_allIn l h.2.2⟩
  | [], _ => rfl
  | [_], _ => rfl
theorem treeF_allIn {M : Int} (hM : 0 ≤ M) : ∀ (k : Nat) (l : List Int), allIn l M = true → allIn (treeF k l) (2 * M) = true
  | 0, l, h => allIn_mono h (by omega)
  | k + 1, l, h => by
    simp only [treeF, allIn_append, Bool.and_eq_true]
    exact ⟨treeF_allIn hM k _ (sums_allIn hM l h), rests_allIn l h⟩
theorem mod_two_of {n k : Nat} (h : n % 2 ^ (k + 1) = 0) : n % 2 = 0 ∧ n / 2 % 2 ^ k = 0 := by
  have h2 : n % 2 = 0 := by
    have := Nat.mod_mod_of_dvd n (show 2 ∣ 2 ^ (k + 1) from ⟨2 ^ k, by rw [Nat.pow_succ]; omega⟩)
    rw [h] at this; omega
  refine ⟨h2, ?_⟩
  have e : n = 2 * (n / 2) := by omega
  rw [e, Nat.pow_succ, Nat.mul_comm (2 ^ k) 2, Nat.mul_mod_mul_left] at h
  omega
/-- Nothing is lost, back from forward. -/
theorem treeI_treeF : ∀ (k : Nat) (l : List Int), l.length % 2 ^ k = 0 → allIn l 1000 = true → treeI k (treeF k l) = some l
  | 0, _, _, _ => rfl
  | k + 1, l, h, hb => by
    obtain ⟨h2, h3⟩ := mod_two_of h
    have hlen := treeF_length (k + 1) l h
    have hsl : (sums l).length % 2 ^ k = 0 := by rw [sums_length]; exact h3
    have hs := treeF_length k (sums l) hsl
    have e1 : (treeF (k + 1) l).take ((treeF (k + 1) l).length / 2) = treeF k (sums l) := by
      rw [hlen]; simp only [treeF]
      rw [List.take_append_of_le_length (by rw [hs, sums_length]; omega), List.take_of_length_le (by rw [hs, sums_length]; omega)]
    have e2 : (treeF (k + 1) l).drop ((treeF (k + 1) l).length / 2) = rests l := by
      rw [hlen]; simp only [treeF]
      rw [List.drop_append_of_le_length (by rw [hs, sums_length]; omega), List.drop_of_length_le (by rw [hs, sums_length]; omega), List.nil_append]
    unfold treeI
    rw [e1, e2, treeI_treeF k _ hsl (sums_allIn (by omega) l hb)]
    simp only [merge_there l h2]
    rw [if_pos (allIn_mono hb (by omega))]
theorem treeI_length : ∀ (k : Nat) (m l : List Int), m.length % 2 ^ k = 0 → treeI k m = some l → l.length = m.length
  | 0, m, l, _, h => by simp only [treeI, Option.some.injEq] at h; rw [h]
  | k + 1, m, l, h, hx => by
    obtain ⟨h2, h3⟩ := mod_two_of h
    unfold treeI at hx
    cases hc : treeI k (m.take (m.length / 2)) with
    | none => rw [hc] at hx; simp at hx
    | some s =>
      rw [hc] at hx
      have hl := treeI_length k _ s (by rw [List.length_take, Nat.min_eq_left (by omega)]; exact h3) hc
      rw [List.length_take, Nat.min_eq_left (by omega)] at hl
      dsimp only at hx
      split at hx
      · simp only [Option.some.injEq] at hx
        rw [← hx, merge_length _ _ (by rw [hl, List.length_drop]; omega), List.length_drop]; omega
      · simp at hx
/-- Nothing is lost, forward from back. -/
theorem treeF_treeI : ∀ (k : Nat) (m l : List Int), m.length % 2 ^ k = 0 → treeI k m = some l → treeF k l = m
  | 0, m, l, _, h => by simp only [treeI, Option.some.injEq] at h; simp [treeF, h]
  | k + 1, m, l, h, hx => by
    obtain ⟨h2, h3⟩ := mod_two_of h
    unfold treeI at hx
    cases hc : treeI k (m.take (m.length / 2)) with
    | none => rw [hc] at hx; simp at hx
    | some s =>
      rw [hc] at hx
      have hm : (m.take (m.length / 2)).length % 2 ^ k = 0 := by rw [List.length_take, Nat.min_eq_left (by omega)]; exact h3
      have hl := treeI_length k _ s hm hc
      rw [List.length_take, Nat.min_eq_left (by omega)] at hl
      dsimp only at hx
      split at hx
      · simp only [Option.some.injEq] at hx
        have he : s.length = (m.drop (m.length / 2)).length := by rw [hl, List.length_drop]; omega
        rw [← hx]
        simp only [treeF, sums_merge _ _ he, rests_merge _ _ he, treeF_treeI k _ s hm hc, List.take_append_drop]
      · simp at hx
theorem sums_alike (x : Int) : ∀ n : Nat, sums (List.replicate n x) = List.replicate (n / 2) x
  | 0 => rfl
  | 1 => rfl
  | n + 2 => by
    have := sums_alike x n
    rw [List.replicate_succ, List.replicate_succ, show (n + 2) / 2 = n / 2 + 1 by omega, List.replicate_succ]
    simp only [sums, this]
    rw [show (x + x) / 2 = x by omega]
theorem rests_alike (x : Int) : ∀ n : Nat, rests (List.replicate n x) = List.replicate (n / 2) 0
  | 0 => rfl
  | 1 => rfl
  | n + 2 => by
    have := rests_alike x n
    rw [List.replicate_succ, List.replicate_succ, show (n + 2) / 2 = n / 2 + 1 by omega, List.replicate_succ]
    simp only [rests, this, Int.sub_self]
theorem treeF_alike (x : Int) : ∀ (k n : Nat), n % 2 ^ k = 0 → treeF k (List.replicate n x) = List.replicate (n / 2 ^ k) x ++ List.replicate (n - n / 2 ^ k) 0
  | 0, n, _ => by simp [treeF]
  | k + 1, n, h => by
    obtain ⟨h2, h3⟩ := mod_two_of h
    simp only [treeF, sums_alike, rests_alike]
    rw [treeF_alike x k (n / 2) h3, List.append_assoc, List.replicate_append_replicate, Nat.div_div_eq_div_mul, Nat.pow_succ, Nat.mul_comm 2]
    have : n / (2 ^ k * 2) ≤ n / 2 := by rw [Nat.mul_comm, ← Nat.div_div_eq_div_mul]; exact Nat.div_le_self _ _
    rw [show n / 2 - n / (2 ^ k * 2) + n / 2 = n - n / (2 ^ k * 2) by omega]
end Ph
/- Plain law: how many rows there are; each has its number (chapters 5, 6). No program in sight. -/
namespace Ph

/-- How many rows of n numbers and k pulses there are. -/
def cntRow (f : Nat → Nat) : Nat → Nat
  | 0 => 1
  | k + 1 => f (k + 1) + cntRow f k + f k
def cnt : Nat → Nat → Nat
  | 0 => fun k => if k = 0 then 1 else 0
  | n + 1 => cntRow (cnt n)
theorem cnt_zero (n : Nat) : cnt n 0 = 1 := by cases n <;> rfl
theorem cnt_none (k : Nat) : cnt 0 (k + 1) = 0 := by simp [cnt]
theorem cnt_succ (n k : Nat) : cnt (n + 1) (k + 1) = cnt n (k + 1) + cnt (n + 1) k + cnt n k := rfl
theorem cnt_mono_n (n k : Nat) : cnt n k ≤ cnt (n + 1) k := by
  cases k with
  | zero => rw [cnt_zero, cnt_zero]; omega
  | succ k => rw [cnt_succ]; omega
theorem cnt_mono_k (n k : Nat) : cnt (n + 1) k ≤ cnt (n + 1) (k + 1) := by rw [cnt_succ]; omega
theorem cnt_le : ∀ n k : Nat, n ≤ 6 → k ≤ 8 → cnt n k ≤ 100000 := by
  have h : ∀ n : Fin 7, ∀ k : Fin 9, cnt n.1 k.1 ≤ 100000 := by decide +kernel
  intro n k hn hk
  exact h ⟨n, by omega⟩ ⟨k, by omega⟩
theorem cnt_pos (n k : Nat) : 0 < cnt (n + 1) k := by
  induction k with
  | zero => rw [cnt_zero]; omega
  | succ k ih => rw [cnt_succ]; omega

/-- How many numbers of bits: the least b with 2^b not below m. -/
def bitsOf (m : Nat) : Nat := if m ≤ 1 then 0 else Nat.log2 (m - 1) + 1
theorem turns : ∀ n k : Nat, n ≤ 6 → k ≤ 6 → k * cnt n k = n * cnt k n := by
  have h : ∀ n : Fin 7, ∀ k : Fin 7, k.1 * cnt n.1 k.1 = n.1 * cnt k.1 n.1 := by decide +kernel
  intro n k hn hk
  exact h ⟨n, by omega⟩ ⟨k, by omega⟩
theorem bits_enough : ∀ n k : Nat, n ≤ 6 → k ≤ 8 → bitsOf (cnt n k) ≤ 20 ∧ cnt n k ≤ 2 ^ bitsOf (cnt n k) ∧ (bitsOf (cnt n k) = 0 ∨ 2 ^ bitsOf (cnt n k) / 2 < cnt n k) := by
  have h : ∀ n : Fin 7, ∀ k : Fin 9, bitsOf (cnt n.1 k.1) ≤ 20 ∧ cnt n.1 k.1 ≤ 2 ^ bitsOf (cnt n.1 k.1) ∧ (bitsOf (cnt n.1 k.1) = 0 ∨ 2 ^ bitsOf (cnt n.1 k.1) / 2 < cnt n.1 k.1) := by decide +kernel
  intro n k hn hk
  exact h ⟨n, by omega⟩ ⟨k, by omega⟩

/-! ### How many rows have a first number below x: the sum over y from -k on. -/
/-- far as a Nat -/
def farN (n : Int) : Nat := n.natAbs
theorem farN_far (n : Int) : (farN n : Int) = far n := by unfold farN; rw [far_eq]; split <;> omega

/-- The rows of n + 1 numbers and k pulses of which the first is one of the j numbers from -k on. -/
def upto (n k : Nat) : Nat → Nat
  | 0 => 0
  | j + 1 => upto n k j + cnt n (k - farN ((j : Int) - k))
theorem upto_mono (n k : Nat) : ∀ i j : Nat, i ≤ j → upto n k i ≤ upto n k j := by
  intro i j h
  induction j with
  | zero => have : i = 0 := by omega
            rw [this]; omega
  | succ j ih =>
    rcases Nat.lt_or_ge i (j + 1) with h1 | h1
    · have := ih (by omega); simp only [upto]; omega
    · have : i = j + 1 := by omega
      rw [this]; omega
/-- Up to 0: the sum of those of n numbers and fewer pulses. -/
def below (n : Nat) : Nat → Nat
  | 0 => 0
  | j + 1 => below n j + cnt n j
theorem upto_low (n k : Nat) : ∀ j, j ≤ k + 1 → upto n k j = below n j
  | 0, _ => rfl
  | j + 1, h => by
    simp only [upto, below, upto_low n k j (by omega)]
    have : k - farN ((j : Int) - k) = j := by unfold farN; omega
    rw [this]
theorem upto_high (n k : Nat) : ∀ j, j ≤ k → upto n k (k + 1 + j) + below n (k - j) = below n (k + 1) + below n k
  | 0, _ => by rw [Nat.add_zero, upto_low n k (k + 1) (by omega), Nat.sub_zero]
  | j + 1, h => by
    have ih := upto_high n k j (by omega)
    rw [← Nat.add_assoc]
    simp only [upto]
    have e : k - farN (((k + 1 + j : Nat) : Int) - k) = k - (j + 1) := by unfold farN; omega
    rw [e]
    have e2 : k - j = (k - (j + 1)) + 1 := by omega
    have e3 : below n (k - (j + 1) + 1) = below n (k - (j + 1)) + cnt n (k - (j + 1)) := rfl
    rw [e2, e3] at ih
    omega
theorem cnt_below (n : Nat) : ∀ k, cnt (n + 1) k = below n (k + 1) + below n k
  | 0 => by simp [below, cnt_zero]
  | k + 1 => by rw [cnt_succ, cnt_below n k]; simp only [below]; omega
/-- All together. -/
theorem upto_all (n k : Nat) : upto n k (2 * k + 1) = cnt (n + 1) k := by
  have h := upto_high n k k (by omega)
  rw [Nat.sub_self, show k + 1 + k = 2 * k + 1 by omega] at h
  rw [cnt_below]; simpa [below] using h
theorem upto_last (n k : Nat) : upto n k (2 * k) + 1 = cnt (n + 1) k := by
  rw [← upto_all]
  simp only [upto]
  have e : k - farN (((2 * k : Nat) : Int) - k) = 0 := by unfold farN; omega
  rw [e, cnt_zero]
/-- What the document's other way counts. -/
theorem cnt_ref (n k : Nat) : cnt (n + 1) k = cnt n k + 2 * below n k := by rw [cnt_below]; simp only [below]; omega

/-! ### Ranks. -/
def loudN (v : List Int) : Nat := (loud v).toNat
theorem loudN_cons (x : Int) (v : List Int) : loudN (x :: v) = farN x + loudN v := by
  unfold loudN; simp only [loud]
  have := loud_nonneg v; have := farN_far x; have := far_nonneg x; omega
theorem loudN_int (v : List Int) : (loudN v : Int) = loud v := by unfold loudN; have := loud_nonneg v; omega
def rank : List Int → Nat
  | [] => 0
  | x :: v => upto v.length (farN x + loudN v) (x + (farN x + loudN v : Nat)).toNat + rank v
/-- Of how many rows the first number is below the one that a rank finds: the place that it finds. -/
def find (n k : Nat) : Nat → Nat → Nat → Nat
  | 0, j, _ => j
  | fuel + 1, j, r => if r < upto n k (j + 1) then j else find n k fuel (j + 1) r
theorem find_spec (n k : Nat) : ∀ (fuel j r : Nat), upto n k j ≤ r → r < upto n k (j + fuel) → upto n k (find n k fuel j r) ≤ r ∧ r < upto n k (find n k fuel j r + 1) ∧ j ≤ find n k fuel j r ∧ find n k fuel j r < j + fuel
  | 0, j, r, h1, h2 => by rw [Nat.add_zero] at h2; omega
  | fuel + 1, j, r, h1, h2 => by
    unfold find
    split
    · rename_i h; exact ⟨h1, h, by omega, by omega⟩
    · rename_i h
      have := find_spec n k fuel (j + 1) r (by omega) (by rw [show j + 1 + fuel = j + (fuel + 1) by omega]; exact h2)
      omega
theorem find_unique {n k r i j : Nat} (h1 : upto n k i ≤ r) (h2 : r < upto n k (i + 1)) (h3 : upto n k j ≤ r) (h4 : r < upto n k (j + 1)) : i = j := by
  rcases Nat.lt_trichotomy i j with h | h | h
  · have := upto_mono n k (i + 1) j (by omega); omega
  · exact h
  · have := upto_mono n k (j + 1) i (by omega); omega
/-- The row of a rank. -/
def rowOf : Nat → Nat → Nat → List Int
  | 0, _, _ => []
  | n + 1, k, r =>
    let j := find n k (2 * k + 1) 0 r
    ((j : Int) - k) :: rowOf n (k - farN ((j : Int) - k)) (r - upto n k j)
theorem rank_lt : ∀ v : List Int, rank v < cnt v.length (loudN v)
  | [] => by show 0 < cnt 0 (loudN []); rw [show loudN [] = 0 from rfl, cnt_zero]; omega
  | x :: v => by
    have ih := rank_lt v
    rw [loudN_cons, List.length_cons, ← upto_all]
    simp only [rank]
    have hx : (x + ((farN x + loudN v : Nat) : Int)).toNat + 1 ≤ 2 * (farN x + loudN v) + 1 := by unfold farN; omega
    have hm := upto_mono v.length (farN x + loudN v) _ _ hx
    simp only [upto] at hm
    have e : farN x + loudN v - farN (((x + ((farN x + loudN v : Nat) : Int)).toNat : Int) - ((farN x + loudN v : Nat) : Int)) = loudN v := by unfold farN; omega
    rw [e] at hm
    simp only [upto]; omega
/-- A row is the one of its rank. -/
theorem rowOf_rank : ∀ v : List Int, rowOf v.length (loudN v) (rank v) = v
  | [] => rfl
  | x :: v => by
    have hlt := rank_lt v
    have ih := rowOf_rank v
    rw [loudN_cons, List.length_cons]
    simp only [rank]
    generalize hk : farN x + loudN v = k
    have hxk : (x + (k : Int)).toNat + 1 ≤ 2 * k + 1 := by unfold farN at hk; omega
    have hx0 : ((x + (k : Int)).toNat : Int) - k = x := by unfold farN at hk; omega
    have e : k - farN (((x + (k : Int)).toNat : Int) - k) = loudN v := by rw [hx0]; omega
    have h1 : upto v.length k (x + (k : Int)).toNat ≤ upto v.length k (x + (k : Int)).toNat + rank v := by omega
    have h2 : upto v.length k (x + (k : Int)).toNat + rank v < upto v.length k ((x + (k : Int)).toNat + 1) := by simp only [upto, e]; omega
    have h3 : upto v.length k (x + (k : Int)).toNat + rank v < upto v.length k (0 + (2 * k + 1)) := by
      have := upto_mono v.length k _ _ hxk; rw [Nat.zero_add]; omega
    have hf := find_spec v.length k (2 * k + 1) 0 _ (by simp [upto]) h3
    have hj := find_unique hf.1 hf.2.1 h1 h2
    simp only [rowOf, hj, hx0, Nat.add_sub_cancel_left]
    rw [hx0] at e
    rw [e, ih]
theorem rowOf_length : ∀ n k r : Nat, (rowOf n k r).length = n
  | 0, _, _ => rfl
  | n + 1, k, r => by simp only [rowOf, List.length_cons, rowOf_length n]
/-- A rank is that of its row. -/
theorem rank_rowOf : ∀ n k r : Nat, r < cnt n k → rank (rowOf n k r) = r ∧ loudN (rowOf n k r) = k
  | 0, 0, r, h => by rw [cnt_zero] at h; have : r = 0 := by omega
                     rw [this]; exact ⟨rfl, rfl⟩
  | 0, k + 1, r, h => by rw [cnt_none] at h; omega
  | n + 1, k, r, h => by
    rw [← upto_all] at h
    have hf := find_spec n k (2 * k + 1) 0 r (by simp [upto]) (by rw [Nat.zero_add]; exact h)
    simp only [rowOf]
    generalize find n k (2 * k + 1) 0 r = j at *
    have hr : r - upto n k j < cnt n (k - farN ((j : Int) - k)) := by have := hf.2.1; simp only [upto] at this; omega
    have ih := rank_rowOf n _ _ hr
    have hfj : farN ((j : Int) - k) ≤ k := by unfold farN; omega
    simp only [rank, rowOf_length, loudN_cons, ih.1, ih.2]
    rw [show farN ((j : Int) - k) + (k - farN ((j : Int) - k)) = k by omega]
    refine ⟨?_, by omega⟩
    rw [show ((j : Int) - k + (k : Int)).toNat = j by omega]; omega
theorem rank_inj {a b : List Int} (hl : a.length = b.length) (hk : loudN a = loudN b) (hr : rank a = rank b) : a = b := by
  rw [← rowOf_rank a, ← rowOf_rank b, hl, hk, hr]
/-- Of a lesser rank is who has the lesser number where two first differ. -/
theorem rank_order : ∀ (a b : List Int) (i : Nat), a.length = b.length → loudN a = loudN b → i < a.length → (∀ j, j < i → a.getD j 0 = b.getD j 0) → a.getD i 0 < b.getD i 0 → rank a < rank b
  | [], _, i, _, _, hi, _, _ => by simp at hi
  | x :: a, [], i, hl, _, _, _, _ => by simp at hl
  | x :: a, y :: b, 0, hl, hk, _, _, hlt => by
    rw [loudN_cons, loudN_cons] at hk
    have ha := rank_lt a
    have hl' : a.length = b.length := by simpa using hl
    have hlt' : x < y := by simpa using hlt
    simp only [rank]
    rw [← hk, ← hl']
    have e : farN x + loudN a - farN (((x + ((farN x + loudN a : Nat) : Int)).toNat : Int) - ((farN x + loudN a : Nat) : Int)) = loudN a := by unfold farN; omega
    have h1 : upto a.length (farN x + loudN a) ((x + ((farN x + loudN a : Nat) : Int)).toNat + 1) ≤ upto a.length (farN x + loudN a) (y + ((farN x + loudN a : Nat) : Int)).toNat := upto_mono _ _ _ _ (by unfold farN at *; omega)
    simp only [upto, e] at h1; omega
  | x :: a, y :: b, i + 1, hl, hk, hi, hj, hlt => by
    have h0 : x = y := by simpa using hj 0 (by omega)
    subst h0
    rw [loudN_cons, loudN_cons] at hk
    have ih := rank_order a b i (by simpa using hl) (by omega) (by simpa using hi) (fun j h => by simpa using hj (j + 1) (by omega)) (by simpa using hlt)
    have hl' : a.length = b.length := by simpa using hl
    have hk' : loudN a = loudN b := by omega
    simp only [rank, hl', hk']; omega
/-- The first rank: all pulses below 0 at the first number; the last: above. -/
theorem rowOf_first (n k : Nat) : (rowOf (n + 1) k 0).getD 0 0 = -k := by
  have hf := find_spec n k (2 * k + 1) 0 0 (by simp [upto]) (by rw [Nat.zero_add, upto_all]; exact cnt_pos n k)
  have h1 : (0 : Nat) < upto n k (0 + 1) := by
    simp only [upto]
    have : k - farN (((0 : Nat) : Int) - k) = 0 := by unfold farN; omega
    rw [this, cnt_zero]; omega
  have hj := find_unique (j := 0) hf.1 hf.2.1 (by simp [upto]) h1
  simp only [rowOf, hj]; simp
theorem rowOf_final (n k : Nat) : (rowOf (n + 1) k (cnt (n + 1) k - 1)).getD 0 0 = k := by
  have hp := cnt_pos n k
  have hl := upto_last n k
  have ha := upto_all n k
  have hf := find_spec n k (2 * k + 1) 0 (cnt (n + 1) k - 1) (by simp [upto]) (by rw [Nat.zero_add, ha]; omega)
  have hj := find_unique (j := 2 * k) hf.1 hf.2.1 (by omega) (by rw [ha]; omega)
  simp only [rowOf, hj]; simp; omega

/-! ### Pulses: what is wrong with them. -/
def pulsesErr (v : List Int) : Int := if 6 < v.length then 4 else if allIn v 8 = true then (if 8 < loud v then 4 else 0) else 1
theorem pulsesErr_zero {v : List Int} : pulsesErr v = 0 ↔ v.length ≤ 6 ∧ allIn v 8 = true ∧ loud v ≤ 8 := by
  unfold pulsesErr; split
  · simp; omega
  · split
    · split
      · simp_all
      · simp_all
    · simp_all
end Ph
/- Plain law: as near as may be (chapter 7). No program in sight. -/
namespace Ph

def sumTo : Nat → (Nat → Int) → Int
  | 0, _ => 0
  | n + 1, f => sumTo n f + f n
theorem sumTo_congr {f g : Nat → Int} : ∀ n, (∀ i, i < n → f i = g i) → sumTo n f = sumTo n g
  | 0, _ => rfl
  | n + 1, h => by simp only [sumTo, sumTo_congr n (fun i hi => h i (by omega)), h n (by omega)]
theorem sumTo_le {f g : Nat → Int} : ∀ n, (∀ i, i < n → f i ≤ g i) → sumTo n f ≤ sumTo n g
  | 0, _ => by simp [sumTo]
  | n + 1, h => by
    have := sumTo_le n (fun i hi => h i (by omega)); have := h n (by omega)
    simp only [sumTo]; omega
theorem sumTo_add (f g : Nat → Int) : ∀ n, sumTo n (fun i => f i + g i) = sumTo n f + sumTo n g
  | 0 => rfl
  | n + 1 => by simp only [sumTo, sumTo_add f g n]; omega
theorem sumTo_mul (c : Int) (f : Nat → Int) : ∀ n, sumTo n (fun i => c * f i) = c * sumTo n f
  | 0 => by simp [sumTo]
  | n + 1 => by simp only [sumTo, sumTo_mul c f n, Int.mul_add]
theorem sumTo_zero : ∀ n, sumTo n (fun _ => 0) = 0
  | 0 => rfl
  | n + 1 => by simp only [sumTo, sumTo_zero n]; rfl
theorem sumTo_nonneg {f : Nat → Int} (n : Nat) (h : ∀ i, i < n → 0 ≤ f i) : 0 ≤ sumTo n f := by
  rw [← sumTo_zero n]; exact sumTo_le n h
theorem loud_sumTo (l : List Int) : ∀ k, k ≤ l.length → loud (l.take k) = sumTo k (fun i => far (l.getD i 0))
  | 0, _ => by simp [loud, sumTo]
  | k + 1, h => by rw [take_snoc l k (by omega), loud_snoc, loud_sumTo l k (by omega)]; rfl
theorem loud_is (l : List Int) : loud l = sumTo l.length (fun i => far (l.getD i 0)) := by
  rw [← loud_sumTo l l.length (Nat.le_refl _), List.take_length]

/-! ### The order: by the rests, the greater ones first, of the same the first one first. -/
/-- Does i come ahead of j? -/
def ahd (r : Nat → Int) (i j : Nat) : Prop := r j < r i ∨ r i = r j ∧ i < j
instance (r : Nat → Int) (i j : Nat) : Decidable (ahd r i j) := by unfold ahd; infer_instance
/-- Behind whom a later one is put: behind all that have no lesser rest. -/
def ins (r : Nat → Int) (x : Nat) : List Nat → List Nat
  | [] => [x]
  | y :: l => if r y < r x then x :: y :: l else y :: ins r x l
def ord (r : Nat → Int) : Nat → List Nat
  | 0 => []
  | n + 1 => ins r n (ord r n)
theorem ins_perm (r : Nat → Int) (x : Nat) : ∀ l : List Nat, (ins r x l).Perm (x :: l)
  | [] => List.Perm.refl _
  | y :: l => by
    unfold ins; split
    · exact List.Perm.refl _
    · exact ((ins_perm r x l).cons y).trans (List.Perm.swap x y l)
theorem ord_perm (r : Nat → Int) : ∀ n, (ord r n).Perm (List.range n)
  | 0 => List.Perm.refl _
  | n + 1 => by
    rw [List.range_succ]
    exact (ins_perm r n _).trans (((ord_perm r n).cons n).trans (List.perm_append_singleton n _).symm)
theorem ord_length (r : Nat → Int) (n : Nat) : (ord r n).length = n := by rw [(ord_perm r n).length_eq, List.length_range]
theorem ord_nodup (r : Nat → Int) (n : Nat) : (ord r n).Nodup := (ord_perm r n).nodup_iff.2 List.nodup_range
theorem ord_mem (r : Nat → Int) (n i : Nat) : i ∈ ord r n ↔ i < n := by rw [(ord_perm r n).mem_iff, List.mem_range]
theorem ins_pairwise (r : Nat → Int) (x : Nat) : ∀ l : List Nat, l.Pairwise (ahd r) → (∀ y ∈ l, y < x) → (ins r x l).Pairwise (ahd r)
  | [], _, _ => by simp [ins]
  | y :: l, h, hx => by
    rw [List.pairwise_cons] at h
    have hy : y < x := hx y (by simp)
    unfold ins; split
    · rename_i hlt
      rw [List.pairwise_cons, List.pairwise_cons]
      refine ⟨fun z hz => ?_, h⟩
      rcases List.mem_cons.1 hz with rfl | hz
      · exact .inl hlt
      · have := h.1 z hz; unfold ahd at *; omega
    · rename_i hge
      rw [List.pairwise_cons]
      refine ⟨fun z hz => ?_, ins_pairwise r x l h.2 (fun z hz => hx z (by simp [hz]))⟩
      rw [(ins_perm r x l).mem_iff] at hz
      rcases List.mem_cons.1 hz with rfl | hz
      · unfold ahd; omega
      · exact h.1 z hz
theorem ord_pairwise (r : Nat → Int) : ∀ n, (ord r n).Pairwise (ahd r)
  | 0 => List.Pairwise.nil
  | n + 1 => ins_pairwise r n _ (ord_pairwise r n) (fun y hy => (ord_mem r n y).1 hy)
/-- Whoever is among the first m comes ahead of whoever is not. -/
theorem take_ahd {r : Nat → Int} {n m i j : Nat} (hi : i ∈ (ord r n).take m) (hj : j < n) (hn : j ∉ (ord r n).take m) : ahd r i j := by
  have hp := ord_pairwise r n
  rw [← List.take_append_drop m (ord r n), List.pairwise_append] at hp
  have hj' : j ∈ (ord r n).drop m := by
    have := (ord_mem r n j).2 hj
    rw [← List.take_append_drop m (ord r n), List.mem_append] at this
    rcases this with h | h
    · exact absurd h hn
    · exact h
  exact hp.2.2 i hi j hj'
/-- One more for whoever is in a list. -/
def one (s : List Nat) (i : Nat) : Int := if i ∈ s then 1 else 0
theorem one_nil (i : Nat) : one [] i = 0 := rfl
theorem sum_single (x : Nat) : ∀ n, sumTo n (fun i => if i = x then 1 else 0) = if x < n then 1 else 0
  | 0 => by simp [sumTo]
  | n + 1 => by
    simp only [sumTo, sum_single x n]
    by_cases h : n = x
    · subst h; simp
    · rw [if_neg h]
      by_cases h2 : x < n
      · rw [if_pos h2, if_pos (by omega)]; rfl
      · rw [if_neg h2, if_neg (by omega)]; rfl
theorem sum_one (n : Nat) : ∀ s : List Nat, s.Nodup → (∀ i ∈ s, i < n) → sumTo n (one s) = s.length
  | [], _, _ => by rw [sumTo_congr n (g := fun _ => 0) (fun i _ => one_nil i), sumTo_zero]; rfl
  | x :: s, hd, hm => by
    rw [List.nodup_cons] at hd
    have e : sumTo n (one (x :: s)) = sumTo n (fun i => (if i = x then 1 else 0) + one s i) := by
      apply sumTo_congr
      intro i _
      unfold one
      by_cases h : i = x
      · subst h; simp [hd.1]
      · simp [h]
    rw [e, sumTo_add, sum_single, sum_one n s hd.2 (fun i hi => hm i (by simp [hi])), if_pos (hm x (by simp))]
    simp; omega

/-! ### Pulses near to numbers. -/
def nq (v : List Int) (k : Int) (i : Nat) : Int := k * far (v.getD i 0) / loud v
def nr (v : List Int) (k : Int) (i : Nat) : Int := k * far (v.getD i 0) % loud v
def nleft (v : List Int) (k : Int) : Int := k - sumTo v.length (nq v k)
def nadd (v : List Int) (k : Int) : List Nat := (ord (nr v k) v.length).take (nleft v k).toNat
def sgn (n : Int) : Int := if n < 0 then -1 else 1
def nmag (v : List Int) (k : Int) (i : Nat) : Int := nq v k i + one (nadd v k) i
def near (v : List Int) (k : Int) : List Int :=
  if k = 0 then List.replicate v.length 0 else (List.range v.length).map fun i => nmag v k i * sgn (v.getD i 0)
theorem near_length (v : List Int) (k : Int) : (near v k).length = v.length := by unfold near; split <;> simp
section
variable {v : List Int} {k : Int} (hL : 0 < loud v) (hk : 0 ≤ k)
include hL hk
theorem nq_nonneg (i : Nat) : 0 ≤ nq v k i := Int.ediv_nonneg (Int.mul_nonneg hk (far_nonneg _)) (by omega)
omit hk in
theorem nr_bd (i : Nat) : 0 ≤ nr v k i ∧ nr v k i < loud v := ⟨Int.emod_nonneg _ (by omega), Int.emod_lt_of_pos _ hL⟩
omit hL hk in
theorem nqr (i : Nat) : loud v * nq v k i + nr v k i = k * far (v.getD i 0) := Int.mul_ediv_add_emod _ _
omit hL hk in
theorem nr_sum : sumTo v.length (nr v k) = loud v * nleft v k := by
  have h : sumTo v.length (fun i => loud v * nq v k i + nr v k i) = sumTo v.length (fun i => k * far (v.getD i 0)) := sumTo_congr _ fun i _ => nqr i
  rw [sumTo_add, sumTo_mul, sumTo_mul, ← loud_is] at h
  have e : loud v * nleft v k = loud v * k - loud v * sumTo v.length (nq v k) := by unfold nleft; rw [Int.mul_sub]
  rw [e, Int.mul_comm (loud v) k]; omega
omit hk in
theorem nleft_nonneg : 0 ≤ nleft v k := by
  have h := nr_sum (v := v) (k := k)
  have h0 := sumTo_nonneg v.length (fun i _ => (nr_bd (k := k) hL i).1)
  rw [h] at h0
  rcases Int.lt_or_le (nleft v k) 0 with hn | hn
  · have := Int.mul_neg_of_pos_of_neg hL hn; omega
  · exact hn
omit hk in
theorem nleft_le : nleft v k ≤ v.length := by
  have h := nr_sum (v := v) (k := k)
  have h0 : sumTo v.length (nr v k) ≤ sumTo v.length (fun _ => loud v * 1) := sumTo_le _ fun i _ => by have := (nr_bd (k := k) hL i).2; omega
  rw [sumTo_mul, h] at h0
  have e : ∀ n : Nat, sumTo n (fun _ => 1) = n := by
    intro n; induction n with
    | zero => rfl
    | succ n ih => simp only [sumTo, ih]; omega
  rw [e] at h0
  exact Int.le_of_mul_le_mul_left h0 hL
omit hk in
theorem nadd_sum : sumTo v.length (one (nadd v k)) = nleft v k := by
  have h1 := nleft_nonneg (k := k) hL
  have h2 := nleft_le (k := k) hL
  rw [sum_one v.length (nadd v k)]
  · unfold nadd; rw [List.length_take, ord_length]; omega
  · exact (ord_nodup _ _).sublist (List.take_sublist _ _)
  · intro i hi
    exact (ord_mem _ _ i).1 (List.mem_of_mem_take hi)
omit hk in
theorem nmag_sum : sumTo v.length (nmag v k) = k := by
  have : sumTo v.length (nmag v k) = sumTo v.length (nq v k) + sumTo v.length (one (nadd v k)) := sumTo_add _ _ _
  rw [this, nadd_sum hL]; unfold nleft; omega
omit hL hk in
theorem one_bd (s : List Nat) (i : Nat) : 0 ≤ one s i ∧ one s i ≤ 1 := by unfold one; split <;> omega
theorem nmag_nonneg (i : Nat) : 0 ≤ nmag v k i := by have := nq_nonneg hL hk i; have := one_bd (nadd v k) i; unfold nmag; omega
omit hk in
/-- Who gets one more has a rest. -/
theorem nadd_rest {i : Nat} (hi : i ∈ nadd v k) : 0 < nr v k i := by
  rcases Int.lt_or_le 0 (nr v k i) with h | h
  · exact h
  · exfalso
    have hb := fun j => nr_bd (k := k) hL j
    -- all that are not among those have rest 0: the sum is less than left times loud
    have hle : sumTo v.length (nr v k) ≤ sumTo v.length (fun j => (loud v - 1) * one (nadd v k) j) := by
      apply sumTo_le
      intro j hj
      unfold one; split
      · have := (hb j).2; omega
      · rename_i hn
        have := take_ahd hi hj hn
        have := (hb j).1; have := (hb i).1
        unfold ahd at *; omega
    rw [sumTo_mul, nadd_sum hL, nr_sum, Int.sub_mul, Int.one_mul] at hle
    have h1 := nleft_nonneg (k := k) hL
    have h0 : nleft v k = 0 := by omega
    unfold nadd at hi
    rw [h0] at hi; simp at hi
omit hk in
theorem nmag_zero {i : Nat} (hv : v.getD i 0 = 0) : nmag v k i = 0 := by
  have hq : nq v k i = 0 := by unfold nq; rw [hv, far_zero]; simp
  have hr : nr v k i = 0 := by unfold nr; rw [hv, far_zero]; simp
  have hn : i ∉ nadd v k := fun h => by have := nadd_rest hL h; omega
  unfold nmag one; rw [hq, if_neg hn]; rfl
end
theorem near_getD (v : List Int) (k : Int) (h : k ≠ 0) (i : Nat) (hi : i < v.length) : (near v k).getD i 0 = nmag v k i * sgn (v.getD i 0) := by
  unfold near; rw [if_neg h]; exact getD_map_range _ _ _ hi
theorem far_sgn {m n : Int} (h : 0 ≤ m) : far (m * sgn n) = m := by
  unfold sgn; split
  · rw [Int.mul_neg, Int.mul_one, far_neg, far_eq, if_neg (by omega)]
  · rw [Int.mul_one, far_eq, if_neg (by omega)]
theorem near_loud {v : List Int} {k : Int} (hk : 0 ≤ k) (h : k = 0 ∨ 0 < loud v) : loud (near v k) = k := by
  by_cases h0 : k = 0
  · subst h0; unfold near; rw [if_pos rfl, loud_replicate_zero]
  · have hL : 0 < loud v := by omega
    rw [loud_is, near_length]
    rw [sumTo_congr (g := nmag v k) _ (fun i hi => by rw [near_getD v k h0 i hi, far_sgn (nmag_nonneg hL hk i)])]
    exact nmag_sum hL
/-- With the numbers' signs. -/
theorem near_sign {v : List Int} {k : Int} (hk : 0 ≤ k) (h : k = 0 ∨ 0 < loud v) (i : Nat) (hi : i < v.length) :
    ¬ ((near v k).getD i 0 < 0 ∧ 0 ≤ v.getD i 0) ∧ ¬ (0 < (near v k).getD i 0 ∧ v.getD i 0 ≤ 0) := by
  by_cases h0 : k = 0
  · subst h0; unfold near; rw [if_pos rfl]
    have : (List.replicate v.length (0 : Int)).getD i 0 = 0 := by rw [List.getD_eq_getElem?_getD, List.getElem?_replicate]; split <;> rfl
    rw [this]; omega
  · have hL : 0 < loud v := by omega
    rw [near_getD v k h0 i hi]
    have hm := nmag_nonneg hL hk i
    unfold sgn
    split
    · rw [Int.mul_neg, Int.mul_one]; omega
    · rw [Int.mul_one]
      by_cases hz : v.getD i 0 = 0
      · rw [nmag_zero hL hz]; omega
      · omega

/-! ### None is nearer. -/
def farFrom (v p : List Int) : Int := sumTo v.length (fun i => far (loud p * v.getD i 0 - loud v * p.getD i 0))
theorem farFrom_nonneg (v p : List Int) : 0 ≤ farFrom v p := sumTo_nonneg _ fun _ _ => far_nonneg _
theorem far_mul {a b : Int} (h : 0 ≤ a) : far (a * b) = a * far b := by
  rw [far_eq, far_eq]
  rcases Int.lt_or_le b 0 with hb | hb
  · rw [if_pos hb]
    split
    · rw [Int.mul_neg]
    · rename_i hn
      have h1 : a * b ≤ 0 := Int.mul_nonpos_of_nonneg_of_nonpos h (by omega)
      have h2 : a * b = 0 := by omega
      rw [Int.mul_neg, h2]; rfl
  · have h1 : 0 ≤ a * b := Int.mul_nonneg h hb
    rw [if_neg (by omega), if_neg (by omega)]
theorem far_far_le (a b : Int) : far (far a - far b) ≤ far (a - b) := by
  rw [far_eq a, far_eq b, far_eq (a - b)]
  split <;> split <;> split <;> rw [far_le] <;> omega
/-- One number: against the price mu. r: its rest, c: whether it gets one more, d: what another row gives it beyond the whole part. -/
theorem price {L r c d mu : Int} (hL : 0 < L) (hr0 : 0 ≤ r) (hr1 : r < L) (hc : c = 0 ∧ mu ≤ L - 2 * r ∨ c = 1 ∧ L - 2 * r ≤ mu) (hm1 : -L ≤ mu) (hm2 : mu ≤ L) :
    far (r - L * c) + mu * (d - c) ≤ far (r - L * d) := by
  have key : ∀ e : Int, 0 ≤ e → mu * e ≤ L * e ∧ -(L * e) ≤ mu * e := by
    intro e he
    refine ⟨Int.mul_le_mul_of_nonneg_right hm2 he, ?_⟩
    have := Int.mul_le_mul_of_nonneg_right hm1 he
    rwa [Int.neg_mul] at this
  rcases hc with ⟨rfl, hmu⟩ | ⟨rfl, hmu⟩
  · rw [Int.mul_zero, Int.sub_zero, Int.sub_zero]
    rcases Int.lt_or_le d 1 with hd | hd
    · -- d ≤ 0
      have h := (key (-d) (by omega)).2
      rw [Int.mul_neg, Int.mul_neg] at h
      have h3 : L * d ≤ 0 := Int.mul_nonpos_of_nonneg_of_nonpos (by omega) (by omega)
      rw [far_eq, far_eq, if_neg (by omega), if_neg (by omega)]; omega
    · have h := (key (d - 1) (by omega)).1
      rw [Int.mul_sub, Int.mul_sub, Int.mul_one, Int.mul_one] at h
      have h3 : L ≤ L * d := by have := Int.mul_le_mul_of_nonneg_left hd (show 0 ≤ L by omega); rwa [Int.mul_one] at this
      rw [far_eq, far_eq, if_neg (by omega), if_pos (by omega)]; omega
  · rw [Int.mul_one, Int.mul_sub, Int.mul_one]
    rcases Int.lt_or_le d 1 with hd | hd
    · have h := (key (-d) (by omega)).2
      rw [Int.mul_neg, Int.mul_neg] at h
      have h3 : L * d ≤ 0 := Int.mul_nonpos_of_nonneg_of_nonpos (by omega) (by omega)
      rw [far_eq, far_eq, if_pos (by omega), if_neg (by omega)]; omega
    · have h := (key (d - 1) (by omega)).1
      rw [Int.mul_sub, Int.mul_sub, Int.mul_one, Int.mul_one] at h
      have h3 : L ≤ L * d := by have := Int.mul_le_mul_of_nonneg_left hd (show 0 ≤ L by omega); rwa [Int.mul_one] at this
      rw [far_eq, far_eq, if_pos (by omega), if_pos (by omega)]; omega
/-- A price there is: no more than the rest of who gets one more, no less than that of who does not. -/
theorem some_price (r : Nat → Int) (L : Int) (n m : Nat) (hL : 0 < L) (hr : ∀ i, 0 ≤ r i ∧ r i < L) :
    ∃ t : Int, 0 ≤ t ∧ t < L ∧ (∀ i, i ∈ (ord r n).take m → t ≤ r i) ∧ (∀ i, i < n → i ∉ (ord r n).take m → r i ≤ t) := by
  have least : ∀ s : List Nat, s ≠ [] → ∃ i ∈ s, ∀ j ∈ s, r i ≤ r j := by
    intro s
    induction s with
    | nil => intro h; exact absurd rfl h
    | cons x s ih =>
      intro _
      by_cases hs : s = []
      · subst hs; exact ⟨x, by simp, by simp⟩
      · obtain ⟨i, hi, hj⟩ := ih hs
        rcases Int.le_total (r x) (r i) with h | h
        · refine ⟨x, by simp, fun j hjm => ?_⟩
          rcases List.mem_cons.1 hjm with rfl | hjm
          · exact Int.le_refl _
          · have := hj j hjm; omega
        · refine ⟨i, by simp [hi], fun j hjm => ?_⟩
          rcases List.mem_cons.1 hjm with rfl | hjm
          · exact h
          · exact hj j hjm
  by_cases hs : (ord r n).take m = []
  · rw [hs]
    exact ⟨L - 1, by omega, by omega, by simp, fun i _ _ => by have := (hr i).2; omega⟩
  · obtain ⟨i0, h0, h1⟩ := least _ hs
    refine ⟨r i0, (hr i0).1, (hr i0).2, h1, fun i hi hn => ?_⟩
    have := take_ahd h0 hi hn
    unfold ahd at this; omega
/-- NONE IS NEARER. -/
theorem near_best {v p : List Int} {k : Int} (hk : 0 ≤ k) (h : k = 0 ∨ 0 < loud v) (hl : p.length = v.length) (hp : loud p = k) : farFrom v (near v k) ≤ farFrom v p := by
  by_cases h0 : k = 0
  · subst h0
    have hz : ∀ i, p.getD i 0 = 0 := by
      intro i
      rw [List.getD_eq_getElem?_getD]
      rcases Nat.lt_or_ge i p.length with hi | hi
      · rw [List.getElem?_eq_getElem hi]; exact loud_eq_zero hp _ (List.getElem_mem hi)
      · rw [List.getElem?_eq_none hi]; rfl
    unfold farFrom
    rw [near_loud (by omega) h, hp]
    apply Int.le_of_eq
    apply sumTo_congr
    intro i hi
    rw [hz]
    have : (near v 0).getD i 0 = 0 := by
      unfold near; rw [if_pos rfl, List.getD_eq_getElem?_getD, List.getElem?_replicate]; split <;> rfl
    rw [this]
  · have hL : 0 < loud v := by omega
    obtain ⟨t, ht0, ht1, hin, hout⟩ := some_price (nr v k) (loud v) v.length (nleft v k).toNat hL (fun i => nr_bd hL i)
    have e1 : farFrom v (near v k) = sumTo v.length (fun i => far (nr v k i - loud v * one (nadd v k) i)) := by
      unfold farFrom
      apply sumTo_congr
      intro i hi
      rw [near_loud hk h, near_getD v k h0 i hi]
      have hq := nqr (v := v) (k := k) i
      have hm : k * v.getD i 0 - loud v * (nmag v k i * sgn (v.getD i 0)) = (k * far (v.getD i 0) - loud v * nmag v k i) * sgn (v.getD i 0) := by
        rw [Int.sub_mul, Int.mul_assoc, Int.mul_assoc]
        have : far (v.getD i 0) * sgn (v.getD i 0) = v.getD i 0 := by
          rw [far_eq]; unfold sgn; split
          · rw [Int.neg_mul_neg, Int.mul_one]
          · rw [Int.mul_one]
        rw [this]
      rw [hm]
      have hs : ∀ x : Int, far (x * sgn (v.getD i 0)) = far x := by
        intro x; unfold sgn; split
        · rw [Int.mul_neg, Int.mul_one, far_neg]
        · rw [Int.mul_one]
      rw [hs, ← hq]
      unfold nmag
      rw [Int.mul_add]
      congr 1; omega
    have e2 : sumTo v.length (fun i => far (nr v k i - loud v * (far (p.getD i 0) - nq v k i))) ≤ farFrom v p := by
      unfold farFrom
      apply sumTo_le
      intro i hi
      have hq := nqr (v := v) (k := k) i
      rw [hp]
      have h1 := far_far_le (k * v.getD i 0) (loud v * p.getD i 0)
      rw [far_mul hk, far_mul (by omega)] at h1
      rw [Int.mul_sub]
      rw [← hq] at h1
      rw [show nr v k i - (loud v * far (p.getD i 0) - loud v * nq v k i) = loud v * nq v k i + nr v k i - loud v * far (p.getD i 0) by omega]
      exact h1
    have e3 : sumTo v.length (fun i => far (nr v k i - loud v * one (nadd v k) i) + (loud v - 2 * t) * ((far (p.getD i 0) - nq v k i) - one (nadd v k) i)) ≤ sumTo v.length (fun i => far (nr v k i - loud v * (far (p.getD i 0) - nq v k i))) := by
      apply sumTo_le
      intro i hi
      have hb := nr_bd (k := k) hL i
      refine price hL hb.1 hb.2 ?_ (by omega) (by omega)
      by_cases hm : i ∈ nadd v k
      · right; refine ⟨by unfold one; rw [if_pos hm], ?_⟩
        have := hin i hm; omega
      · left; refine ⟨by unfold one; rw [if_neg hm], ?_⟩
        have := hout i hi hm; omega
    rw [sumTo_add, sumTo_mul] at e3
    have e4 : sumTo v.length (fun i => far (p.getD i 0) - nq v k i - one (nadd v k) i) = 0 := by
      have h1 : sumTo v.length (fun i => (far (p.getD i 0) - nq v k i - one (nadd v k) i) + nmag v k i) = sumTo v.length (fun i => far (p.getD i 0)) := by
        apply sumTo_congr; intro i _; unfold nmag; omega
      rw [sumTo_add, nmag_sum hL, ← hl, ← loud_is, hp] at h1
      rw [← hl]; omega
    rw [e4, Int.mul_zero] at e3
    rw [e1]; omega
/-! ### What is a whole row already is its own. -/
theorem loud_scale (b : Int) (hb : 0 ≤ b) : ∀ p : List Int, loud (p.map (b * ·)) = b * loud p
  | [] => by simp [loud]
  | x :: p => by simp only [List.map_cons, loud, loud_scale b hb p, far_mul hb, Int.mul_add]
theorem scale_getD (b : Int) (p : List Int) (i : Nat) : (p.map (b * ·)).getD i 0 = b * p.getD i 0 := by
  rw [List.getD_eq_getElem?_getD, List.getD_eq_getElem?_getD, List.getElem?_map]
  cases p[i]? <;> simp
theorem near_whole {p : List Int} {b : Int} (hb : 0 < b) (hk : 0 < loud p) : near (p.map (b * ·)) (loud p) = p := by
  have hL : 0 < loud (p.map (b * ·)) := by rw [loud_scale b (by omega)]; exact Int.mul_pos hb hk
  have hq : ∀ i, nq (p.map (b * ·)) (loud p) i = far (p.getD i 0) := by
    intro i
    unfold nq
    rw [scale_getD, far_mul (by omega), loud_scale b (by omega), ← Int.mul_assoc, Int.mul_comm (loud p) b]
    exact Int.mul_ediv_cancel_left _ (by have := Int.mul_pos hb hk; omega)
  have hl0 : nleft (p.map (b * ·)) (loud p) = 0 := by
    unfold nleft
    rw [sumTo_congr _ (fun i _ => hq i), List.length_map, ← loud_is]; omega
  apply ext_getD
  · rw [near_length, List.length_map]
  intro i hi
  rw [near_length, List.length_map] at hi
  rw [near_getD _ _ (by omega) i (by rw [List.length_map]; exact hi)]
  unfold nmag nadd one
  rw [hl0, hq, scale_getD]
  simp only [Int.toNat_zero, List.take_zero, List.not_mem_nil, if_false, Int.add_zero]
  unfold sgn
  rw [far_eq]
  by_cases h0 : p.getD i 0 < 0
  · have : b * p.getD i 0 < 0 := Int.mul_neg_of_pos_of_neg hb h0
    rw [if_pos h0, if_pos this]; omega
  · have : 0 ≤ b * p.getD i 0 := Int.mul_nonneg (by omega) (by omega)
    rw [if_neg h0, if_neg (by omega)]; omega
theorem farFrom_whole {p : List Int} {b : Int} (hb : 0 < b) : farFrom (p.map (b * ·)) p = 0 := by
  unfold farFrom
  rw [sumTo_congr (g := fun _ => 0), sumTo_zero]
  intro i _
  rw [scale_getD, loud_scale b (by omega)]
  have : loud p * (b * p.getD i 0) - b * loud p * p.getD i 0 = 0 := by rw [← Int.mul_assoc, Int.mul_comm (loud p) b]; omega
  rw [this]; rfl
/-- No further than one pulse each, at its loudness. -/
theorem near_far_le {v : List Int} {k : Int} (hk : 0 ≤ k) (h : k = 0 ∨ 0 < loud v) : farFrom v (near v k) ≤ loud v * v.length := by
  have hn := loud_nonneg v
  unfold farFrom
  have e : ∀ n : Nat, sumTo n (fun _ => loud v * 1) = loud v * n := by
    intro n
    rw [sumTo_mul]
    have : ∀ n : Nat, sumTo n (fun _ => 1) = n := by
      intro n; induction n with
      | zero => rfl
      | succ n ih => simp only [sumTo, ih]; omega
    rw [this]
  rw [← e]
  apply sumTo_le
  intro i hi
  rw [near_loud hk h, Int.mul_one]
  by_cases h0 : k = 0
  · subst h0
    have : (near v 0).getD i 0 = 0 := by
      unfold near; rw [if_pos rfl, List.getD_eq_getElem?_getD, List.getElem?_replicate]; split <;> rfl
    rw [this]; simp [far_zero]; omega
  · have hL : 0 < loud v := by omega
    rw [near_getD v k h0 i hi]
    have hq := nqr (v := v) (k := k) i
    have hb := nr_bd (k := k) hL i
    have h1 := one_bd (nadd v k) i
    have hf := far_eq (v.getD i 0)
    have hm : k * v.getD i 0 = (k * far (v.getD i 0)) * sgn (v.getD i 0) := by
      rw [Int.mul_assoc]; congr 1
      rw [hf]; unfold sgn; split
      · rw [Int.neg_mul_neg, Int.mul_one]
      · rw [Int.mul_one]
    rw [hm, ← Int.mul_assoc, ← Int.sub_mul, ← hq]
    unfold nmag one sgn
    rw [Int.mul_add]
    split <;> split <;> (simp only [Int.mul_neg, Int.mul_one, Int.mul_zero]; rw [far_le]; omega)
end Ph
/- Plain law: how loud, in few steps (chapter 8). No program in sight. -/
namespace Ph
def step (n : Nat) : Nat := if n = 0 then 0 else 1 + 4 * Nat.log2 n + 4 * (n - 2 ^ Nat.log2 n) / 2 ^ Nat.log2 n
def mean (g : Nat) : Nat := if g = 0 then 0 else 2 ^ ((g - 1) / 4) + (2 * ((g - 1) % 4) + 1) * 2 ^ ((g - 1) / 4) / 8
/-- Is there a value of a gain? -/
def valued (g : Nat) : Bool := decide (g ≤ 53) && decide (mean g ≤ 8000) && decide (step (mean g) = g)

def stepOk (n : Nat) : Bool :=
  decide (step n ≤ 53) && decide (mean (step n) ≤ 8000) && decide (step (mean (step n)) = step n) && decide (8 * (mean (step n) - n) ≤ n) && decide (8 * (n - mean (step n)) ≤ n) && decide (step n ≤ step (n + 1))
def allOk (p : Nat → Bool) : Nat → Bool
  | 0 => p 0
  | n + 1 => p (n + 1) && allOk p n
theorem allOk_at (p : Nat → Bool) : ∀ n, allOk p n = true → ∀ i, i ≤ n → p i = true
  | 0, h, i, hi => by have : i = 0 := by omega
                      rw [this]; exact h
  | n + 1, h, i, hi => by
    simp only [allOk, Bool.and_eq_true] at h
    rcases Nat.lt_or_ge i (n + 1) with h1 | h1
    · exact allOk_at p n h.2 i (by omega)
    · have : i = n + 1 := by omega
      rw [this]; exact h.1
theorem steps_ok : allOk stepOk 8000 = true := by decide +kernel
theorem step_ok {n : Nat} (h : n ≤ 8000) : step n ≤ 53 ∧ mean (step n) ≤ 8000 ∧ step (mean (step n)) = step n ∧ 8 * (mean (step n) - n) ≤ n ∧ 8 * (n - mean (step n)) ≤ n ∧ step n ≤ step (n + 1) := by
  have := allOk_at stepOk 8000 steps_ok n h
  simp only [stepOk, Bool.and_eq_true, decide_eq_true_eq] at this
  omega
theorem step_mono {a b : Nat} (h : a ≤ b) (hb : b ≤ 8000) : step a ≤ step b := by
  induction b with
  | zero => have : a = 0 := by omega
            rw [this]; omega
  | succ b ih =>
    rcases Nat.lt_or_ge a (b + 1) with h1 | h1
    · have := ih (by omega) (by omega); have := (step_ok (n := b) (by omega)).2.2.2.2.2; omega
    · have : a = b + 1 := by omega
      rw [this]; omega
theorem valued_step {n : Nat} (h : n ≤ 8000) : valued (step n) = true := by
  have := step_ok h
  simp only [valued, Bool.and_eq_true, decide_eq_true_eq]; omega
def twiceOk (n : Nat) : Bool := decide (n = 0) || decide (step (2 * n) = step n + 4)
theorem twices_ok : allOk twiceOk 4000 = true := by decide +kernel
theorem step_twice {n : Nat} (h0 : 1 ≤ n) (h : n ≤ 4000) : step (2 * n) = step n + 4 := by
  have := allOk_at twiceOk 4000 twices_ok n h
  simp only [twiceOk, Bool.or_eq_true, decide_eq_true_eq] at this
  omega
theorem step_pos {n : Nat} (h : 1 ≤ n) : 1 ≤ step n := by unfold step; rw [if_neg (by omega), Nat.add_assoc]; exact Nat.le_add_right _ _
theorem step_zero : step 0 = 0 := rfl
theorem mean_zero : mean 0 = 0 := rfl
/-- The parts of a step: m doublings, and q fourths. -/
theorem step_is {n m q : Nat} (h1 : 2 ^ m ≤ n) (h2 : n < 2 ^ (m + 1)) (hq1 : q * 2 ^ m ≤ 4 * (n - 2 ^ m)) (hq2 : 4 * (n - 2 ^ m) < (q + 1) * 2 ^ m) : step n = 1 + 4 * m + q := by
  have hp : 0 < 2 ^ m := Nat.two_pow_pos m
  have h0 : n ≠ 0 := by omega
  have hl : Nat.log2 n = m := by
    have a1 := (Nat.le_log2 h0).2 h1
    have a2 := (Nat.log2_lt h0).2 h2
    omega
  unfold step
  rw [if_neg h0, hl]
  have : 4 * (n - 2 ^ m) / 2 ^ m = q := by
    have b1 := (Nat.le_div_iff_mul_le hp).2 hq1
    have b2 := (Nat.div_lt_iff_lt_mul hp).2 hq2
    omega
  rw [this]
/-- No step of a number is above twice it. -/
def meanOk (n : Nat) : Bool := decide (mean (step n) ≤ 2 * n)
theorem means_ok : allOk meanOk 8000 = true := by decide +kernel
theorem mean_le {n : Nat} (h : n ≤ 8000) : mean (step n) ≤ 2 * n := by
  have := allOk_at meanOk 8000 means_ok n h
  simpa [meanOk] using this
end Ph
/- Plain law: bands, and shares that are all together 256 (chapters 9, 10). No program in sight. -/
namespace Ph
/-- Added up. -/
def total : List Int → Int
  | [] => 0
  | x :: l => x + total l
theorem total_append (a b : List Int) : total (a ++ b) = total a + total b := by
  induction a with
  | nil => simp [total]
  | cons x a ih => simp [total, ih]; omega
theorem total_snoc (a : List Int) (x : Int) : total (a ++ [x]) = total a + x := by simp [total_append, total]
theorem total_nonneg {l : List Int} (h : ∀ x ∈ l, 0 ≤ x) : 0 ≤ total l := by
  induction l with
  | nil => simp [total]
  | cons x l ih => have := ih (fun y hy => h y (by simp [hy])); have := h x (by simp); simp only [total]; omega
theorem total_le {l : List Int} {m : Int} (h : ∀ x ∈ l, x ≤ m) : total l ≤ l.length * m := by
  induction l with
  | nil => simp [total]
  | cons x l ih =>
    have h1 := ih (fun y hy => h y (by simp [hy])); have h2 := h x (by simp)
    have e : ((x :: l).length : Int) * m = l.length * m + m := by rw [List.length_cons, Int.natCast_add, Int.add_mul]; simp
    rw [e]; simp only [total]; omega
theorem total_take_le {l : List Int} (h : ∀ x ∈ l, 0 ≤ x) (k : Nat) : total (l.take k) ≤ total l := by
  have h1 := total_append (l.take k) (l.drop k)
  rw [List.take_append_drop] at h1
  have := total_nonneg (l := l.drop k) (fun x hx => h x (List.mem_of_mem_drop hx)); omega
theorem mem_le_total {l : List Int} (h : ∀ x ∈ l, 0 ≤ x) : ∀ x ∈ l, x ≤ total l := by
  induction l with
  | nil => simp
  | cons y l ih =>
    intro x hx
    have h0 := h y (by simp)
    have h1 := total_nonneg (l := l) (fun z hz => h z (by simp [hz]))
    simp only [total]
    rcases List.mem_cons.1 hx with rfl | hx
    · omega
    · have := ih (fun z hz => h z (by simp [hz])) x hx; omega
/-- What lies ahead of the i-th. -/
def pre (f : List Int) (i : Nat) : Int := total (f.take i)
theorem pre_zero (f : List Int) : pre f 0 = 0 := rfl
theorem pre_succ (f : List Int) (i : Nat) (h : i < f.length) : pre f (i + 1) = pre f i + f.getD i 0 := by unfold pre; rw [take_snoc f i h, total_snoc]
theorem pre_all (f : List Int) : pre f f.length = total f := by unfold pre; rw [List.take_length]
theorem pre_nonneg {f : List Int} (h : ∀ x ∈ f, 0 ≤ x) (i : Nat) : 0 ≤ pre f i := total_nonneg fun x hx => h x (List.mem_of_mem_take hx)
theorem pre_mono {f : List Int} (h : ∀ x ∈ f, 0 ≤ x) {i j : Nat} (hij : i ≤ j) : pre f i ≤ pre f j := by
  unfold pre
  have : f.take i = (f.take j).take i := by rw [List.take_take, Nat.min_eq_left hij]
  rw [this]; exact total_take_le (fun x hx => h x (List.mem_of_mem_take hx)) i
/-- Whose a place is. -/
def atL : List Int → Int → Nat
  | [], _ => 0
  | x :: f, a => if x ≤ a then atL f (a - x) + 1 else 0
theorem atL_spec : ∀ (f : List Int) (a : Int), 0 ≤ a → a < total f → atL f a < f.length ∧ pre f (atL f a) ≤ a ∧ a < pre f (atL f a + 1)
  | [], a, h0, h1 => by simp [total] at h1; omega
  | x :: f, a, h0, h1 => by
    simp only [total] at h1
    unfold atL
    split
    · rename_i hx
      have ih := atL_spec f (a - x) (by omega) (by omega)
      unfold pre at *
      simp only [List.length_cons, List.take_succ_cons, total]
      omega
    · unfold pre
      simp only [List.length_cons, List.take_succ_cons, List.take_zero, total]
      omega
theorem at_unique {f : List Int} (h : ∀ x ∈ f, 0 ≤ x) {a : Int} {i j : Nat} (h1 : pre f i ≤ a) (h2 : a < pre f (i + 1)) (h3 : pre f j ≤ a) (h4 : a < pre f (j + 1)) : i = j := by
  rcases Nat.lt_trichotomy i j with hl | hl | hl
  · have := pre_mono h (show i + 1 ≤ j by omega); omega
  · exact hl
  · have := pre_mono h (show j + 1 ≤ i by omega); omega

/-! ### The greatest, the first. -/
def best (f : Nat → Int) : Nat → Nat
  | 0 => 0
  | n + 1 => if f (best f n) < f n then n else best f n
theorem best_lt (f : Nat → Int) : ∀ n, best f (n + 1) < n + 1
  | 0 => by unfold best; split <;> simp [best]
  | n + 1 => by have := best_lt f n; rw [best]; split <;> omega
theorem best_ge (f : Nat → Int) : ∀ n i, i < n → f i ≤ f (best f n)
  | 0, i, h => by omega
  | n + 1, i, h => by
    rw [best]
    rcases Nat.lt_or_ge i n with hi | hi
    · have := best_ge f n i hi; split <;> omega
    · have : i = n := by omega
      subst this; split <;> omega
theorem best_first (f : Nat → Int) : ∀ n i, i < best f n → f i < f (best f n)
  | 0, i, h => by simp [best] at h
  | n + 1, i, h => by
    rw [best] at h ⊢
    split at h
    · rename_i hlt; rw [if_pos hlt]
      rcases Nat.eq_zero_or_pos n with h0 | h0
      · omega
      · have := best_ge f n i h; omega
    · rename_i hlt; rw [if_neg hlt]; exact best_first f n i h
theorem best_is {f : Nat → Int} {n i : Nat} (hi : i < n) (h1 : ∀ j, j < n → f j ≤ f i) (h2 : ∀ j, j < i → f j < f i) : best f n = i := by
  obtain ⟨m, rfl⟩ : ∃ m, n = m + 1 := ⟨n - 1, by omega⟩
  have hb := best_lt f m
  rcases Nat.lt_trichotomy (best f (m + 1)) i with h | h | h
  · have := h2 _ h; have := best_ge f (m + 1) i hi; omega
  · exact h
  · have := best_first f (m + 1) i h; have := h1 _ hb; omega
def bestL (l : List Int) : Nat := best (fun i => l.getD i 0) l.length
theorem bestL_lt {l : List Int} (h : l ≠ []) : bestL l < l.length := by
  unfold bestL
  obtain ⟨m, hm⟩ : ∃ m, l.length = m + 1 := ⟨l.length - 1, by have := List.length_pos_iff.2 h; omega⟩
  rw [hm]; exact best_lt _ m
/-- One more, or one less, at a place. -/
def bump (l : List Int) (i : Nat) (d : Int) : List Int := l.set i (l.getD i 0 + d)
theorem bump_length (l : List Int) (i : Nat) (d : Int) : (bump l i d).length = l.length := by simp [bump]
theorem bump_getD (l : List Int) (i j : Nat) (d : Int) (hi : i < l.length) : (bump l i d).getD j 0 = if i = j then l.getD i 0 + d else l.getD j 0 := by
  unfold bump
  rw [List.getD_eq_getElem?_getD, List.getElem?_set]
  by_cases h : i = j
  · subst h; simp [hi]
  · simp [h]
theorem total_set (l : List Int) : ∀ (i : Nat) (x : Int), i < l.length → total (l.set i x) = total l - l.getD i 0 + x := by
  induction l with
  | nil => intro i x h; simp at h
  | cons y l ih =>
    intro i x h
    cases i with
    | zero => simp [total]; omega
    | succ i => simp only [List.set_cons_succ, total]; rw [ih i x (by simpa using h)]; simp; omega
theorem total_bump {l : List Int} {i : Nat} {d : Int} (hi : i < l.length) : total (bump l i d) = total l + d := by unfold bump; rw [total_set l i _ hi]; omega
def adj : Nat → Int → List Int → List Int
  | 0, _, l => l
  | k + 1, d, l => adj k d (bump l (bestL l) d)
theorem adj_length : ∀ k d l, (adj k d l).length = l.length
  | 0, _, _ => rfl
  | k + 1, d, l => by rw [adj, adj_length k, bump_length]
theorem adj_total : ∀ (k : Nat) (d : Int) (l : List Int), l ≠ [] → total (adj k d l) = total l + k * d
  | 0, d, l, _ => by simp [adj]
  | k + 1, d, l, h => by
    have hb := bestL_lt h
    have hne : bump l (bestL l) d ≠ [] := by
      intro he; have := congrArg List.length he; rw [bump_length] at this; simp at this; exact h this
    rw [adj, adj_total k d _ hne, total_bump hb, Int.natCast_add, Int.add_mul]; simp; omega
def gap (l : List Int) : Nat := (256 - total l).natAbs
def dirn (l : List Int) : Int := if 256 < total l then -1 else 1
def finish (l : List Int) : List Int := adj (gap l) (dirn l) l
theorem finish_done {l : List Int} (h : total l = 256) : finish l = l := by unfold finish gap; rw [h]; rfl
theorem finish_step {l : List Int} (h : total l ≠ 256) (hne : l ≠ []) : finish l = finish (bump l (bestL l) (dirn l)) ∧ gap (bump l (bestL l) (dirn l)) + 1 = gap l := by
  have hb := bestL_lt hne
  have ht : total (bump l (bestL l) (dirn l)) = total l + dirn l := total_bump hb
  have hg : gap (bump l (bestL l) (dirn l)) + 1 = gap l := by unfold gap; rw [ht]; unfold dirn; split <;> omega
  refine ⟨?_, hg⟩
  unfold finish
  rw [← hg, adj]
  by_cases hz : gap (bump l (bestL l) (dirn l)) = 0
  · rw [hz]; rfl
  · have : dirn (bump l (bestL l) (dirn l)) = dirn l := by
      unfold gap at hz; rw [ht] at hz
      have hd : dirn (bump l (bestL l) (dirn l)) = if 256 < total l + dirn l then -1 else 1 := by rw [← ht]; rfl
      rw [hd]
      unfold dirn at hz ⊢
      by_cases h1 : 256 < total l
      · rw [if_pos h1] at hz ⊢; rw [if_pos (by omega)]
      · rw [if_neg h1] at hz ⊢; rw [if_neg (by omega)]
    rw [this]
theorem finish_length (l : List Int) : (finish l).length = l.length := adj_length _ _ _
theorem finish_total {l : List Int} (h : l ≠ []) : total (finish l) = 256 := by
  unfold finish; rw [adj_total _ _ _ h]; unfold gap dirn
  split
  · omega
  · omega
/-- What is positive stays so, what is 0 stays so: of no more than forty that are not negative, of which one is positive. -/
theorem max_pos {l : List Int} (h0 : ∃ i, i < l.length ∧ 0 < l.getD i 0) : 0 < l.getD (bestL l) 0 := by
  obtain ⟨i, hi, hp⟩ := h0
  have := best_ge (fun i => l.getD i 0) l.length i hi
  unfold bestL; omega
theorem le_max {l : List Int} {i : Nat} (hi : i < l.length) : l.getD i 0 ≤ l.getD (bestL l) 0 := best_ge (fun i => l.getD i 0) l.length i hi
theorem total_le_max (l : List Int) : total l ≤ l.length * l.getD (bestL l) 0 := by
  apply total_le
  intro x hx
  obtain ⟨i, hi, rfl⟩ := List.mem_iff_getElem.1 hx
  have := le_max hi
  rw [List.getD_eq_getElem?_getD, List.getElem?_eq_getElem hi] at this
  simpa using this
/-- The relation that every turn of the adjusting keeps. -/
def Fits (l out : List Int) : Prop := out.length = l.length ∧ ∀ i, i < l.length → 0 ≤ out.getD i 0 ∧ (0 < out.getD i 0 ↔ 0 < l.getD i 0)
theorem fits_bump {l out : List Int} (hl : l.length ≤ 40) (hp : ∃ i, i < l.length ∧ 0 < l.getD i 0) (h : Fits l out) : Fits l (bump out (bestL out) (dirn out)) := by
  obtain ⟨h1, h2⟩ := h
  obtain ⟨i0, hi0, hp0⟩ := hp
  have hne : out ≠ [] := by intro he; rw [he] at h1; simp at h1; omega
  have hb := bestL_lt hne
  have hpos := max_pos (l := out) ⟨i0, by omega, (h2 i0 hi0).2.2 hp0⟩
  refine ⟨by rw [bump_length, h1], fun i hi => ?_⟩
  rw [bump_getD _ _ _ _ hb]
  have hi2 := h2 i hi
  split
  · rename_i e
    subst e
    unfold dirn
    split
    · rename_i hgt
      have hm := total_le_max out
      have : (out.length : Int) * out.getD (bestL out) 0 ≤ 40 * out.getD (bestL out) 0 := Int.mul_le_mul_of_nonneg_right (by omega) (by omega)
      refine ⟨by omega, ?_⟩
      constructor
      · intro _; exact hi2.2.1 hpos
      · intro _; omega
    · refine ⟨by omega, ?_⟩
      constructor
      · intro _; exact hi2.2.1 hpos
      · intro _; omega
  · exact hi2
theorem fits_finish {l : List Int} (hl : l.length ≤ 40) (hp : ∃ i, i < l.length ∧ 0 < l.getD i 0) : ∀ (g : Nat) (out : List Int), gap out = g → Fits l out → Fits l (finish out)
  | 0, out, hg, h => by rw [finish_done (by unfold gap at hg; omega)]; exact h
  | g + 1, out, hg, h => by
    have h256 : total out ≠ 256 := by unfold gap at hg; omega
    have hne : out ≠ [] := by
      obtain ⟨i, hi, _⟩ := hp
      intro he; have := h.1; rw [he] at this; simp at this; omega
    have hs := finish_step h256 hne
    rw [hs.1]
    exact fits_finish hl hp g _ (by omega) (fits_bump hl hp h)
def share1 (all n : Int) : Int := if 0 < n then (if n * 256 / all < 1 then 1 else n * 256 / all) else 0
def firsts (l : List Int) : List Int := l.map (share1 (total l))
def scaled (l : List Int) : List Int := finish (firsts l)
theorem firsts_getD (l : List Int) (i : Nat) (h : i < l.length) : (firsts l).getD i 0 = share1 (total l) (l.getD i 0) := by
  unfold firsts
  rw [List.getD_eq_getElem?_getD, List.getD_eq_getElem?_getD, List.getElem?_map, List.getElem?_eq_getElem h]; rfl
theorem firsts_length (l : List Int) : (firsts l).length = l.length := by simp [firsts]
theorem firsts_fits {l : List Int} (h0 : ∀ x ∈ l, 0 ≤ x) : Fits l (firsts l) := by
  refine ⟨firsts_length l, fun i hi => ?_⟩
  rw [firsts_getD l i hi]
  have h1 := h0 _ (getD_mem hi)
  unfold share1
  split
  · split <;> omega
  · omega
theorem some_pos {l : List Int} (h0 : ∀ x ∈ l, 0 ≤ x) (ht : total l ≠ 0) : ∃ i, i < l.length ∧ 0 < l.getD i 0 := by
  induction l with
  | nil => exact absurd rfl ht
  | cons x l ih =>
    have hx := h0 x (by simp)
    by_cases h : x = 0
    · subst h
      obtain ⟨i, hi, hp⟩ := ih (fun y hy => h0 y (by simp [hy])) (by simpa [total] using ht)
      exact ⟨i + 1, by simpa using hi, by simpa using hp⟩
    · exact ⟨0, by simp, by simp; omega⟩
theorem scaled_ok {l : List Int} (hl : l.length ≤ 40) (h0 : ∀ x ∈ l, 0 ≤ x) (ht : total l ≠ 0) : Fits l (scaled l) ∧ total (scaled l) = 256 := by
  have hp := some_pos h0 ht
  refine ⟨fits_finish hl hp _ _ rfl (firsts_fits h0), finish_total ?_⟩
  obtain ⟨i, hi, _⟩ := hp
  intro he; have := congrArg List.length he; rw [firsts_length, List.length_nil] at this; omega
/-- No share is above Total, ahead of the adjusting, and none above 10240 on the way. -/
theorem share1_le {all n : Int} (h1 : n ≤ all) : 0 ≤ share1 all n ∧ share1 all n ≤ 256 := by
  unfold share1
  split
  · have : n * 256 / all ≤ 256 := Int.ediv_le_of_le_mul (by omega) (by rw [Int.mul_comm 256]; exact Int.mul_le_mul_of_nonneg_right h1 (by omega))
    split <;> omega
  · omega
theorem firsts_total_le {l : List Int} (hl : l.length ≤ 40) (h0 : ∀ x ∈ l, 0 ≤ x) : 0 ≤ total (firsts l) ∧ total (firsts l) ≤ 10240 := by
  have hb : ∀ y ∈ firsts l, 0 ≤ y ∧ y ≤ 256 := by
    intro y hy
    unfold firsts at hy
    obtain ⟨x, hx, rfl⟩ := List.mem_map.1 hy
    exact share1_le (mem_le_total h0 x hx)
  have h1 := total_nonneg (l := firsts l) (fun y hy => (hb y hy).1)
  have h2 := total_le (l := firsts l) (m := 256) (fun y hy => (hb y hy).2)
  rw [firsts_length] at h2
  omega

/-! ### Counted alike. -/
theorem total_replicate (n : Nat) (x : Int) : total (List.replicate n x) = n * x := by
  induction n with
  | zero => simp [total]
  | succ n ih => rw [List.replicate_succ]; simp only [total, ih]; rw [Int.natCast_add, Int.add_mul]; simp; omega
theorem adj_front (q : Int) (n : Nat) : ∀ (k : Nat) (x : Int), q ≤ x → adj k 1 (x :: List.replicate n q) = (x + k) :: List.replicate n q
  | 0, x, _ => by simp [adj]
  | k + 1, x, h => by
    have hb : bestL (x :: List.replicate n q) = 0 := by
      unfold bestL
      apply best_is
      · simp
      · intro j hj
        simp only [List.length_cons, List.length_replicate] at hj
        cases j with
        | zero => omega
        | succ j => simp [List.getD_eq_getElem?_getD, show j < n by omega]; exact h
      · intro j hj; omega
    rw [adj, hb]
    have : bump (x :: List.replicate n q) 0 1 = (x + 1) :: List.replicate n q := by simp [bump]
    rw [this, adj_front q n k (x + 1) (by omega)]
    congr 1; omega
theorem scaled_alike {n : Nat} {x : Int} (hn : n + 1 ≤ 40) (hx : 1 ≤ x) :
    scaled (List.replicate (n + 1) x) = (256 - n * (256 / ((n + 1 : Nat) : Int))) :: List.replicate n (256 / ((n + 1 : Nat) : Int)) := by
  generalize hq : 256 / ((n + 1 : Nat) : Int) = q
  have hd : x * 256 / (((n + 1 : Nat) : Int) * x) = q := by
    rw [Int.mul_comm x 256, ← hq]; exact Int.mul_ediv_mul_of_pos_left _ _ (by omega)
  have hq1 : 1 ≤ q := by
    rw [← hq]; exact (Int.le_ediv_iff_mul_le (by omega)).2 (by omega)
  have hqn : ((n + 1 : Nat) : Int) * q ≤ 256 := by rw [← hq]; exact Int.mul_ediv_self_le (by omega)
  have hf : firsts (List.replicate (n + 1) x) = List.replicate (n + 1) q := by
    unfold firsts
    rw [List.map_replicate, total_replicate]
    unfold share1
    rw [hd, if_pos (by omega), if_neg (by omega)]
  unfold scaled
  rw [hf]
  unfold finish gap dirn
  rw [total_replicate, if_neg (by omega), List.replicate_succ, adj_front q n _ q (Int.le_refl _)]
  congr 1
  have e : ((n + 1 : Nat) : Int) * q = n * q + q := by rw [Int.natCast_add, Int.add_mul]; simp
  rw [e] at hqn ⊢
  omega

/-! ### Bands. -/
def bandErr (s : List Int) : Int :=
  if s.length = 0 then 5 else if 8 < s.length then 4 else if s.all (fun x => decide (1 ≤ x) && decide (x ≤ 6)) = true then (if 32 < total s then 4 else 0) else 1
theorem bandErr_zero {s : List Int} : bandErr s = 0 ↔ 1 ≤ s.length ∧ s.length ≤ 8 ∧ (∀ x ∈ s, 1 ≤ x ∧ x ≤ 6) ∧ total s ≤ 32 := by
  unfold bandErr
  split
  · simp; omega
  · split
    · simp; omega
    · split
      · rename_i h
        simp only [List.all_eq_true, Bool.and_eq_true, decide_eq_true_eq] at h
        split
        · simp; intros; omega
        · simp; exact ⟨by omega, by omega, h, by omega⟩
      · rename_i h
        simp only [List.all_eq_true, Bool.and_eq_true, decide_eq_true_eq] at h
        constructor
        · intro h1; omega
        · intro h1; exact absurd h1.2.2.1 h
def cut : List Int → List Int → List (List Int)
  | _, [] => []
  | l, n :: s => l.take n.toNat :: cut (l.drop n.toNat) s
theorem cut_length : ∀ (s l : List Int), (cut l s).length = s.length
  | [], _ => rfl
  | _ :: s, l => by simp only [cut, List.length_cons, cut_length s]
theorem cut_flatten : ∀ (s l : List Int), (∀ x ∈ s, 0 ≤ x) → total s = l.length → (cut l s).flatten = l
  | [], l, _, h => by simp only [total] at h; cases l with
    | nil => rfl
    | cons => simp at h; omega
  | n :: s, l, h0, h => by
    simp only [total] at h
    have hn := h0 n (by simp)
    have ht := total_nonneg (l := s) (fun x hx => h0 x (by simp [hx]))
    simp only [cut, List.flatten_cons]
    rw [cut_flatten s _ (fun x hx => h0 x (by simp [hx])) (by rw [List.length_drop]; omega), List.take_append_drop]
theorem flatten_cut : ∀ (m : List (List Int)) (s : List Int), m.length = s.length → (∀ i, i < s.length → ((m.getD i []).length : Int) = s.getD i 0) → cut m.flatten s = m
  | [], [], _, _ => rfl
  | [], _ :: _, h, _ => by simp at h
  | _ :: _, [], h, _ => by simp at h
  | b :: m, n :: s, h, hi => by
    have h0 : (b.length : Int) = n := by simpa using hi 0 (by simp)
    have ih := flatten_cut m s (by simpa using h) (fun i h => by simpa using hi (i + 1) (by simpa using h))
    have e : n.toNat = b.length := by omega
    simp only [List.flatten_cons, cut, e, List.take_left, List.drop_left, ih]
theorem cut_sizes : ∀ (s l : List Int), (∀ x ∈ s, 0 ≤ x) → total s = l.length → ∀ i, i < s.length → (((cut l s).getD i []).length : Int) = s.getD i 0
  | [], _, _, _, i, hi => by simp at hi
  | n :: s, l, h0, h, i, hi => by
    simp only [total] at h
    have hn := h0 n (by simp)
    have ht := total_nonneg (l := s) (fun x hx => h0 x (by simp [hx]))
    cases i with
    | zero => simp [cut]; omega
    | succ i =>
      have := cut_sizes s (l.drop n.toNat) (fun x hx => h0 x (by simp [hx])) (by rw [List.length_drop]; omega) i (by simpa using hi)
      simpa [cut] using this
theorem flatten_length : ∀ (m : List (List Int)) (s : List Int), m.length = s.length → (∀ i, i < s.length → ((m.getD i []).length : Int) = s.getD i 0) → (m.flatten.length : Int) = total s
  | [], [], _, _ => rfl
  | [], _ :: _, h, _ => by simp at h
  | _ :: _, [], h, _ => by simp at h
  | b :: m, n :: s, h, hi => by
    have h0 : (b.length : Int) = n := by simpa using hi 0 (by simp)
    have ih := flatten_length m s (by simpa using h) (fun i h => by simpa using hi (i + 1) (by simpa using h))
    simp only [List.flatten_cons, List.length_append, total]; omega
end Ph
/- Plain law: signs as bytes (chapter 11). No program in sight. -/
namespace Ph
/-- Are shares right? -/
def sharesOk (f : List Int) : Prop := 1 ≤ f.length ∧ f.length ≤ 40 ∧ (∀ x ∈ f, 0 ≤ x ∧ x ≤ 256) ∧ total f = 256
/-- The share of a sign, and where it starts. -/
def sh (f : List Int) (s : Nat) : Nat := (f.getD s 0).toNat
def st (f : List Int) (s : Nat) : Nat := (pre f s).toNat
/-- The fault of a row of signs. -/
def rowErr (f l : List Int) : Int :=
  match l with
  | [] => 0
  | s :: l => if s < 0 ∨ (f.length : Int) ≤ s then 1 else if f.getD s.toNat 0 = 0 then 5 else rowErr f l
/-- A sign that may be said. -/
def good (f : List Int) (s : Int) : Prop := 0 ≤ s ∧ s < f.length ∧ f.getD s.toNat 0 ≠ 0
theorem rowErr_zero {f : List Int} : ∀ {l : List Int}, rowErr f l = 0 ↔ ∀ s ∈ l, good f s
  | [] => by simp [rowErr]
  | s :: l => by
    have ih := rowErr_zero (f := f) (l := l)
    unfold rowErr
    split
    · constructor
      · intro h; omega
      · intro h; have := (h s (by simp)); unfold good at this; omega
    · split
      · constructor
        · intro h; omega
        · intro h; have := (h s (by simp)); unfold good at this; omega
      · rw [ih]
        constructor
        · intro h x hx
          rcases List.mem_cons.1 hx with rfl | hx
          · unfold good; omega
          · exact h x hx
        · intro h x hx; exact h x (by simp [hx])
section
variable {f : List Int} (hf : sharesOk f)
include hf
theorem f_nonneg : ∀ x ∈ f, 0 ≤ x := fun x hx => (hf.2.2.1 x hx).1
theorem good_bd {s : Int} (hs : good f s) : 1 ≤ sh f s.toNat ∧ sh f s.toNat ≤ 256 ∧ st f s.toNat + sh f s.toNat ≤ 256 := by
  unfold good at hs
  have hi : s.toNat < f.length := by omega
  have h1 := hf.2.2.1 _ (getD_mem hi)
  have h2 := pre_succ f _ hi
  have h3 := pre_nonneg (f_nonneg hf) s.toNat
  have h4 := pre_mono (f_nonneg hf) (show s.toNat + 1 ≤ f.length by omega)
  rw [pre_all, hf.2.2.2] at h4
  unfold sh st; omega
end
/-- One sign more, from a number that has room. -/
def up (F S x : Nat) : Nat := x / F * 256 + x % F + S
/-- The number, and the bytes behind it: of the signs from the last to the first. -/
def enc (f : List Int) : List Int → Nat × List Nat
  | [] => (65536, [])
  | s :: l =>
    let (x, off) := enc f l
    if 65536 * sh f s.toNat ≤ x then (up (sh f s.toNat) (st f s.toNat) (x / 256), x % 256 :: off) else (up (sh f s.toNat) (st f s.toNat) x, off)
def told (x : Nat) (off : List Nat) : List Nat := x / 65536 % 256 :: x / 256 % 256 :: x % 256 :: off
def bytes (f l : List Int) : List Nat := told (enc f l).1 (enc f l).2
theorem up_bd {F S x : Nat} (h1 : 1 ≤ F) (h2 : S + F ≤ 256) (h3 : 256 * F ≤ x) (h4 : x < 65536 * F) : 65536 ≤ up F S x ∧ up F S x < 16777216 := by
  unfold up
  have a1 : 256 ≤ x / F := (Nat.le_div_iff_mul_le (by omega)).2 h3
  have a2 : x / F < 65536 := (Nat.div_lt_iff_lt_mul (by omega)).2 h4
  have a3 := Nat.mod_lt x (show 0 < F by omega)
  omega
theorem up_at {F S x : Nat} (h1 : 1 ≤ F) (h2 : S + F ≤ 256) : up F S x % 256 = x % F + S ∧ up F S x / 256 = x / F := by
  unfold up
  have a3 := Nat.mod_lt x (show 0 < F by omega)
  omega
theorem room {F x : Nat} (h1 : 1 ≤ F) (h2 : F ≤ 256) (h3 : 65536 ≤ x) (h4 : x < 16777216) :
    (65536 * F ≤ x → 256 * F ≤ x / 256 ∧ x / 256 < 65536 * F ∧ x / 256 < 65536) ∧ (¬ 65536 * F ≤ x → 256 * F ≤ x ∧ x < 65536 * F) := by omega
theorem enc_bd {f : List Int} (hf : sharesOk f) : ∀ {l : List Int}, (∀ s ∈ l, good f s) → 65536 ≤ (enc f l).1 ∧ (enc f l).1 < 16777216 ∧ ∀ b ∈ (enc f l).2, b < 256
  | [], _ => by simp [enc]
  | s :: l, h => by
    have ih := enc_bd hf (l := l) (fun x hx => h x (by simp [hx]))
    have hg := good_bd hf (h s (by simp))
    simp only [enc]
    generalize enc f l = e at *
    obtain ⟨x, off⟩ := e
    simp only at ih ⊢
    have hr := room hg.1 hg.2.1 ih.1 ih.2.1
    split
    · rename_i hx
      have := hr.1 hx
      have hu := up_bd hg.1 hg.2.2 this.1 this.2.1
      refine ⟨hu.1, hu.2, fun b hb => ?_⟩
      rcases List.mem_cons.1 hb with rfl | hb
      · exact Nat.mod_lt _ (by omega)
      · exact ih.2.2 b hb
    · rename_i hx
      have := hr.2 hx
      have hu := up_bd hg.1 hg.2.2 this.1 this.2
      exact ⟨hu.1, hu.2, ih.2.2⟩

/-! ### Back. -/
/-- Bytes in, till the number is great enough. -/
def fill : Nat → List Nat → Option (Nat × List Nat)
  | x, [] => if 65536 ≤ x then some (x, []) else none
  | x, b :: bs => if 65536 ≤ x then some (x, b :: bs) else fill (x * 256 + b) bs
theorem fill_done {x : Nat} {bs : List Nat} (h : 65536 ≤ x) : fill x bs = some (x, bs) := by cases bs <;> simp [fill, h]
def dn (f : List Int) (x : Nat) : Nat × Nat :=
  let s := atL f ((x % 256 : Nat) : Int)
  (s, sh f s * (x / 256) + x % 256 - st f s)
def dec (f : List Int) : Nat → Nat → List Nat → Option (List Int × Nat × List Nat)
  | 0, x, bs => some ([], x, bs)
  | n + 1, x, bs =>
    match fill (dn f x).2 bs with
    | none => none
    | some (x', bs') => match dec f n x' bs' with
      | none => none
      | some (l, r) => some (((dn f x).1 : Int) :: l, r)
theorem at_sign {f : List Int} (hf : sharesOk f) {s : Int} (hs : good f s) {a : Nat} (h1 : st f s.toNat ≤ a) (h2 : a < st f s.toNat + sh f s.toNat) : atL f (a : Int) = s.toNat := by
  have hi : s.toNat < f.length := by unfold good at hs; omega
  have h0 := f_nonneg hf
  have hp := pre_nonneg h0 s.toNat
  have hx := hf.2.2.1 _ (getD_mem hi)
  have hsucc := pre_succ f _ hi
  have hall := pre_mono h0 (show s.toNat + 1 ≤ f.length by omega)
  rw [pre_all] at hall
  unfold st sh at *
  have hsp := atL_spec f (a : Int) (by omega) (by omega)
  exact at_unique h0 hsp.2.1 hsp.2.2 (by omega) (by omega)
/-- Signs come back. -/
theorem dec_enc {f : List Int} (hf : sharesOk f) : ∀ (l : List Int) (R : List Nat), (∀ s ∈ l, good f s) → dec f l.length (enc f l).1 ((enc f l).2 ++ R) = some (l, 65536, R)
  | [], R, _ => by simp [dec, enc]
  | s :: l, R, h => by
    have hgs := h s (by simp)
    have hl := fun x hx => h x (List.mem_cons_of_mem s hx)
    have ih := dec_enc hf l R hl
    have hb := enc_bd hf hl
    have hg := good_bd hf hgs
    simp only [enc, List.length_cons]
    generalize enc f l = e at *
    obtain ⟨x, off⟩ := e
    simp only at ih hb ⊢
    have hr := room hg.1 hg.2.1 hb.1 hb.2.1
    have hs0 : ((s.toNat : Nat) : Int) = s := by unfold good at hgs; omega
    have key : ∀ y, dn f (up (sh f s.toNat) (st f s.toNat) y) = (s.toNat, y) := by
      intro y
      have hu := up_at (x := y) hg.1 hg.2.2
      have hm := Nat.mod_lt y (show 0 < sh f s.toNat by omega)
      unfold dn
      rw [hu.1, hu.2, at_sign hf hgs (by omega) (by omega)]
      have := Nat.div_add_mod y (sh f s.toNat)
      simp only [Prod.mk.injEq, true_and]; omega
    split
    · rename_i hx
      have hh := hr.1 hx
      simp only [dec, key, List.cons_append, fill]
      rw [if_neg (by omega)]
      have e2 : x / 256 * 256 + x % 256 = x := by omega
      rw [e2, fill_done hb.1]
      simp only [ih, hs0]
    · rename_i hx
      simp only [dec, key]
      rw [fill_done hb.1]
      simp only [ih, hs0]
theorem dec_length {f : List Int} : ∀ {n x : Nat} {bs : List Nat} {l r}, dec f n x bs = some (l, r) → l.length = n
  | 0, _, _, _, _, h => by simp only [dec, Option.some.injEq, Prod.mk.injEq] at h; rw [← h.1]; rfl
  | n + 1, x, bs, l, r, h => by
    simp only [dec] at h
    cases hfl : fill (dn f x).2 bs with
    | none => rw [hfl] at h; simp at h
    | some p =>
      obtain ⟨x', bs'⟩ := p
      rw [hfl] at h
      simp only at h
      cases hd : dec f n x' bs' with
      | none => rw [hd] at h; simp at h
      | some q =>
        obtain ⟨l', r'⟩ := q
        rw [hd] at h
        simp only [Option.some.injEq, Prod.mk.injEq] at h
        rw [← h.1, List.length_cons, dec_length hd]
theorem dn_good {f : List Int} (hf : sharesOk f) (x : Nat) : good f ((dn f x).1 : Int) ∧ st f (dn f x).1 ≤ x % 256 := by
  have hm := Nat.mod_lt x (show 0 < 256 by omega)
  have h0 := f_nonneg hf
  have hsp := atL_spec f ((x % 256 : Nat) : Int) (by omega) (by rw [hf.2.2.2]; omega)
  have hsucc := pre_succ f _ hsp.1
  unfold dn good st
  simp only
  have hp := pre_nonneg h0 (atL f ((x % 256 : Nat) : Int))
  refine ⟨⟨by omega, by omega, ?_⟩, by omega⟩
  rw [Int.toNat_natCast]; omega
theorem dec_good {f : List Int} (hf : sharesOk f) : ∀ {n x : Nat} {bs : List Nat} {l r}, dec f n x bs = some (l, r) → ∀ s ∈ l, good f s
  | 0, _, _, _, _, h => by simp only [dec, Option.some.injEq, Prod.mk.injEq] at h; rw [← h.1]; simp
  | n + 1, x, bs, l, r, h => by
    simp only [dec] at h
    cases hfl : fill (dn f x).2 bs with
    | none => rw [hfl] at h; simp at h
    | some p =>
      obtain ⟨x', bs'⟩ := p
      rw [hfl] at h
      simp only at h
      cases hd : dec f n x' bs' with
      | none => rw [hd] at h; simp at h
      | some q =>
        obtain ⟨l', r'⟩ := q
        rw [hd] at h
        simp only [Option.some.injEq, Prod.mk.injEq] at h
        rw [← h.1]
        intro s hs
        rcases List.mem_cons.1 hs with rfl | hs
        · exact (dn_good hf x).1
        · exact dec_good hf hd s hs
/-- Bytes as a row of so many signs: none, or the row and what is left. -/
def heard (f : List Int) (b : List Nat) (n : Nat) : Option (List Int × Nat × List Nat) :=
  match b with
  | b0 :: b1 :: b2 :: bs => dec f n ((b0 * 256 + b1) * 256 + b2) bs
  | _ => none
theorem heard_bytes {f : List Int} (hf : sharesOk f) {l : List Int} (h : ∀ s ∈ l, good f s) : heard f (bytes f l) l.length = some (l, 65536, []) := by
  have hb := enc_bd hf h
  have hd := dec_enc hf l [] h
  unfold bytes told heard
  rw [List.append_nil] at hd
  simp only
  rw [show ((enc f l).1 / 65536 % 256 * 256 + (enc f l).1 / 256 % 256) * 256 + (enc f l).1 % 256 = (enc f l).1 by omega]
  exact hd
/-- One more sign than there are: none, but where one sign has all. -/
theorem heard_more {f : List Int} (hf : sharesOk f) {l : List Int} (h : ∀ s ∈ l, good f s) (ha : ∀ x ∈ f, x ≠ 256) : heard f (bytes f l) (l.length + 1) = none := by
  have hb := enc_bd hf h
  have key : ∀ (n x : Nat) (bs : List Nat) (l : List Int), dec f n x bs = some (l, 65536, []) → dec f (n + 1) x bs = none := by
    intro n
    induction n with
    | zero =>
      intro x bs l hd
      simp only [dec, Option.some.injEq, Prod.mk.injEq] at hd
      obtain ⟨_, rfl, rfl⟩ := hd
      have hg := dn_good hf 65536
      have hgb := good_bd hf hg.1
      rw [Int.toNat_natCast] at hgb
      have hne : sh f (dn f 65536).1 ≠ 256 := by
        have hi : (dn f 65536).1 < f.length := by have := hg.1.2.1; omega
        have h1 := ha _ (getD_mem hi)
        have h2 := hf.2.2.1 _ (getD_mem hi)
        unfold sh; omega
      have h3 : (dn f 65536).2 = sh f (dn f 65536).1 * 256 - st f (dn f 65536).1 := by
        unfold dn; simp
      simp only [dec]
      have : fill (dn f 65536).2 [] = none := by
        unfold fill; rw [if_neg (by rw [h3]; omega)]
      rw [this]
    | succ n ih =>
      intro x bs l hd
      unfold dec at hd ⊢
      cases hfl : fill (dn f x).2 bs with
      | none => rfl
      | some p =>
        obtain ⟨x', bs'⟩ := p
        rw [hfl] at hd
        simp only at hd ⊢
        cases hd2 : dec f n x' bs' with
        | none => rw [hd2] at hd; simp at hd
        | some q =>
          obtain ⟨l', r1, r2⟩ := q
          rw [hd2] at hd
          simp only [Option.some.injEq, Prod.mk.injEq] at hd
          obtain ⟨_, rfl, rfl⟩ := hd
          rw [ih x' bs' l' hd2]
  have hd := heard_bytes hf h
  unfold bytes told heard at *
  exact key _ _ _ _ hd
/-- Bytes that a row's own are again are heard to their end. -/
theorem heard_ends {f : List Int} (hf : sharesOk f) {b : List Nat} {n : Nat} {l : List Int} {x : Nat} {r : List Nat} (h : heard f b n = some (l, x, r)) (hb : bytes f l = b) : x = 65536 ∧ r = [] := by
  have hg : ∀ s ∈ l, good f s := by
    unfold heard at h
    split at h
    · exact dec_good hf h
    · simp at h
  have hl : l.length = n := by
    unfold heard at h
    split at h
    · exact dec_length h
    · simp at h
  have h2 := heard_bytes hf hg
  rw [hb, hl, h] at h2
  simp only [Option.some.injEq, Prod.mk.injEq] at h2
  exact h2.2

/-! ### No more bytes than told. -/
def need (F : Nat) : Nat := if 256 ≤ F then 0 else 8 - Nat.log2 F
theorem need_spec {F : Nat} (h1 : 1 ≤ F) : 256 ≤ F * 2 ^ need F ∧ (∀ n, n < need F → F * 2 ^ n < 256) := by
  unfold need
  split
  · exact ⟨by simpa using (by assumption), fun n hn => by omega⟩
  · rename_i h
    have hl : Nat.log2 F < 8 := (Nat.log2_lt (by omega)).2 (by omega)
    have ha : 2 ^ Nat.log2 F ≤ F := Nat.log2_self_le (by omega)
    have hb : F < 2 ^ (Nat.log2 F + 1) := Nat.lt_log2_self
    refine ⟨?_, fun n hn => ?_⟩
    · have : 2 ^ Nat.log2 F * 2 ^ (8 - Nat.log2 F) = 256 := by rw [← Nat.pow_add, show Nat.log2 F + (8 - Nat.log2 F) = 8 by omega]
      have := Nat.mul_le_mul_right (2 ^ (8 - Nat.log2 F)) ha; omega
    · have h1 : 2 ^ n ≤ 2 ^ (7 - Nat.log2 F) := Nat.pow_le_pow_right (by omega) (by omega)
      have h2 : 2 ^ (Nat.log2 F + 1) * 2 ^ (7 - Nat.log2 F) = 256 := by rw [← Nat.pow_add, show Nat.log2 F + 1 + (7 - Nat.log2 F) = 8 by omega]
      have h3 := Nat.mul_le_mul_left F h1
      have h4 := Nat.mul_lt_mul_of_pos_right hb (Nat.two_pow_pos (7 - Nat.log2 F))
      omega
theorem need_le (F : Nat) : need F ≤ 8 := by unfold need; split <;> omega
def needs (f l : List Int) : Nat :=
  match l with
  | [] => 0
  | s :: l => need (sh f s.toNat) + needs f l
theorem needs_append (f a b : List Int) : needs f (a ++ b) = needs f a + needs f b := by
  induction a with
  | nil => simp [needs]
  | cons x a ih => simp [needs, ih]; omega
theorem up_le {F S x : Nat} (h1 : 1 ≤ F) (h2 : S + F ≤ 256) (h3 : 256 * F ≤ x) : up F S x * F ≤ 257 * x := by
  unfold up
  have h5 := Nat.mod_lt x (show 0 < F by omega)
  have h6 : x / F * F ≤ x := Nat.div_mul_le_self x F
  have e : (x / F * 256 + x % F + S) * F = x / F * F * 256 + (x % F + S) * F := by
    rw [Nat.add_assoc, Nat.add_mul, Nat.mul_assoc, Nat.mul_comm 256 F, ← Nat.mul_assoc]
  rw [e]
  have h7 : (x % F + S) * F ≤ 256 * F := Nat.mul_le_mul_right F (by omega)
  omega
theorem enc_size {f : List Int} (hf : sharesOk f) : ∀ {l : List Int}, (∀ s ∈ l, good f s) → (enc f l).1 * 256 ^ l.length * 256 ^ (enc f l).2.length ≤ 65536 * 257 ^ l.length * 2 ^ needs f l
  | [], _ => by simp [enc, needs]
  | s :: l, h => by
    have hl := fun x hx => h x (List.mem_cons_of_mem s hx)
    have ih := enc_size hf hl
    have hb := enc_bd hf hl
    have hg := good_bd hf (h s (by simp))
    simp only [enc, needs, List.length_cons]
    generalize enc f l = e at *
    obtain ⟨x, off⟩ := e
    simp only at ih hb ⊢
    have hr := room hg.1 hg.2.1 hb.1 hb.2.1
    have hn := (need_spec hg.1).1
    generalize sh f s.toNat = F at *
    generalize st f s.toNat = S at *
    -- y: the number that has room; z: what its bytes weigh
    have step : ∀ y, 256 * F ≤ y → up F S y * 256 ≤ 257 * y * 2 ^ need F := by
      intro y hy
      have h1 := up_le hg.1 hg.2.2 hy
      have h2 := Nat.mul_le_mul_left (up F S y) hn
      have h3 := Nat.mul_le_mul_right (2 ^ need F) h1
      rw [← Nat.mul_assoc] at h2
      omega
    have fin : ∀ (y m : Nat), 256 * F ≤ y → y * 256 ^ m ≤ x * 256 ^ off.length → up F S y * 256 ^ (l.length + 1) * 256 ^ m ≤ 65536 * 257 ^ (l.length + 1) * 2 ^ (need F + needs f l) := by
      intro y m hy hm
      have a1 := step y hy
      have a2 := Nat.mul_le_mul_right (256 ^ l.length * 256 ^ m) a1
      have a3 := Nat.mul_le_mul_right (257 * 2 ^ need F * 256 ^ l.length) hm
      have a4 := Nat.mul_le_mul_left (257 * 2 ^ need F) ih
      have e1 : up F S y * 256 ^ (l.length + 1) * 256 ^ m = up F S y * 256 * (256 ^ l.length * 256 ^ m) := by rw [Nat.pow_succ]; ac_rfl
      have e2 : 257 * y * 2 ^ need F * (256 ^ l.length * 256 ^ m) = y * 256 ^ m * (257 * 2 ^ need F * 256 ^ l.length) := by ac_rfl
      have e3 : x * 256 ^ off.length * (257 * 2 ^ need F * 256 ^ l.length) = 257 * 2 ^ need F * (x * 256 ^ l.length * 256 ^ off.length) := by ac_rfl
      have e4 : 257 * 2 ^ need F * (65536 * 257 ^ l.length * 2 ^ needs f l) = 65536 * 257 ^ (l.length + 1) * 2 ^ (need F + needs f l) := by rw [Nat.pow_succ 257, Nat.pow_add]; ac_rfl
      rw [e1]; rw [e2] at a2; rw [e3] at a3; rw [e4] at a4
      omega
    split
    · rename_i hx
      have hh := hr.1 hx
      apply fin _ _ hh.1
      rw [List.length_cons, Nat.pow_succ]
      have : x / 256 * 256 ≤ x := Nat.div_mul_le_self x 256
      have := Nat.mul_le_mul_right (256 ^ off.length) this
      rw [Nat.mul_comm (256 ^ off.length) 256, ← Nat.mul_assoc]; exact this
    · rename_i hx
      have hh := hr.2 hx
      exact fin _ _ hh.1 (Nat.le_refl _)
theorem pow257 : ∀ n, n ≤ 60 → 257 ^ n ≤ 2 * 256 ^ n := by
  have h : ∀ n : Fin 61, 257 ^ n.1 ≤ 2 * 256 ^ n.1 := by decide +kernel
  intro n hn; exact h ⟨n, by omega⟩
/-- IN NO MORE BYTES. -/
theorem bytes_le {f : List Int} (hf : sharesOk f) {l : List Int} (hl : l.length ≤ 60) (h : ∀ s ∈ l, good f s) : 3 ≤ (bytes f l).length ∧ (bytes f l).length ≤ 4 + needs f l / 8 := by
  have hs := enc_size hf h
  have hb := (enc_bd hf h).1
  unfold bytes told
  simp only [List.length_cons]
  refine ⟨by omega, ?_⟩
  generalize (enc f l).2.length = E at *
  generalize (enc f l).1 = x at *
  generalize needs f l = N at *
  have h1 := pow257 _ hl
  have h2 : 65536 * 256 ^ l.length * 256 ^ E ≤ x * 256 ^ l.length * 256 ^ E := Nat.mul_le_mul_right _ (Nat.mul_le_mul_right _ hb)
  have h3 : 65536 * 257 ^ l.length * 2 ^ N ≤ 65536 * (2 * 256 ^ l.length) * 2 ^ N := Nat.mul_le_mul_right _ (Nat.mul_le_mul_left _ h1)
  have h4 : 65536 * 256 ^ l.length * 256 ^ E ≤ 65536 * 256 ^ l.length * (2 * 2 ^ N) := by
    have e : 65536 * (2 * 256 ^ l.length) * 2 ^ N = 65536 * 256 ^ l.length * (2 * 2 ^ N) := by ac_rfl
    rw [e] at h3; omega
  have h5 : 256 ^ E ≤ 2 * 2 ^ N := Nat.le_of_mul_le_mul_left h4 (Nat.mul_pos (by omega) (Nat.pow_pos (by omega)))
  have h6 : 2 ^ (8 * E) ≤ 2 ^ (N + 1) := by
    have e : 2 ^ (N + 1) = 2 * 2 ^ N := by rw [Nat.pow_succ, Nat.mul_comm]
    rw [Nat.pow_mul, e]; exact h5
  have h7 := (Nat.pow_le_pow_iff_right (show 1 < 2 by omega)).1 h6
  omega
theorem bytes_lt {f : List Int} (hf : sharesOk f) {l : List Int} (h : ∀ s ∈ l, good f s) : ∀ b ∈ bytes f l, b < 256 := by
  have hb := enc_bd hf h
  unfold bytes told
  intro b hm
  simp only [List.mem_cons] at hm
  rcases hm with rfl | rfl | rfl | hm
  · omega
  · omega
  · omega
  · exact hb.2.2 b hm
end Ph
/- Plain law: signs as bytes, sign by sign (chapter 11). No program in sight. -/
namespace Ph
/-- A sign more: the number, and the bytes that went off, the first one first. -/
def estep (f : List Int) (p : Nat × List Nat) (s : Int) : Nat × List Nat :=
  if 65536 * sh f s.toNat ≤ p.1 then (up (sh f s.toNat) (st f s.toNat) (p.1 / 256), p.2 ++ [p.1 % 256]) else (up (sh f s.toNat) (st f s.toNat) p.1, p.2)
def efold (f ss : List Int) : Nat × List Nat := ss.foldl (estep f) (65536, [])
theorem efold_snoc (f ss : List Int) (s : Int) : efold f (ss ++ [s]) = estep f (efold f ss) s := by unfold efold; rw [List.foldl_append]; rfl
theorem efold_reverse (f : List Int) : ∀ l : List Int, efold f l.reverse = ((enc f l).1, (enc f l).2.reverse)
  | [] => rfl
  | s :: l => by
    rw [List.reverse_cons, efold_snoc, efold_reverse f l]
    unfold estep
    simp only [enc]
    split
    · simp
    · rfl
theorem efold_eq (f ss : List Int) : efold f ss = ((enc f ss.reverse).1, (enc f ss.reverse).2.reverse) := by
  have := efold_reverse f ss.reverse
  rwa [List.reverse_reverse] at this
theorem enc_len (f : List Int) : ∀ l : List Int, (enc f l).2.length ≤ l.length
  | [] => by simp [enc]
  | s :: l => by
    have := enc_len f l
    simp only [enc]
    split
    · simp; omega
    · simp; omega
theorem efold_bd {f ss : List Int} (hf : sharesOk f) (h : ∀ s ∈ ss, good f s) : 65536 ≤ (efold f ss).1 ∧ (efold f ss).1 < 16777216 ∧ (efold f ss).2.length ≤ ss.length := by
  have h1 := enc_bd hf (l := ss.reverse) (fun s hs => h s (by simpa using hs))
  have h2 := enc_len f ss.reverse
  rw [efold_eq]
  rw [List.length_reverse] at h2
  exact ⟨h1.1, h1.2.1, by simpa using h2⟩
theorem bytes_fold (f l : List Int) : bytes f l = told (efold f l.reverse).1 (efold f l.reverse).2.reverse := by
  rw [efold_reverse]; simp [bytes]
theorem rev_map (l : List Int) : ((List.finRange l.length).reverse.map fun x => l.getD x.1 0) = l.reverse := by
  rw [List.map_reverse]
  congr 1
  apply List.ext_getElem
  · simp
  · intro i h1 h2; simp
theorem told_length (x : Nat) (off : List Nat) : (told x off).length = off.length + 3 := by simp [told]
theorem dec_succ (f : List Int) (m x : Nat) (bs : List Nat) : dec f (m + 1) x bs = (fill (dn f x).2 bs).bind fun p => (dec f m p.1 p.2).map fun q => (((dn f x).1 : Int) :: q.1, q.2) := by
  rw [dec]
  cases fill (dn f x).2 bs with
  | none => rfl
  | some p =>
    obtain ⟨x', bs'⟩ := p
    simp only [Option.bind_some]
    cases dec f m x' bs' with
    | none => rfl
    | some q => rfl
theorem fill_none {x : Nat} (h : x < 65536) : fill x [] = none := by rw [fill, if_neg (by omega)]
theorem fill_cons {x b : Nat} {bs : List Nat} (h : x < 65536) : fill x (b :: bs) = fill (x * 256 + b) bs := by rw [fill, if_neg (by omega)]
theorem dn_snd {f : List Int} (hf : sharesOk f) (x : Nat) : (dn f x).2 = sh f (dn f x).1 * (x / 256) + x % 256 - st f (dn f x).1 ∧ (dn f x).2 ≤ x := by
  have hg := dn_good hf x
  have hb := good_bd hf hg.1
  rw [Int.toNat_natCast] at hb
  have h1 : (dn f x).2 = sh f (dn f x).1 * (x / 256) + x % 256 - st f (dn f x).1 := rfl
  refine ⟨h1, ?_⟩
  have h2 : sh f (dn f x).1 * (x / 256) ≤ 256 * (x / 256) := Nat.mul_le_mul_right _ hb.2.1
  omega
theorem heard_short {f : List Int} {b : List Nat} {n : Nat} (h : b.length < 3) : heard f b n = none := by
  unfold heard
  split
  · simp at h; omega
  · rfl
end Ph
/- Plain law: how often signs are in rows (chapter 12). No program in sight. -/
namespace Ph
/-- One more than how often each of m signs is in a row. -/
def cnts (xs : List Int) (m : Nat) : List Int := (List.range m).map fun (s : Nat) => 1 + ((xs.count (s : Int) : Nat) : Int)
theorem cnts_length (xs : List Int) (m : Nat) : (cnts xs m).length = m := by simp [cnts]
theorem cnts_nil (m : Nat) : cnts [] m = List.replicate m 1 := by
  apply List.ext_getElem
  · simp [cnts]
  · intro i h1 h2; simp [cnts]
theorem cnts_getD {m s : Nat} (xs : List Int) (h : s < m) : (cnts xs m).getD s 0 = 1 + ((xs.count (s : Int) : Nat) : Int) := by
  rw [List.getD_eq_getElem?_getD, List.getElem?_eq_getElem (by rw [cnts_length]; exact h)]
  simp [cnts]
theorem cnts_snoc {m s : Nat} (xs : List Int) (h : s < m) : cnts (xs ++ [(s : Int)]) m = (cnts xs m).set s ((cnts xs m).getD s 0 + 1) := by
  rw [cnts_getD xs h]
  apply List.ext_getElem
  · simp [cnts]
  · intro i h1 h2
    rw [List.getElem_set]
    by_cases e : s = i
    · subst e; simp [cnts, List.count_append]; omega
    · have hne : ¬ (s : Int) = (i : Int) := by omega
      rw [if_neg e]; simp [cnts, List.count_append, List.count_cons, hne]
theorem cnts_take {m : Nat} (xs : List Int) {k : Nat} (h : k < m) : (cnts xs m).take (k + 1) = (cnts xs m).take k ++ [1 + ((xs.count (k : Int) : Nat) : Int)] := by
  rw [List.take_add_one, List.getElem?_eq_getElem (by rw [cnts_length]; exact h)]
  simp [cnts]
theorem cnts_bd {m : Nat} {xs : List Int} : ∀ x ∈ cnts xs m, 1 ≤ x ∧ x ≤ 1 + xs.length := fun x hx => by
  obtain ⟨s, _, rfl⟩ := List.mem_map.1 hx
  have := List.count_le_length (a := (s : Int)) (l := xs)
  omega
theorem cnts_perm {m : Nat} {xs ys : List Int} (h : xs.Perm ys) : cnts xs m = cnts ys m := by
  unfold cnts
  apply List.map_congr_left
  intro s _
  rw [h.count_eq]
theorem flat_take {ls : List (List Int)} {k : Nat} (h : k < ls.length) : (ls.take (k + 1)).flatten = (ls.take k).flatten ++ ls.getD k [] := by
  have e : ls.getD k [] = ls[k] := by rw [List.getD_eq_getElem?_getD, List.getElem?_eq_getElem h]; rfl
  rw [List.take_add_one, List.getElem?_eq_getElem h, e, List.flatten_append]
  simp
theorem row_mem {ls : List (List Int)} {k : Nat} (h : k < ls.length) : ls.getD k [] ∈ ls := by
  rw [List.getD_eq_getElem?_getD, List.getElem?_eq_getElem h]
  simp
theorem flat_le {ls : List (List Int)} {b : Nat} (h : ∀ l ∈ ls, l.length ≤ b) : ls.flatten.length ≤ ls.length * b := by
  induction ls with
  | nil => simp
  | cons l ls ih =>
    have h1 := ih (fun x hx => h x (by simp [hx]))
    have h2 := h l (by simp)
    rw [List.flatten_cons, List.length_append, List.length_cons, Nat.succ_mul]
    omega
theorem flat_rev_perm (ls : List (List Int)) : ls.reverse.flatten.Perm ls.flatten := by
  induction ls with
  | nil => simp
  | cons l ls ih =>
    rw [List.reverse_cons, List.flatten_append, List.flatten_cons]
    simp only [List.flatten_cons, List.flatten_nil, List.append_nil]
    exact (List.perm_append_comm).trans (List.Perm.append_left l ih)
theorem count_take {r : List Int} {t : Nat} (h : t < r.length) (s : Int) : (r.take (t + 1)).count s = (r.take t).count s + if r.getD t 0 = s then 1 else 0 := by
  rw [List.take_add_one, List.getElem?_eq_getElem h, List.getD_eq_getElem?_getD, List.getElem?_eq_getElem h]
  simp only [Option.toList_some, Option.getD_some, List.count_append, List.count_cons, List.count_nil, beq_iff_eq, Nat.zero_add]
end Ph
/- Plain law: numbers in so many bits (chapter 13). No program in sight. -/
namespace Ph
/-- The bits of a number, the high ones first. -/
def bitsW : Nat → Nat → List Int
  | 0, _ => []
  | w + 1, n => ((n / 2 ^ w % 2 : Nat) : Int) :: bitsW w n
theorem bitsW_length : ∀ w n, (bitsW w n).length = w
  | 0, _ => rfl
  | w + 1, n => by simp [bitsW, bitsW_length w n]
theorem bitsW_bit : ∀ w n, ∀ b ∈ bitsW w n, b = 0 ∨ b = 1
  | 0, _, b, h => by simp [bitsW] at h
  | w + 1, n, b, h => by
    rcases List.mem_cons.1 h with rfl | h
    · omega
    · exact bitsW_bit w n b h
/-- So many of the high bits have come: those from the j-th on are left. -/
theorem bitsW_mod : ∀ w n, bitsW w (n % 2 ^ w) = bitsW w n
  | 0, _ => rfl
  | w + 1, n => by
    simp only [bitsW]
    have h1 : n % 2 ^ (w + 1) / 2 ^ w % 2 = n / 2 ^ w % 2 := by
      rw [Nat.pow_succ, Nat.mod_mul_right_div_self]; omega
    have h2 : bitsW w (n % 2 ^ (w + 1)) = bitsW w n := by
      rw [← bitsW_mod w (n % 2 ^ (w + 1)), ← bitsW_mod w n, Nat.mod_mod_of_dvd _ (Nat.pow_dvd_pow 2 (by omega))]
    rw [h1, h2]
def number : List Int → Nat
  | l => l.foldl (fun n b => 2 * n + b.toNat) 0
theorem number_snoc (l : List Int) (b : Int) : number (l ++ [b]) = 2 * number l + b.toNat := by unfold number; rw [List.foldl_append]; rfl
theorem fold_shift (l : List Int) : ∀ a : Nat, l.foldl (fun n b => 2 * n + b.toNat) a = a * 2 ^ l.length + number l := by
  induction l with
  | nil => intro a; simp [number]
  | cons x l ih =>
    intro a
    unfold number
    rw [List.foldl_cons, List.foldl_cons, ih, ih, List.length_cons, Nat.pow_succ, Nat.mul_zero, Nat.zero_add]
    have : (2 * a + x.toNat) * 2 ^ l.length = a * (2 ^ l.length * 2) + x.toNat * 2 ^ l.length := by rw [Nat.add_mul]; congr 1; ac_rfl
    omega
theorem number_cons (x : Int) (l : List Int) : number (x :: l) = x.toNat * 2 ^ l.length + number l := by
  have := fold_shift l x.toNat
  unfold number at *
  rw [List.foldl_cons, Nat.mul_zero, Nat.zero_add]; exact this
def isBits (l : List Int) : Prop := ∀ b ∈ l, b = 0 ∨ b = 1
theorem number_lt : ∀ {l : List Int}, isBits l → number l < 2 ^ l.length
  | [], _ => by simp [number]
  | x :: l, h => by
    have ih := number_lt (l := l) (fun b hb => h b (by simp [hb]))
    have hx := h x (by simp)
    rw [number_cons, List.length_cons, Nat.pow_succ]
    rcases hx with rfl | rfl
    · simp; omega
    · simp; omega
theorem number_bits : ∀ w n, number (bitsW w n) = n % 2 ^ w
  | 0, n => by simp [number, bitsW, Nat.mod_one]
  | w + 1, n => by
    simp only [bitsW]
    rw [number_cons, bitsW_length, number_bits w n, Int.toNat_natCast]
    have h := Nat.mod_mul (x := n) (a := 2 ^ w) (b := 2)
    rw [Nat.pow_succ, h, Nat.mul_comm]; omega
theorem bits_number : ∀ {l : List Int}, isBits l → bitsW l.length (number l) = l
  | [], _ => rfl
  | x :: l, h => by
    have hl : isBits l := fun b hb => h b (by simp [hb])
    have ih := bits_number hl
    have hlt := number_lt hl
    have hx := h x (by simp)
    rw [number_cons, List.length_cons]
    simp only [bitsW]
    have hp := Nat.two_pow_pos l.length
    have h1 : (x.toNat * 2 ^ l.length + number l) / 2 ^ l.length = x.toNat := by
      rw [Nat.add_comm, Nat.add_mul_div_right _ _ hp, Nat.div_eq_of_lt hlt]; omega
    have h2 : bitsW l.length (x.toNat * 2 ^ l.length + number l) = bitsW l.length (number l) := by
      rw [← bitsW_mod l.length (x.toNat * 2 ^ l.length + number l), Nat.mul_comm, Nat.mul_add_mod, bitsW_mod]
    rw [h1, h2, ih]
    congr 1
    rcases hx with rfl | rfl <;> rfl
def spread : List Int → List Int → List Int
  | n :: l, w :: ws => bitsW w.toNat n.toNat ++ spread l ws
  | _, _ => []
/-- Does a number go into so many bits? -/
def goes (n w : Int) : Bool := decide (0 ≤ w) && decide (w ≤ 20) && decide (0 ≤ n) && decide (n < 2 ^ w.toNat)
def putErr (l w : List Int) : Int :=
  if l.length ≠ w.length then 3 else if (List.zipWith goes l w).all id = true then (if 400 < (spread l w).length then 4 else 0) else 1
def gather : List Int → List Int → List Int
  | _, [] => []
  | b, w :: ws => (number (b.take w.toNat) : Int) :: gather (b.drop w.toNat) ws
theorem spread_isBits : ∀ l w : List Int, isBits (spread l w)
  | [], _ => by intro b hb; simp [spread] at hb
  | _ :: _, [] => by intro b hb; simp [spread] at hb
  | n :: l, w :: ws => by
    intro b hb
    rw [spread, List.mem_append] at hb
    rcases hb with hb | hb
    · exact bitsW_bit _ _ b hb
    · exact spread_isBits l ws b hb
theorem spread_length : ∀ l w : List Int, l.length = w.length → (∀ x ∈ w, 0 ≤ x) → ((spread l w).length : Int) = total w
  | [], [], _, _ => rfl
  | [], _ :: _, h, _ => by simp at h
  | _ :: _, [], h, _ => by simp at h
  | n :: l, w :: ws, h, h0 => by
    have ih := spread_length l ws (by simpa using h) (fun x hx => h0 x (by simp [hx]))
    have hw := h0 w (by simp)
    simp only [spread, List.length_append, bitsW_length, total]; omega
theorem gather_spread : ∀ l w : List Int, l.length = w.length → (List.zipWith goes l w).all id = true → gather (spread l w) w = l
  | [], [], _, _ => rfl
  | [], _ :: _, h, _ => by simp at h
  | _ :: _, [], h, _ => by simp at h
  | n :: l, w :: ws, h, hg => by
    simp only [List.zipWith_cons_cons, List.all_cons, Bool.and_eq_true, id] at hg
    have ih := gather_spread l ws (by simpa using h) hg.2
    have h1 := hg.1
    simp only [goes, Bool.and_eq_true, decide_eq_true_eq] at h1
    have hlt : n.toNat < 2 ^ w.toNat := by
      have e : (n.toNat : Int) < ((2 ^ w.toNat : Nat) : Int) := by rw [Int.natCast_pow]; have := h1.2; simp; omega
      omega
    simp only [spread, gather]
    rw [List.take_append_of_le_length (by rw [bitsW_length]; omega), List.take_of_length_le (by rw [bitsW_length]; omega), number_bits, Nat.mod_eq_of_lt hlt]
    rw [List.drop_append_of_le_length (by rw [bitsW_length]; omega), List.drop_of_length_le (by rw [bitsW_length]; omega), List.nil_append, ih]
    rw [show ((n.toNat : Nat) : Int) = n by omega]
theorem gather_length : ∀ (w b : List Int), (gather b w).length = w.length
  | [], _ => rfl
  | w :: ws, b => by simp only [gather, List.length_cons, gather_length ws]
theorem spread_gather : ∀ (w b : List Int), isBits b → (∀ x ∈ w, 0 ≤ x ∧ x ≤ 20) → total w = b.length → spread (gather b w) w = b ∧ (List.zipWith goes (gather b w) w).all id = true
  | [], b, _, _, ht => by
    simp only [total] at ht
    have : b = [] := List.eq_nil_of_length_eq_zero (by omega)
    subst this; exact ⟨rfl, rfl⟩
  | w :: ws, b, hb, hw, ht => by
    simp only [total] at ht
    have h1 := hw w (by simp)
    have h2 := total_nonneg (l := ws) (fun x hx => (hw x (by simp [hx])).1)
    have hbt : isBits (b.take w.toNat) := fun x hx => hb x (List.mem_of_mem_take hx)
    have ih := spread_gather ws (b.drop w.toNat) (fun x hx => hb x (List.mem_of_mem_drop hx)) (fun x hx => hw x (by simp [hx])) (by rw [List.length_drop]; omega)
    have hl : (b.take w.toNat).length = w.toNat := by rw [List.length_take]; omega
    have hbn := bits_number hbt
    have hlt := number_lt hbt
    rw [hl] at hbn hlt
    simp only [gather, spread, List.zipWith_cons_cons, List.all_cons, Bool.and_eq_true, id]
    rw [Int.toNat_natCast, hbn, ih.1, List.take_append_drop]
    refine ⟨rfl, ?_, ih.2⟩
    simp only [goes, Bool.and_eq_true, decide_eq_true_eq]
    refine ⟨⟨⟨h1.1, h1.2⟩, by omega⟩, ?_⟩
    have : ((number (b.take w.toNat) : Nat) : Int) < ((2 ^ w.toNat : Nat) : Int) := by omega
    rw [Int.natCast_pow] at this; exact this

/-! ### As bytes. -/
def chunk8 (l : List Int) (i : Nat) : List Int := (l.drop (8 * i)).take 8
def pack1 (c : List Int) : Nat := number c * 2 ^ (8 - c.length)
def packed (l : List Int) : List Nat := (List.range ((l.length + 7) / 8)).map fun i => pack1 (chunk8 l i)
def opened (b : List Nat) : List Int := b.flatMap (bitsW 8)
theorem packed_nil : packed [] = [] := rfl
theorem packed_cons {l : List Int} (h : l ≠ []) : packed l = pack1 (l.take 8) :: packed (l.drop 8) := by
  have hp := List.length_pos_iff.2 h
  unfold packed
  have e : (l.length + 7) / 8 = ((l.drop 8).length + 7) / 8 + 1 := by rw [List.length_drop]; omega
  rw [e, List.range_succ_eq_map, List.map_cons, List.map_map]
  congr 1
  apply List.map_congr_left
  intro i _
  simp only [Function.comp, chunk8, List.drop_drop]
  congr 2
  rw [Nat.succ_eq_add_one, show 8 + 8 * i = 8 * (i + 1) by omega]
theorem opened_cons (x : Nat) (b : List Nat) : opened (x :: b) = bitsW 8 x ++ opened b := rfl
theorem opened_length (b : List Nat) : (opened b).length = 8 * b.length := by
  induction b with
  | nil => rfl
  | cons x b ih => rw [opened_cons, List.length_append, bitsW_length, ih, List.length_cons]; omega
theorem number_pad (c : List Int) (k : Nat) : number (c ++ List.replicate k 0) = number c * 2 ^ k := by
  induction k with
  | zero => simp
  | succ k ih => rw [List.replicate_succ', ← List.append_assoc, number_snoc, ih, Nat.pow_succ, Nat.mul_comm (2 ^ k) 2, Nat.mul_left_comm]; rfl
theorem isBits_append {a b : List Int} (ha : isBits a) (hb : isBits b) : isBits (a ++ b) := fun x hx => by
  rcases List.mem_append.1 hx with h | h
  · exact ha x h
  · exact hb x h
theorem isBits_zeros (k : Nat) : isBits (List.replicate k 0) := fun _ hx => .inl (List.eq_of_mem_replicate hx)
theorem bits_pack1 {c : List Int} (hc : isBits c) (hl : c.length ≤ 8) : bitsW 8 (pack1 c) = c ++ List.replicate (8 - c.length) 0 := by
  have h := bits_number (isBits_append hc (isBits_zeros (8 - c.length)))
  rw [number_pad, List.length_append, List.length_replicate, show c.length + (8 - c.length) = 8 by omega] at h
  exact h
theorem pack1_lt {c : List Int} (hc : isBits c) (hl : c.length ≤ 8) : pack1 c < 256 := by
  have h := number_lt (isBits_append hc (isBits_zeros (8 - c.length)))
  rw [number_pad, List.length_append, List.length_replicate, show c.length + (8 - c.length) = 8 by omega] at h
  exact h
theorem opened_packed : ∀ (n : Nat) (l : List Int), l.length ≤ n → isBits l → opened (packed l) = l ++ List.replicate (8 * ((l.length + 7) / 8) - l.length) 0
  | n, [], _, _ => by simp [packed_nil, opened]
  | 0, x :: l, h, _ => by simp at h
  | n + 1, x :: l, h, hb => by
    have hne : x :: l ≠ [] := by simp
    generalize hL : x :: l = L at *
    have hp := List.length_pos_iff.2 hne
    have ht : isBits (L.take 8) := fun y hy => hb y (List.mem_of_mem_take hy)
    have hd : isBits (L.drop 8) := fun y hy => hb y (List.mem_of_mem_drop hy)
    have ih := opened_packed n (L.drop 8) (by rw [List.length_drop]; omega) hd
    rw [packed_cons hne, opened_cons, bits_pack1 ht (by rw [List.length_take]; omega), ih, List.length_take, List.length_drop]
    rcases Nat.lt_or_ge L.length 8 with h8 | h8
    · have e1 : L.take 8 = L := List.take_of_length_le (by omega)
      have e2 : L.drop 8 = [] := List.drop_of_length_le (by omega)
      rw [e1, e2, List.nil_append, Nat.min_eq_right (by omega), List.append_assoc, List.replicate_append_replicate]
      congr 2; omega
    · rw [Nat.min_eq_left h8, Nat.sub_self, List.replicate_zero, List.append_nil, ← List.append_assoc, List.take_append_drop]
      congr 2; omega
theorem packed_length (l : List Int) : (packed l).length = (l.length + 7) / 8 := by simp [packed]
theorem packed_lt {l : List Int} (h : isBits l) : ∀ b ∈ packed l, b < 256 := by
  intro b hb
  unfold packed at hb
  obtain ⟨i, _, rfl⟩ := List.mem_map.1 hb
  apply pack1_lt
  · intro x hx; exact h x (List.mem_of_mem_drop (List.mem_of_mem_take hx))
  · unfold chunk8; rw [List.length_take]; omega
/-- Bits of bytes, and their bytes. -/
theorem packed_opened : ∀ (b : List Nat) (m : Nat), (∀ x ∈ b, x < 256) → b.length = (m + 7) / 8 → (∀ x ∈ (opened b).drop m, x = 0) → packed ((opened b).take m) = b
  | [], m, _, hl, _ => by simp [opened, packed_nil]
  | x :: b, m, hx, hl, hz => by
    have hm : 0 < m := by simp at hl; omega
    have hx0 := hx x (by simp)
    have hol := opened_length b
    rcases Nat.lt_or_ge m 8 with h8 | h8
    · -- one byte
      have hb : b = [] := List.eq_nil_of_length_eq_zero (by simp at hl; omega)
      subst hb
      rw [opened_cons] at hz ⊢
      have e0 : opened [] = [] := rfl
      rw [e0, List.append_nil] at hz ⊢
      have hne : (bitsW 8 x).take m ≠ [] := by
        intro h; have := congrArg List.length h; rw [List.length_take, bitsW_length] at this; simp at this; omega
      rw [packed_cons hne, List.take_take, Nat.min_eq_right (by omega), List.drop_of_length_le (by rw [List.length_take]; omega), packed_nil]
      congr 1
      unfold pack1
      rw [List.length_take, bitsW_length, Nat.min_eq_left (by omega)]
      have hrest : (bitsW 8 x).drop m = List.replicate (8 - m) 0 := by
        apply List.ext_getElem
        · rw [List.length_drop, bitsW_length, List.length_replicate]
        · intro i h1 h2
          rw [List.getElem_replicate]
          exact hz _ (List.getElem_mem h1)
      rw [← number_pad, ← hrest, List.take_append_drop, number_bits]
      omega
    · have ht : (opened (x :: b)).take m = bitsW 8 x ++ (opened b).take (m - 8) := by
        rw [opened_cons, List.take_append, bitsW_length, List.take_of_length_le (by rw [bitsW_length]; omega)]
      have hd : (opened (x :: b)).drop m = (opened b).drop (m - 8) := by
        rw [opened_cons, List.drop_append, bitsW_length, List.drop_of_length_le (by rw [bitsW_length]; omega), List.nil_append]
      have hne : bitsW 8 x ++ (opened b).take (m - 8) ≠ [] := by
        intro h; have := congrArg List.length h; rw [List.length_append, bitsW_length] at this; simp at this
      have ih := packed_opened b (m - 8) (fun y hy => hx y (by simp [hy])) (by simp at hl; omega) (by rw [← hd]; exact hz)
      rw [ht, packed_cons hne, List.take_append_of_le_length (by rw [bitsW_length]; omega), List.take_of_length_le (by rw [bitsW_length]; omega)]
      rw [List.drop_append_of_le_length (by rw [bitsW_length]; omega), List.drop_of_length_le (by rw [bitsW_length]; omega), List.nil_append, ih]
      congr 1
      unfold pack1
      rw [bitsW_length, number_bits]; simp; omega
end Ph
/- Plain law: who gets a pulse; tanks (chapters 14, 15). No program in sight. -/
namespace Ph
def wid (n k : Int) : Int := (bitsOf (cnt n.toNat k.toNat) : Nat)
def cost : List Int → List Int → Int
  | s :: sizes, p :: pulses => wid s p + cost sizes pulses
  | _, _ => 0
theorem wid_nonneg (n k : Int) : 0 ≤ wid n k := by unfold wid; omega
theorem wid_zero (n : Int) : wid n 0 = 0 := by unfold wid; rw [show (0 : Int).toNat = 0 from rfl, cnt_zero]; rfl
theorem cost_nonneg : ∀ s p, 0 ≤ cost s p
  | [], _ => by simp [cost]
  | _ :: _, [] => by simp [cost]
  | s :: sizes, p :: pulses => by have := cost_nonneg sizes pulses; have := wid_nonneg s p; simp only [cost]; omega
theorem cost_zeros : ∀ (s : List Int), cost s (List.replicate s.length 0) = 0
  | [] => rfl
  | x :: s => by rw [List.length_cons, List.replicate_succ]; simp only [cost, wid_zero, cost_zeros s]; rfl
theorem cost_set : ∀ (s p : List Int) (i : Nat) (x : Int), s.length = p.length → i < p.length → cost s (p.set i x) = cost s p - wid (s.getD i 0) (p.getD i 0) + wid (s.getD i 0) x
  | [], [], i, _, _, hi => by simp at hi
  | [], _ :: _, _, _, h, _ => by simp at h
  | _ :: _, [], _, _, h, _ => by simp at h
  | y :: s, z :: p, 0, x, h, hi => by simp [cost]; omega
  | y :: s, z :: p, i + 1, x, h, hi => by
    have := cost_set s p i x (by simpa using h) (by simpa using hi)
    simp only [List.set_cons_succ, cost, this]; simp; omega
theorem cost_take (s p : List Int) (k : Nat) (h1 : k < s.length) (h2 : k < p.length) : cost (s.take (k + 1)) (p.take (k + 1)) = cost (s.take k) (p.take k) + wid (s.getD k 0) (p.getD k 0) := by
  induction k generalizing s p with
  | zero =>
    cases s with
    | nil => simp at h1
    | cons a s => cases p with
      | nil => simp at h2
      | cons b p => simp [cost]
  | succ k ih =>
    cases s with
    | nil => simp at h1
    | cons a s => cases p with
      | nil => simp at h2
      | cons b p =>
        have := ih s p (by simpa using h1) (by simpa using h2)
        simp only [List.take_succ_cons, cost, this]; simp; omega
def costWith (s out : List Int) (i : Nat) : Int := cost s (bump out i 1)
theorem costWith_eq {s out : List Int} {i : Nat} (h : s.length = out.length) (hi : i < out.length) : costWith s out i = cost s out + (wid (s.getD i 0) (out.getD i 0 + 1) - wid (s.getD i 0) (out.getD i 0)) := by
  unfold costWith bump; rw [cost_set s out i _ h hi]; omega
/-- May one get one more? -/
def cand (s loud : List Int) (bits : Int) (out : List Int) (i : Nat) : Bool :=
  !decide (loud.getD i 0 = 0) && !decide (out.getD i 0 = 8) && decide (costWith s out i ≤ bits)
/-- Is the i-th more in need than the j-th? -/
def ahead (loud out : List Int) (i j : Nat) : Bool :=
  decide (loud.getD j 0 * (out.getD i 0 + 1) * (out.getD i 0 + 1) < loud.getD i 0 * (out.getD j 0 + 1) * (out.getD j 0 + 1))
def pick (s loud : List Int) (bits : Int) (out : List Int) : Nat → Int
  | 0 => -1
  | i + 1 =>
    if cand s loud bits out i = true then
      (if pick s loud bits out i < 0 then i else if ahead loud out i (pick s loud bits out i).toNat = true then i else pick s loud bits out i)
    else pick s loud bits out i
theorem pick_bd (s loud : List Int) (bits : Int) (out : List Int) : ∀ n, -1 ≤ pick s loud bits out n ∧ pick s loud bits out n < n
  | 0 => by simp [pick]
  | n + 1 => by
    have := pick_bd s loud bits out n
    unfold pick
    split
    · split
      · omega
      · split <;> omega
    · omega
theorem pick_none {s loud : List Int} {bits : Int} {out : List Int} : ∀ {n}, pick s loud bits out n < 0 → ∀ i, i < n → cand s loud bits out i = false
  | 0, _, i, hi => by omega
  | n + 1, h, i, hi => by
    unfold pick at h
    split at h
    · have hb := pick_bd s loud bits out n
      split at h
      · omega
      · split at h <;> omega
    · rename_i hc
      rcases Nat.lt_or_ge i n with h1 | h1
      · exact pick_none h i h1
      · have : i = n := by omega
        subst this; simpa using hc
theorem pick_cand {s loud : List Int} {bits : Int} {out : List Int} : ∀ {n}, 0 ≤ pick s loud bits out n → cand s loud bits out (pick s loud bits out n).toNat = true
  | 0, h => by simp [pick] at h
  | n + 1, h => by
    unfold pick at h ⊢
    split
    · rename_i hc
      rw [if_pos hc] at h
      split
      · simpa using hc
      · rename_i hp
        rw [if_neg hp] at h
        split
        · simpa using hc
        · exact pick_cand (by omega)
    · rename_i hc
      rw [if_neg hc] at h
      exact pick_cand h
def givenN (s loud : List Int) (bits : Int) : Nat → List Int → List Int
  | 0, out => out
  | m + 1, out => if pick s loud bits out s.length < 0 then out else givenN s loud bits m (bump out (pick s loud bits out s.length).toNat 1)
/-- How many more may be given at most. -/
def space (out : List Int) : Nat := (8 * out.length - total out).toNat
def given (s loud : List Int) (bits : Int) (out : List Int) : List Int := givenN s loud bits (space out + 1) out
def pulsesOk (out : List Int) : Prop := ∀ x ∈ out, 0 ≤ x ∧ x ≤ 8
theorem pulsesOk_getD {out : List Int} (h : pulsesOk out) (i : Nat) : 0 ≤ out.getD i 0 ∧ out.getD i 0 ≤ 8 := by
  rw [List.getD_eq_getElem?_getD]
  rcases Nat.lt_or_ge i out.length with hi | hi
  · rw [List.getElem?_eq_getElem hi]; exact h _ (List.getElem_mem hi)
  · rw [List.getElem?_eq_none hi]; simp
theorem pulsesOk_of {out : List Int} (h : ∀ i, i < out.length → 0 ≤ out.getD i 0 ∧ out.getD i 0 ≤ 8) : pulsesOk out := by
  intro x hx
  obtain ⟨i, hi, rfl⟩ := List.mem_iff_getElem.1 hx
  have := h i hi
  rw [List.getD_eq_getElem?_getD, List.getElem?_eq_getElem hi] at this
  exact this
theorem pulsesOk_zeros (n : Nat) : pulsesOk (List.replicate n 0) := fun x hx => by rw [List.eq_of_mem_replicate hx]; omega
theorem total_pulses_le {out : List Int} (h : pulsesOk out) : 0 ≤ total out ∧ total out ≤ 8 * out.length := by
  have h1 := total_nonneg (l := out) (fun x hx => (h x hx).1)
  have h2 := total_le (l := out) (m := 8) (fun x hx => (h x hx).2)
  omega
/-- One turn. -/
theorem turn_ok {s loud : List Int} {bits : Int} {out : List Int} (hl : out.length = s.length) (h : pulsesOk out) (hp : 0 ≤ pick s loud bits out s.length) :
    (bump out (pick s loud bits out s.length).toNat 1).length = s.length ∧ pulsesOk (bump out (pick s loud bits out s.length).toNat 1) ∧ space (bump out (pick s loud bits out s.length).toNat 1) + 1 = space out := by
  have hb := (pick_bd s loud bits out s.length).2
  have hc := pick_cand hp
  generalize hq : (pick s loud bits out s.length).toNat = q at *
  have hq2 : q < out.length := by omega
  have ht : total (bump out q 1) = total out + 1 := total_bump hq2
  have h8 : out.getD q 0 ≠ 8 := by simp only [cand, Bool.and_eq_true, Bool.not_eq_true', decide_eq_false_iff_not] at hc; exact hc.1.2
  have hok : pulsesOk (bump out q 1) := by
    apply pulsesOk_of
    intro i _
    rw [bump_getD _ _ _ _ hq2]
    have h1 := pulsesOk_getD h i
    have h2 := pulsesOk_getD h q
    split <;> omega
  refine ⟨by rw [bump_length, hl], hok, ?_⟩
  have h2 := total_pulses_le hok
  rw [ht, bump_length] at h2
  unfold space; rw [ht, bump_length]; omega
theorem givenN_enough {s loud : List Int} {bits : Int} : ∀ (m : Nat) (out : List Int), out.length = s.length → pulsesOk out → space out < m → givenN s loud bits m out = givenN s loud bits (space out + 1) out
  | 0, _, _, _, h => by omega
  | m + 1, out, hl, hk, h => by
    unfold givenN
    split
    · rfl
    · rename_i hp
      have ht := turn_ok (loud := loud) (bits := bits) hl hk (by omega)
      rw [givenN_enough m _ ht.1 ht.2.1 (by omega), ht.2.2]
theorem given_done {s loud : List Int} {bits : Int} {out : List Int} (h : pick s loud bits out s.length < 0) : given s loud bits out = out := by
  unfold given givenN; rw [if_pos h]
theorem given_turn {s loud : List Int} {bits : Int} {out : List Int} (hl : out.length = s.length) (hk : pulsesOk out) (h : 0 ≤ pick s loud bits out s.length) :
    given s loud bits out = given s loud bits (bump out (pick s loud bits out s.length).toNat 1) := by
  have ht := turn_ok (loud := loud) (bits := bits) hl hk h
  unfold given
  rw [givenN, if_neg (by omega), ht.2.2]
/-- What every turn keeps: a proof by turns. -/
theorem given_ind {s loud : List Int} {bits : Int} (I : List Int → Prop)
    (step : ∀ out, out.length = s.length → pulsesOk out → I out → 0 ≤ pick s loud bits out s.length → I (bump out (pick s loud bits out s.length).toNat 1)) :
    ∀ (g : Nat) (out : List Int), space out = g → out.length = s.length → pulsesOk out → I out →
      (given s loud bits out).length = s.length ∧ pulsesOk (given s loud bits out) ∧ I (given s loud bits out) ∧ pick s loud bits (given s loud bits out) s.length < 0 := by
  intro g
  induction g using Nat.strongRecOn with
  | ind g ih =>
    intro out hg hl hk hI
    rcases Int.lt_or_le (pick s loud bits out s.length) 0 with h | h
    · rw [given_done h]; exact ⟨hl, hk, hI, h⟩
    · have ht := turn_ok (loud := loud) (bits := bits) hl hk h
      rw [given_turn hl hk h]
      exact ih _ (by omega) _ rfl ht.1 ht.2.1 (step out hl hk hI h)
def shareOf (s loud : List Int) (bits : Int) : List Int := given s loud bits (List.replicate s.length 0)
/-- NEVER MORE THAN THERE ARE, AND NONE MORE WOULD DO. -/
theorem share_ok {s loud : List Int} {bits : Int} (hb : 0 ≤ bits) :
    (shareOf s loud bits).length = s.length ∧ pulsesOk (shareOf s loud bits) ∧ cost s (shareOf s loud bits) ≤ bits ∧ (∀ i, i < s.length → loud.getD i 0 = 0 → (shareOf s loud bits).getD i 0 = 0) ∧
      ∀ i, i < s.length → loud.getD i 0 ≠ 0 → (shareOf s loud bits).getD i 0 ≠ 8 → bits < costWith s (shareOf s loud bits) i := by
  have h := given_ind (s := s) (loud := loud) (bits := bits) (fun out => cost s out ≤ bits ∧ ∀ i, i < s.length → loud.getD i 0 = 0 → out.getD i 0 = 0)
    (fun out hl _ hI hp => by
      have hc := pick_cand hp
      have hlt := (pick_bd s loud bits out s.length).2
      simp only [cand, Bool.and_eq_true, Bool.not_eq_true', decide_eq_false_iff_not, decide_eq_true_eq] at hc
      refine ⟨hc.2, fun i hi hz => ?_⟩
      rw [bump_getD _ _ _ _ (by omega)]
      split
      · rename_i e; subst e; exact absurd hz hc.1.1
      · exact hI.2 i hi hz)
    _ (List.replicate s.length 0) rfl (by simp) (pulsesOk_zeros _)
    ⟨by rw [cost_zeros]; exact hb, fun i _ _ => by rw [List.getD_eq_getElem?_getD, List.getElem?_replicate]; split <;> rfl⟩
  refine ⟨h.1, h.2.1, h.2.2.1.1, h.2.2.1.2, fun i hi h1 h2 => ?_⟩
  have := pick_none h.2.2.2 i hi
  unfold shareOf at *
  simp only [cand, Bool.and_eq_false_iff, Bool.not_eq_false', decide_eq_true_eq, decide_eq_false_iff_not] at this
  rcases this with (h3 | h3) | h3
  · exact absurd h3 h1
  · exact absurd h3 h2
  · omega
/-- Where all is silent none gets one. -/
theorem pick_silent {s loud : List Int} {bits : Int} {out : List Int} (h : ∀ i, loud.getD i 0 = 0) : ∀ n, pick s loud bits out n = -1
  | 0 => rfl
  | n + 1 => by unfold pick; rw [if_neg (by simp only [cand, h n]; simp), pick_silent h n]
theorem share_silent {s loud : List Int} {bits : Int} (h : ∀ i, loud.getD i 0 = 0) : shareOf s loud bits = List.replicate s.length 0 :=
  given_done (by rw [pick_silent h]; omega)
/-- Twice as loud all of them they get the same. -/
theorem pick_twice {s a b : List Int} {bits : Int} (h : ∀ i, b.getD i 0 = 2 * a.getD i 0) (out : List Int) : ∀ n, pick s b bits out n = pick s a bits out n
  | 0 => rfl
  | n + 1 => by
    have ih := pick_twice (s := s) (bits := bits) h out n
    have hc : cand s b bits out n = cand s a bits out n := by
      have e : decide (2 * a.getD n 0 = 0) = decide (a.getD n 0 = 0) := decide_eq_decide.2 (by omega)
      unfold cand; rw [h n, e]
    have ha : ∀ j, ahead b out n j = ahead a out n j := by
      intro j
      unfold ahead; rw [h n, h j]
      rw [Int.mul_assoc 2, Int.mul_assoc 2, Int.mul_assoc 2, Int.mul_assoc 2, decide_eq_decide]; omega
    unfold pick
    rw [ih, hc, ha]
theorem givenN_twice {s a b : List Int} {bits : Int} (h : ∀ i, b.getD i 0 = 2 * a.getD i 0) : ∀ (m : Nat) (out : List Int), givenN s b bits m out = givenN s a bits m out
  | 0, _ => rfl
  | m + 1, out => by
    unfold givenN
    rw [pick_twice h out, givenN_twice h m]
theorem share_twice {s a b : List Int} {bits : Int} (h : ∀ i, b.getD i 0 = 2 * a.getD i 0) : shareOf s b bits = shareOf s a bits := givenN_twice h _ _

/-! ### Tanks. -/
structure Tank where
  size : Int
  each : Int
  has : Int
def tankErr (t : Tank) : Int := if t.size < 0 ∨ 1000000 < t.size ∨ t.each < 0 ∨ t.size < t.each ∨ t.has < 0 ∨ t.size < t.has then 1 else 0
theorem tankErr_zero {t : Tank} : tankErr t = 0 ↔ 0 ≤ t.size ∧ t.size ≤ 1000000 ∧ 0 ≤ t.each ∧ t.each ≤ t.size ∧ 0 ≤ t.has ∧ t.has ≤ t.size := by
  unfold tankErr; split <;> simp <;> omega
def full (t : Tank) : Int := if t.has + t.each < t.size then t.has + t.each else t.size
def turnErr (t : Tank) (bits : Int) : Int := if tankErr t ≠ 0 then 1 else if bits < 0 ∨ 1000000 < bits then 1 else if full t < bits then 8 else 0
def turned (t : Tank) (bits : Int) : Tank := { t with has := full t - bits }
/-- Turns in a row: how many there are at last; the fault. -/
def runT : List Int → Tank → Tank
  | [], t => t
  | n :: l, t => runT l (turned t n)
def runErr : List Int → Tank → Int
  | [], _ => 0
  | n :: l, t => if turnErr t n ≠ 0 then turnErr t n else runErr l (turned t n)
theorem turned_ok {t : Tank} {n : Int} (h : turnErr t n = 0) : tankErr t = 0 ∧ 0 ≤ n ∧ n ≤ full t ∧ tankErr (turned t n) = 0 := by
  unfold turnErr at h
  split at h
  · omega
  · rename_i h1
    split at h
    · omega
    · split at h
      · omega
      · have h2 : tankErr t = 0 := by omega
        have h3 := tankErr_zero.1 h2
        refine ⟨h2, by omega, by omega, tankErr_zero.2 ?_⟩
        simp only [turned]; unfold full at *; split <;> split at * <;> omega
theorem run_holds : ∀ (l : List Int) (t : Tank), runErr l t = 0 → tankErr t = 0 → (∀ n ∈ l, 0 ≤ n) ∧ total l ≤ t.has + l.length * t.each ∧ (runT l t).has ≤ t.size ∧ 0 ≤ (runT l t).has
  | [], t, _, h => by have := tankErr_zero.1 h; simp [total, runT]; omega
  | n :: l, t, h, ht => by
    unfold runErr at h
    split at h
    · omega
    · rename_i hn
      have hk := turned_ok (show turnErr t n = 0 by omega)
      have h3 := tankErr_zero.1 ht
      have ih := run_holds l (turned t n) h hk.2.2.2
      have he : (turned t n).each = t.each := rfl
      have hs : (turned t n).size = t.size := rfl
      have hh : (turned t n).has = full t - n := rfl
      rw [he, hs, hh] at ih
      refine ⟨fun m hm => ?_, ?_, ih.2.2⟩
      · rcases List.mem_cons.1 hm with rfl | hm
        · exact hk.2.1
        · exact ih.1 m hm
      · have e : ((n :: l).length : Int) * t.each = l.length * t.each + t.each := by rw [List.length_cons, Int.natCast_add, Int.add_mul]; simp
        rw [e]; simp only [total]
        have : full t ≤ t.has + t.each := by unfold full; split <;> omega
        omega
theorem runErr_drop : ∀ (l : List Int) (t : Tank) (i : Nat), runErr l t = 0 → tankErr t = 0 → ∃ u : Tank, tankErr u = 0 ∧ u.size = t.size ∧ u.each = t.each ∧ runErr (l.drop i) u = 0
  | l, t, 0, h, ht => ⟨t, ht, rfl, rfl, h⟩
  | [], t, i + 1, h, ht => ⟨t, ht, rfl, rfl, h⟩
  | n :: l, t, i + 1, h, ht => by
    unfold runErr at h
    split at h
    · omega
    · have hk := turned_ok (show turnErr t n = 0 by omega)
      obtain ⟨u, h1, h2, h3, h4⟩ := runErr_drop l (turned t n) i h hk.2.2.2
      exact ⟨u, h1, h2, h3, by simpa using h4⟩
theorem runErr_take : ∀ (l : List Int) (t : Tank) (i : Nat), runErr l t = 0 → runErr (l.take i) t = 0
  | l, t, 0, _ => rfl
  | [], t, i + 1, _ => rfl
  | n :: l, t, i + 1, h => by
    unfold runErr at h
    split at h
    · omega
    · rename_i hn
      rw [List.take_succ_cons, runErr, if_neg hn]
      exact runErr_take l _ i h
/-- IN ANY ROW OF TURNS NO MORE GOES THAN THERE WAS, AND CAME. -/
theorem run_part {l : List Int} {t : Tank} (h : runErr l t = 0) (ht : tankErr t = 0) (i j : Nat) (hij : i + j ≤ l.length) : total ((l.drop i).take j) ≤ t.size + j * t.each := by
  obtain ⟨u, h1, h2, h3, h4⟩ := runErr_drop l t i h ht
  have h5 := run_holds _ u (runErr_take _ u j h4) h1
  have h6 := tankErr_zero.1 h1
  have hl : ((l.drop i).take j).length = j := by rw [List.length_take, List.length_drop]; omega
  rw [hl, h3] at h5
  omega
/-- As much as comes may go, for ever. -/
theorem run_even (t : Tank) (h : tankErr t = 0) (he : t.has = t.size - t.each) : ∀ n : Nat, runErr (List.replicate n t.each) t = 0 ∧ runT (List.replicate n t.each) t = t
  | 0 => ⟨rfl, rfl⟩
  | n + 1 => by
    have h3 := tankErr_zero.1 h
    have hf : full t = t.size := by unfold full; split <;> omega
    have ht : turned t t.each = t := by unfold turned; rw [hf, ← he]
    have h0 : turnErr t t.each = 0 := by unfold turnErr; rw [if_neg (by omega), if_neg (by omega), hf, if_neg (by omega)]
    have ih := run_even t h he n
    rw [List.replicate_succ]
    unfold runErr runT
    rw [ht, if_neg (by omega)]
    exact ih
end Ph
/- Plain law: frames (chapter 16). No program in sight. -/
namespace Ph
structure Part where
  gain : Int
  pulses : List Int
/-- The value of a gain. -/
def val (g : Int) : Int := (mean g.toNat : Nat)
def gainOk (g : Int) : Bool := decide (0 ≤ g) && valued g.toNat
def vals (l : List Part) : List Int := l.map fun p => val p.gain
def bandsOf (l sizes : List Int) : List (List Int) := cut (lapF l) sizes
def gainOf (b : List Int) : Int := (step (loudN b) : Nat)
def encErr (l sizes : List Int) (bits : Int) : Int :=
  if bandErr sizes ≠ 0 then bandErr sizes else if (l.length : Int) ≠ total sizes then 3 else if lapErr l 1000 ≠ 0 then lapErr l 1000
  else if bits < 0 ∨ 400 < bits then 1 else if (bandsOf l sizes).any (fun b => decide (8000 < loud b)) = true then 4 else 0
/-- Pulses for parts of which the gains are there. -/
def shared (p : List Part) (sizes : List Int) (bits : Int) : List Int := shareOf sizes (vals p) bits
def loudParts (bs : List (List Int)) : List Part := bs.map fun b => ⟨gainOf b, []⟩
def encoded (l sizes : List Int) (bits : Int) : List Part :=
  let bs := bandsOf l sizes
  let k := shared (loudParts bs) sizes bits
  (List.range bs.length).map fun i => ⟨gainOf (bs.getD i []), near (bs.getD i []) (k.getD i 0)⟩
def partsErr : List Part → Int
  | [] => 0
  | p :: l => if gainOk p.gain = false then 1 else if pulsesErr p.pulses ≠ 0 then pulsesErr p.pulses else partsErr l
def frameErr (p : List Part) (sizes : List Int) (bits : Int) : Int :=
  if bandErr sizes ≠ 0 then bandErr sizes else if p.length ≠ sizes.length then 3
  else if p.map (fun x => (x.pulses.length : Int)) ≠ sizes then 3
  else if partsErr p ≠ 0 then partsErr p else if bits < 0 ∨ 400 < bits then 1
  else if p.map (fun x => loud x.pulses) ≠ shared p sizes bits then 3 else 0
theorem partsErr_zero : ∀ {p : List Part}, partsErr p = 0 ↔ ∀ x ∈ p, gainOk x.gain = true ∧ pulsesErr x.pulses = 0
  | [] => by simp [partsErr]
  | y :: p => by
    have ih := partsErr_zero (p := p)
    unfold partsErr
    split
    · rename_i h
      constructor
      · intro h; omega
      · intro h2; have := (h2 y (by simp)).1; rw [h] at this; cases this
    · rename_i h
      split
      · rename_i h2
        constructor
        · intro h; omega
        · intro h3; exact absurd (h3 y (by simp)).2 h2
      · rename_i h2
        rw [ih]
        constructor
        · intro h3 x hx
          rcases List.mem_cons.1 hx with rfl | hx
          · exact ⟨by simpa using h, by omega⟩
          · exact h3 x hx
        · intro h3 x hx; exact h3 x (by simp [hx])
theorem frameErr_zero {p : List Part} {sizes : List Int} {bits : Int} : frameErr p sizes bits = 0 ↔
    bandErr sizes = 0 ∧ p.map (fun x => (x.pulses.length : Int)) = sizes ∧ (∀ x ∈ p, gainOk x.gain = true ∧ pulsesErr x.pulses = 0) ∧ 0 ≤ bits ∧ bits ≤ 400 ∧ p.map (fun x => loud x.pulses) = shared p sizes bits := by
  unfold frameErr
  constructor
  · intro h
    split at h
    · omega
    · split at h
      · omega
      · split at h
        · omega
        · split at h
          · omega
          · split at h
            · omega
            · split at h
              · omega
              · rename_i h3 _ _ h6
                exact ⟨by omega, Decidable.of_not_not h3, partsErr_zero.1 (by omega), by omega, by omega, Decidable.of_not_not h6⟩
  · rintro ⟨h1, h2, h3, h4, h5, h6⟩
    have hl : p.length = sizes.length := by rw [← h2, List.length_map]
    rw [if_neg (by omega), if_neg (by omega), if_neg (by simp [h2]), if_neg (by simp [partsErr_zero.2 h3]), if_neg (by omega), if_neg (by simp [h6])]
/-! ### What a frame tells. -/
def number1 (p : Part) (x : Int) : Int := if 0 < loud p.pulses then (x * val p.gain).tdiv (loud p.pulses) else x
def numbers (p : Part) : List Int := p.pulses.map (number1 p)
def decAll (p : List Part) : List Int := p.flatMap numbers
def decPart : List Part → Int
  | [] => 0
  | p :: l => if pulsesErr p.pulses ≠ 0 then pulsesErr p.pulses else if gainOk p.gain = false then 1 else decPart l
def manyOf (p : List Part) : Nat := (p.map (fun x => x.pulses.length)).sum
def decErr (p : List Part) : Int :=
  if p.length = 0 then 5 else if 8 < p.length ∨ 32 < manyOf p then 4 else if decPart p ≠ 0 then decPart p else lapErr (decAll p) 4000
theorem decAll_length : ∀ p : List Part, (decAll p).length = manyOf p
  | [] => rfl
  | x :: p => by
    have := decAll_length p
    simp only [decAll, manyOf, List.flatMap_cons, List.length_append, List.map_cons, List.sum_cons, numbers, List.length_map] at *
    omega
theorem decPart_zero : ∀ {p : List Part}, decPart p = 0 ↔ ∀ x ∈ p, gainOk x.gain = true ∧ pulsesErr x.pulses = 0
  | [] => by simp [decPart]
  | y :: p => by
    have ih := decPart_zero (p := p)
    unfold decPart
    split
    · rename_i h2
      constructor
      · intro h; omega
      · intro h3; exact absurd (h3 y (by simp)).2 h2
    · rename_i h2
      split
      · rename_i h
        constructor
        · intro h; omega
        · intro h2; have := (h2 y (by simp)).1; rw [h] at this; cases this
      · rename_i h
        rw [ih]
        constructor
        · intro h3 x hx
          rcases List.mem_cons.1 hx with rfl | hx
          · exact ⟨by simpa using h, by omega⟩
          · exact h3 x hx
        · intro h3 x hx; exact h3 x (by simp [hx])

/-! ### What is made is right. -/
theorem cut_flat_mem : ∀ (s l : List Int) (b : List Int), b ∈ cut l s → ∀ x ∈ b, x ∈ l
  | [], l, b, h, x, _ => by simp [cut] at h
  | n :: s, l, b, h, x, hx => by
    simp only [cut] at h
    rcases List.mem_cons.1 h with rfl | h
    · exact List.mem_of_mem_take hx
    · exact List.mem_of_mem_drop (cut_flat_mem s _ b h x hx)
section
variable {l sizes : List Int} {bits : Int} (h : encErr l sizes bits = 0)
include h
theorem enc_facts : bandErr sizes = 0 ∧ (l.length : Int) = total sizes ∧ lapErr l 1000 = 0 ∧ 0 ≤ bits ∧ bits ≤ 400 ∧ ∀ b ∈ bandsOf l sizes, loud b ≤ 8000 := by
  unfold encErr at h
  split at h
  · omega
  · split at h
    · omega
    · split at h
      · omega
      · split at h
        · omega
        · split at h
          · omega
          · rename_i h5
            refine ⟨by omega, by omega, by omega, by omega, by omega, fun b hb => ?_⟩
            simp only [List.any_eq_true, decide_eq_true_eq] at h5
            rcases Int.lt_or_le 8000 (loud b) with h6 | h6
            · exact absurd ⟨b, hb, h6⟩ h5
            · exact h6
theorem sizes_pos : (∀ x ∈ sizes, 1 ≤ x ∧ x ≤ 6) := (bandErr_zero.1 (enc_facts h).1).2.2.1
omit h in
theorem bands_length : (bandsOf l sizes).length = sizes.length := cut_length _ _
theorem lap_len : ((lapF l).length : Int) = total sizes := by
  have hf := enc_facts h
  rw [lapF_length l (lapErr_zero.1 hf.2.2.1).2.1]; exact hf.2.1
theorem bands_sizes (i : Nat) (hi : i < sizes.length) : (((bandsOf l sizes).getD i []).length : Int) = sizes.getD i 0 :=
  cut_sizes sizes _ (fun x hx => by have := sizes_pos h x hx; omega) (lap_len h).symm i hi
omit h in
theorem enc_length : (encoded l sizes bits).length = sizes.length := by
  unfold encoded; simp [bands_length]
omit h in
theorem enc_get (i : Nat) (hi : i < (encoded l sizes bits).length) :
    (encoded l sizes bits)[i] = ⟨gainOf ((bandsOf l sizes).getD i []), near ((bandsOf l sizes).getD i []) ((shared (loudParts (bandsOf l sizes)) sizes bits).getD i 0)⟩ := by
  unfold encoded; simp
theorem band_loud (i : Nat) : loud ((bandsOf l sizes).getD i []) ≤ 8000 := by
  rw [List.getD_eq_getElem?_getD]
  rcases Nat.lt_or_ge i (bandsOf l sizes).length with hi | hi
  · rw [List.getElem?_eq_getElem hi]; exact (enc_facts h).2.2.2.2.2 _ (List.getElem_mem hi)
  · rw [List.getElem?_eq_none hi]; decide
omit h in
theorem gainOf_ok {b : List Int} (hb : loud b ≤ 8000) : gainOk (gainOf b) = true := by
  unfold gainOk gainOf
  rw [Bool.and_eq_true, decide_eq_true_eq, Int.toNat_natCast]
  refine ⟨by omega, valued_step ?_⟩
  have := loudN_int b; omega
omit h in
theorem vals_enc : vals (encoded l sizes bits) = vals (loudParts (bandsOf l sizes)) := by
  have e : ∀ bs : List (List Int), bs = (List.range bs.length).map (fun i => bs.getD i []) := by
    intro bs
    apply List.ext_getElem
    · simp
    · intro i h1 h2
      simp [List.getElem?_eq_getElem h1]
  have e2 := e (bandsOf l sizes)
  unfold vals loudParts encoded
  simp only [List.map_map]
  conv => rhs; rw [e2, List.map_map]
  rfl
theorem shared_facts : (shared (loudParts (bandsOf l sizes)) sizes bits).length = sizes.length ∧ pulsesOk (shared (loudParts (bandsOf l sizes)) sizes bits) ∧ cost sizes (shared (loudParts (bandsOf l sizes)) sizes bits) ≤ bits ∧
    ∀ i, i < sizes.length → (vals (loudParts (bandsOf l sizes))).getD i 0 = 0 → (shared (loudParts (bandsOf l sizes)) sizes bits).getD i 0 = 0 := by
  have hs := share_ok (s := sizes) (loud := vals (loudParts (bandsOf l sizes))) (enc_facts h).2.2.2.1
  exact ⟨hs.1, hs.2.1, hs.2.2.1, hs.2.2.2.1⟩
/-- Whoever gets a pulse is loud. -/
theorem loud_of_pulse (i : Nat) (hi : i < sizes.length) : (shared (loudParts (bandsOf l sizes)) sizes bits).getD i 0 = 0 ∨ 0 < loud ((bandsOf l sizes).getD i []) := by
  have hs := shared_facts h
  have hb : i < (bandsOf l sizes).length := by rw [bands_length]; exact hi
  by_cases hz : loud ((bandsOf l sizes).getD i []) = 0
  · left
    apply hs.2.2.2 i hi
    unfold vals loudParts
    rw [List.getD_eq_getElem?_getD, List.getElem?_map, List.getElem?_map, List.getElem?_eq_getElem hb]
    have e : (bandsOf l sizes).getD i [] = (bandsOf l sizes)[i] := by rw [List.getD_eq_getElem?_getD, List.getElem?_eq_getElem hb]; rfl
    rw [e] at hz
    simp only [Option.map_some, Option.getD_some, val, gainOf, Int.toNat_natCast]
    unfold loudN; rw [hz]; rfl
  · right; have := loud_nonneg ((bandsOf l sizes).getD i []); omega
theorem enc_part (i : Nat) (hi : i < (encoded l sizes bits).length) :
    gainOk (encoded l sizes bits)[i].gain = true ∧ pulsesErr (encoded l sizes bits)[i].pulses = 0 ∧ ((encoded l sizes bits)[i].pulses.length : Int) = sizes.getD i 0 ∧ loud (encoded l sizes bits)[i].pulses = (shared (loudParts (bandsOf l sizes)) sizes bits).getD i 0 := by
  have hi' : i < sizes.length := by rw [← enc_length]; exact hi
  have hs := shared_facts h
  have hk : i < (shared (loudParts (bandsOf l sizes)) sizes bits).length := by rw [hs.1]; exact hi'
  have hk2 := pulsesOk_getD hs.2.1 i
  have hloud := near_loud (v := (bandsOf l sizes).getD i []) hk2.1 (loud_of_pulse h i hi')
  have hsz := bands_sizes h i hi'
  have hszp := sizes_pos h _ (getD_mem hi')
  rw [enc_get i hi]
  refine ⟨gainOf_ok (band_loud h i), pulsesErr_zero.2 ⟨?_, ?_, ?_⟩, ?_, hloud⟩
  · show (near _ _).length ≤ 6
    rw [near_length]; omega
  · show allIn (near _ _) 8 = true
    rw [allIn_iff]
    intro x hx
    have h2 : far x ≤ loud (near ((bandsOf l sizes).getD i []) ((shared (loudParts (bandsOf l sizes)) sizes bits).getD i 0)) := by
      generalize near ((bandsOf l sizes).getD i []) ((shared (loudParts (bandsOf l sizes)) sizes bits).getD i 0) = q at *
      clear hloud
      induction q with
      | nil => simp at hx
      | cons y q ih =>
        have := loud_nonneg q; have := far_nonneg y
        simp only [loud]
        rcases List.mem_cons.1 hx with rfl | hx
        · omega
        · have := ih hx; omega
    rw [hloud] at h2
    exact far_le.1 (Int.le_trans h2 hk2.2)
  · show loud (near _ _) ≤ 8
    have e : loud (near ((bandsOf l sizes).getD i []) ((shared (loudParts (bandsOf l sizes)) sizes bits).getD i 0)) = (shared (loudParts (bandsOf l sizes)) sizes bits).getD i 0 := hloud
    rw [e]; exact hk2.2
  · show ((near _ _).length : Int) = _
    rw [near_length]; exact hsz
theorem enc_loud : (encoded l sizes bits).map (fun x => loud x.pulses) = shared (loudParts (bandsOf l sizes)) sizes bits := by
  apply List.ext_getElem
  · rw [List.length_map, enc_length, (shared_facts h).1]
  · intro i h1 h2
    rw [List.length_map] at h1
    rw [List.getElem_map, (enc_part h i h1).2.2.2, List.getD_eq_getElem?_getD, List.getElem?_eq_getElem h2]; rfl
/-- WHAT IS MADE IS RIGHT. -/
theorem enc_right : frameErr (encoded l sizes bits) sizes bits = 0 ∧ cost sizes ((encoded l sizes bits).map (fun x => loud x.pulses)) ≤ bits := by
  have hf := enc_facts h
  have hs := shared_facts h
  refine ⟨frameErr_zero.2 ⟨hf.1, ?_, ?_, hf.2.2.2.1, hf.2.2.2.2.1, ?_⟩, ?_⟩
  · apply List.ext_getElem
    · rw [List.length_map, enc_length]
    · intro i h1 h2
      rw [List.length_map] at h1
      rw [List.getElem_map, (enc_part h i h1).2.2.1, List.getD_eq_getElem?_getD, List.getElem?_eq_getElem h2]; rfl
  · intro x hx
    obtain ⟨i, hi, rfl⟩ := List.mem_iff_getElem.1 hx
    have := enc_part h i hi
    exact ⟨this.1, this.2.1⟩
  · rw [enc_loud h]; unfold shared; rw [vals_enc]
  · rw [enc_loud h]; exact hs.2.2.1
theorem enc_many : (manyOf (encoded l sizes bits) : Int) = total sizes := by
  have h2 := (frameErr_zero.1 (enc_right h).1).2.1
  have key : ∀ p : List Part, (manyOf p : Int) = total (p.map (fun x => (x.pulses.length : Int))) := by
    intro p
    unfold manyOf
    induction p with
    | nil => rfl
    | cons x p ih => simp only [List.map_cons, List.sum_cons, total]; omega
  rw [key, h2]
theorem enc_decErr : decErr (encoded l sizes bits) = 0 ∨ decErr (encoded l sizes bits) = 1 := by
  have hf := enc_facts h
  have hb := bandErr_zero.1 hf.1
  have hp := (frameErr_zero.1 (enc_right h).1).2.2.1
  have hm := enc_many h
  have hl := enc_length (l := l) (sizes := sizes) (bits := bits)
  have he := (lapErr_zero.1 hf.2.2.1).2.1
  unfold decErr
  rw [if_neg (by omega), if_neg (by omega), if_neg (by simp [decPart_zero.2 hp])]
  unfold lapErr
  rw [decAll_length, if_neg (by omega), if_neg (by omega)]
  split <;> simp
end
/-- Each number is told by its pulses and its gain: together no louder than the value, nor by their number softer. -/
theorem numbers_loud (p : Part) (hk : 0 < loud p.pulses) (hv : 0 ≤ val p.gain) : loud (numbers p) ≤ val p.gain ∧ val p.gain < loud (numbers p) + p.pulses.length := by
  have one : ∀ x, far (number1 p x) * loud p.pulses ≤ far x * val p.gain ∧ far x * val p.gain < far (number1 p x) * loud p.pulses + loud p.pulses := by
    intro x
    have hn : number1 p x = (x * val p.gain).tdiv (loud p.pulses) := by unfold number1; rw [if_pos hk]
    have hx : far x * val p.gain = far (x * val p.gain) := by rw [Int.mul_comm x, far_mul hv, Int.mul_comm]
    have key : ∀ y : Int, 0 ≤ y → far (y.tdiv (loud p.pulses)) * loud p.pulses ≤ y ∧ y < far (y.tdiv (loud p.pulses)) * loud p.pulses + loud p.pulses := by
      intro y hy
      rw [Int.tdiv_eq_ediv_of_nonneg hy]
      have h1 : 0 ≤ y / loud p.pulses := Int.ediv_nonneg hy (by omega)
      have h2 := Int.mul_ediv_add_emod y (loud p.pulses)
      have h3 := Int.emod_nonneg y (show loud p.pulses ≠ 0 by omega)
      have h4 := Int.emod_lt_of_pos y hk
      rw [Int.mul_comm] at h2
      have h5 : far (y / loud p.pulses) = y / loud p.pulses := by rw [far_eq, if_neg (by omega)]
      rw [h5]; omega
    rw [hx, hn]
    rcases Int.lt_or_le (x * val p.gain) 0 with h0 | h0
    · have h1 := key (-(x * val p.gain)) (by omega)
      rw [Int.neg_tdiv, far_neg] at h1
      have h2 : far (x * val p.gain) = -(x * val p.gain) := by rw [far_eq, if_pos h0]
      rw [h2]; exact h1
    · have h1 := key _ h0
      have h2 : far (x * val p.gain) = x * val p.gain := by rw [far_eq, if_neg (by omega)]
      rw [h2]; exact h1
  have all : ∀ q : List Int, loud (q.map (number1 p)) * loud p.pulses ≤ loud q * val p.gain ∧ (q ≠ [] → loud q * val p.gain < loud (q.map (number1 p)) * loud p.pulses + q.length * loud p.pulses) := by
    intro q
    induction q with
    | nil => simp [loud]
    | cons x q ih =>
      have h1 := one x
      simp only [List.map_cons, loud, List.length_cons]
      rw [Int.add_mul, Int.add_mul]
      have e : ((q.length + 1 : Nat) : Int) * loud p.pulses = q.length * loud p.pulses + loud p.pulses := by rw [Int.natCast_add, Int.add_mul]; simp
      rw [e]
      refine ⟨by omega, fun _ => ?_⟩
      by_cases hq : q = []
      · subst hq; simp [loud]; omega
      · have := ih.2 hq; omega
  have hne : p.pulses ≠ [] := by intro he; rw [he] at hk; simp [loud] at hk
  have ha := all p.pulses
  unfold numbers
  refine ⟨?_, ?_⟩
  · have h1 := ha.1
    rw [Int.mul_comm (loud p.pulses)] at h1
    exact Int.le_of_mul_le_mul_right h1 hk
  · have h1 := ha.2 hne
    rw [Int.mul_comm (loud p.pulses), ← Int.add_mul] at h1
    exact Int.lt_of_mul_lt_mul_right h1 (by omega)
theorem numbers_silent (p : Part) (hk : loud p.pulses = 0) : loud (numbers p) = 0 := by
  have h := loud_eq_zero hk
  unfold numbers
  have : p.pulses.map (number1 p) = p.pulses := by
    have e : ∀ x ∈ p.pulses, number1 p x = x := fun x _ => by unfold number1; rw [if_neg (by omega)]
    rw [List.map_congr_left e, List.map_id']
  rw [this]; exact hk
/-- Each band's numbers lie, one behind the other, in what all tell. -/
theorem decAll_part : ∀ (p : List Part) (i : Nat) (hi : i < p.length), ((decAll p).drop (manyOf (p.take i))).take p[i].pulses.length = numbers p[i]
  | [], i, hi => by simp at hi
  | x :: p, 0, _ => by
    simp only [List.take_zero, manyOf, List.map_nil, List.sum_nil, List.drop_zero, List.getElem_cons_zero, decAll, List.flatMap_cons]
    rw [List.take_append_of_le_length (by simp [numbers]), List.take_of_length_le (by simp [numbers])]
  | x :: p, i + 1, hi => by
    have ih := decAll_part p i (by simpa using hi)
    simp only [List.take_succ_cons, List.getElem_cons_succ]
    have e : manyOf (x :: p.take i) = (numbers x).length + manyOf (p.take i) := by simp [manyOf, numbers]
    have e2 : decAll (x :: p) = numbers x ++ decAll p := rfl
    rw [e, e2, ← List.drop_drop, List.drop_left, ih]
/-- Silence. -/
theorem lapF_zeros (n : Nat) (h : n % 2 = 0) : lapF (List.replicate n 0) = List.replicate n 0 := by
  have hg : ∀ i, (List.replicate n (0 : Int)).getD i 0 = 0 := fun i => by rw [List.getD_eq_getElem?_getD, List.getElem?_replicate]; split <;> rfl
  have hd : ∀ m i, dif (List.replicate n 0) m i = 0 := fun m i => by unfold dif ev; rw [hg, hg, hg]; rfl
  have hs : ∀ m i, stay (List.replicate n 0) m i = 0 := fun m i => by unfold stay ev; rw [hd, hd, hg]; rfl
  have hl := lapF_length (List.replicate n 0) (by rw [List.length_replicate]; exact h)
  apply ext_getD
  · rw [hl]
  · intro i hi
    rw [hg]
    unfold lapF stays difs
    rw [List.getD_eq_getElem?_getD]
    have : ∀ x ∈ (List.range ((List.replicate n (0 : Int)).length / 2)).map (stay (List.replicate n 0) ((List.replicate n (0 : Int)).length / 2)) ++ (List.range ((List.replicate n (0 : Int)).length / 2)).map (dif (List.replicate n 0) ((List.replicate n (0 : Int)).length / 2)), x = 0 := by
      intro x hx
      rw [List.mem_append, List.mem_map, List.mem_map] at hx
      rcases hx with ⟨j, _, rfl⟩ | ⟨j, _, rfl⟩
      · exact hs _ _
      · exact hd _ _
    cases hq : ((List.range ((List.replicate n (0 : Int)).length / 2)).map (stay (List.replicate n 0) ((List.replicate n (0 : Int)).length / 2)) ++ (List.range ((List.replicate n (0 : Int)).length / 2)).map (dif (List.replicate n 0) ((List.replicate n (0 : Int)).length / 2)))[i]? with
    | none => rfl
    | some y => exact this y (List.mem_of_getElem? hq)
theorem lapI_zeros (m : List Int) (h : ∀ x ∈ m, x = 0) : ∀ x ∈ lapI m, x = 0 := by
  have hg : ∀ i, m.getD i 0 = 0 := fun i => by
    rw [List.getD_eq_getElem?_getD]
    cases hq : m[i]? with
    | none => rfl
    | some y => exact h y (List.mem_of_getElem? hq)
  have he : ∀ n i, evI m n i = 0 := fun n i => by unfold evI; rw [hg, hg, hg]; rfl
  have ho : ∀ n i, odI m n i = 0 := fun n i => by unfold odI; rw [he, he, hg]; rfl
  intro x hx
  unfold lapI at hx
  rw [List.mem_flatMap] at hx
  obtain ⟨i, _, hx⟩ := hx
  simp only [List.mem_cons, List.not_mem_nil, or_false] at hx
  rcases hx with rfl | rfl
  · exact he _ _
  · exact ho _ _
end Ph
/- Plain law: a frame as bytes (chapter 17). No program in sight. -/
namespace Ph
def packNums (p : List Part) : List Int := p.map (fun x => x.gain) ++ p.map (fun x => ((rank x.pulses : Nat) : Int))
def packWide (p : List Part) : List Int := p.map (fun _ => (6 : Int)) ++ p.map (fun x => wid x.pulses.length (loud x.pulses))
def packBits (p : List Part) : List Int := spread (packNums p) (packWide p)
def gainBits (p : List Part) : List Int := p.flatMap fun x => bitsW 6 x.gain.toNat
def rankBits (p : List Part) : List Int := p.flatMap fun x => bitsW (wid x.pulses.length (loud x.pulses)).toNat (rank x.pulses)
theorem spread_append : ∀ (a b c d : List Int), a.length = c.length → spread (a ++ b) (c ++ d) = spread a c ++ spread b d
  | [], b, [], d, _ => rfl
  | [], _, _ :: _, _, h => by simp at h
  | _ :: _, _, [], _, h => by simp at h
  | x :: a, b, y :: c, d, h => by
    have := spread_append a b c d (by simpa using h)
    simp only [List.cons_append, spread, this, List.append_assoc]
theorem spread_map {α : Type} (f g : α → Int) : ∀ p : List α, spread (p.map f) (p.map g) = p.flatMap fun x => bitsW (g x).toNat (f x).toNat
  | [] => rfl
  | x :: p => by simp only [List.map_cons, spread, spread_map f g p, List.flatMap_cons]
theorem packBits_eq (p : List Part) : packBits p = gainBits p ++ rankBits p := by
  unfold packBits packNums packWide gainBits rankBits
  rw [spread_append _ _ _ _ (by simp), spread_map, spread_map]
  simp only [Int.toNat_natCast]
  rfl
/-- The fault of packing. -/
def packErr (p : List Part) (sizes : List Int) (bits : Int) : Int := if frameErr p sizes bits ≠ 0 then frameErr p sizes bits else if 400 < (packBits p).length then 4 else 0

/-! ### Read. -/
def unGains : Nat → List Int → Option (List Int × List Int)
  | 0, all => some ([], all)
  | n + 1, all =>
    if all.length < 6 then none
    else if valued (number (all.take 6)) = true then
      match unGains n (all.drop 6) with
      | none => none
      | some (g, r) => some ((number (all.take 6) : Int) :: g, r)
    else none
def unRows : List Int → List Int → List Int → Option (List (List Int) × List Int)
  | s :: sizes, k :: ks, all =>
    if (all.length : Int) < wid s k then none
    else if number (all.take (wid s k).toNat) < cnt s.toNat k.toNat then
      match unRows sizes ks (all.drop (wid s k).toNat) with
      | none => none
      | some (l, r) => some (rowOf s.toNat k.toNat (number (all.take (wid s k).toNat)) :: l, r)
    else none
  | _, _, all => some ([], all)
def gainParts (g : List Int) : List Part := g.map fun x => ⟨x, []⟩
def parse (all sizes : List Int) (bits : Int) : Option (List Part × List Int) :=
  match unGains sizes.length all with
  | none => none
  | some (g, r) => match unRows sizes (shared (gainParts g) sizes bits) r with
    | none => none
    | some (l, r) => some (List.zipWith Part.mk g l, r)
def noOne (r : List Int) : Bool := r.all fun b => !decide (b = 1)
def unpack (b : List Nat) (sizes : List Int) (bits : Int) : Option (List Part) :=
  match parse (opened b) sizes bits with
  | none => none
  | some (p, r) => if r.length < 8 ∧ noOne r = true then some p else none
theorem unGains_append : ∀ {n : Nat} {x g r : List Int} (y : List Int), unGains n x = some (g, r) → unGains n (x ++ y) = some (g, r ++ y)
  | 0, x, g, r, y, h => by simp only [unGains, Option.some.injEq, Prod.mk.injEq] at h ⊢; exact ⟨h.1, by rw [h.2]⟩
  | n + 1, x, g, r, y, h => by
    unfold unGains at h ⊢
    split at h
    · cases h
    · rename_i h6
      rw [if_neg (by rw [List.length_append]; omega), List.take_append_of_le_length (by omega), List.drop_append_of_le_length (by omega)]
      split at h
      · rename_i hv
        rw [if_pos hv]
        cases hg : unGains n (x.drop 6) with
        | none => rw [hg] at h; cases h
        | some q =>
          obtain ⟨g', r'⟩ := q
          rw [hg] at h
          rw [unGains_append y hg]
          simp only [Option.some.injEq, Prod.mk.injEq] at h ⊢
          exact ⟨h.1, by rw [h.2]⟩
      · cases h
theorem unRows_append : ∀ {s k x : List Int} {l : List (List Int)} {r : List Int} (y : List Int), unRows s k x = some (l, r) → unRows s k (x ++ y) = some (l, r ++ y)
  | [], k, x, l, r, y, h => by simp only [unRows, Option.some.injEq, Prod.mk.injEq] at h ⊢; exact ⟨h.1, by rw [h.2]⟩
  | s :: sizes, [], x, l, r, y, h => by simp only [unRows, Option.some.injEq, Prod.mk.injEq] at h ⊢; exact ⟨h.1, by rw [h.2]⟩
  | s :: sizes, k :: ks, x, l, r, y, h => by
    unfold unRows at h ⊢
    have hw := wid_nonneg s k
    split at h
    · cases h
    · rename_i h6
      rw [if_neg (by rw [List.length_append]; omega), List.take_append_of_le_length (by omega), List.drop_append_of_le_length (by omega)]
      split at h
      · rename_i hv
        rw [if_pos hv]
        cases hg : unRows sizes ks (x.drop (wid s k).toNat) with
        | none => rw [hg] at h; cases h
        | some q =>
          obtain ⟨g', r'⟩ := q
          rw [hg] at h
          rw [unRows_append y hg]
          simp only [Option.some.injEq, Prod.mk.injEq] at h ⊢
          exact ⟨h.1, by rw [h.2]⟩
      · cases h
theorem parse_append {x sizes : List Int} {bits : Int} {p : List Part} {r : List Int} (y : List Int) (h : parse x sizes bits = some (p, r)) : parse (x ++ y) sizes bits = some (p, r ++ y) := by
  unfold parse at h ⊢
  cases hg : unGains sizes.length x with
  | none => rw [hg] at h; cases h
  | some q =>
    obtain ⟨g, r1⟩ := q
    rw [hg] at h
    rw [unGains_append y hg]
    simp only at h ⊢
    cases hr : unRows sizes (shared (gainParts g) sizes bits) r1 with
    | none => rw [hr] at h; cases h
    | some q2 =>
      obtain ⟨l, r2⟩ := q2
      rw [hr] at h
      rw [unRows_append y hr]
      simp only [Option.some.injEq, Prod.mk.injEq] at h ⊢
      exact ⟨h.1, by rw [h.2]⟩

/-! ### What was packed is read. -/
theorem unGains_gainBits : ∀ (p : List Part) (y : List Int), (∀ x ∈ p, gainOk x.gain = true) → unGains p.length (gainBits p ++ y) = some (p.map (fun x => x.gain), y)
  | [], y, _ => rfl
  | x :: p, y, h => by
    have hx := h x (by simp)
    have ih := unGains_gainBits p y (fun z hz => h z (by simp [hz]))
    unfold gainOk at hx
    rw [Bool.and_eq_true, decide_eq_true_eq] at hx
    have hv := hx.2
    simp only [valued, Bool.and_eq_true, decide_eq_true_eq] at hv
    have e : gainBits (x :: p) ++ y = bitsW 6 x.gain.toNat ++ (gainBits p ++ y) := by simp [gainBits]
    have hl := bitsW_length 6 x.gain.toNat
    have ht : (gainBits (x :: p) ++ y).take 6 = bitsW 6 x.gain.toNat := by rw [e, List.take_append_of_le_length (by omega), List.take_of_length_le (by omega)]
    have hd : (gainBits (x :: p) ++ y).drop 6 = gainBits p ++ y := by rw [e, List.drop_append_of_le_length (by omega), List.drop_of_length_le (by omega), List.nil_append]
    have hn : number (bitsW 6 x.gain.toNat) = x.gain.toNat := by rw [number_bits]; omega
    simp only [List.length_cons, unGains, ht, hd, hn, ih, hx.2]
    rw [if_neg (by rw [e, List.length_append, hl]; omega)]
    simp only [if_true, List.map_cons, Option.some.injEq, Prod.mk.injEq, and_true]
    congr 1; omega
theorem rank_fits {v : List Int} (hl : v.length ≤ 6) (hk : loud v ≤ 8) : rank v < 2 ^ (wid v.length (loud v)).toNat ∧ (wid v.length (loud v)).toNat ≤ 20 := by
  have h1 := rank_lt v
  have h2 := bits_enough v.length (loudN v) hl (by have := loudN_int v; omega)
  have e : (wid v.length (loud v)).toNat = bitsOf (cnt v.length (loudN v)) := by
    unfold wid; rw [Int.toNat_natCast, Int.toNat_natCast]; rfl
  rw [e]; omega
theorem unRows_rankBits : ∀ (p : List Part) (y : List Int), (∀ x ∈ p, pulsesErr x.pulses = 0) →
    unRows (p.map (fun x => (x.pulses.length : Int))) (p.map (fun x => loud x.pulses)) (rankBits p ++ y) = some (p.map (fun x => x.pulses), y)
  | [], y, _ => rfl
  | x :: p, y, h => by
    have hx := pulsesErr_zero.1 (h x (by simp))
    have ih := unRows_rankBits p y (fun z hz => h z (by simp [hz]))
    have hf := rank_fits hx.1 hx.2.2
    have e : rankBits (x :: p) ++ y = bitsW (wid x.pulses.length (loud x.pulses)).toNat (rank x.pulses) ++ (rankBits p ++ y) := by simp [rankBits]
    have hl := bitsW_length (wid x.pulses.length (loud x.pulses)).toNat (rank x.pulses)
    have ht : (rankBits (x :: p) ++ y).take (wid x.pulses.length (loud x.pulses)).toNat = bitsW (wid x.pulses.length (loud x.pulses)).toNat (rank x.pulses) := by
      rw [e, List.take_append_of_le_length (by omega), List.take_of_length_le (by omega)]
    have hd : (rankBits (x :: p) ++ y).drop (wid x.pulses.length (loud x.pulses)).toNat = rankBits p ++ y := by
      rw [e, List.drop_append_of_le_length (by omega), List.drop_of_length_le (by omega), List.nil_append]
    have hn : number (bitsW (wid x.pulses.length (loud x.pulses)).toNat (rank x.pulses)) = rank x.pulses := by rw [number_bits]; exact Nat.mod_eq_of_lt hf.1
    have hlN : (loud x.pulses).toNat = loudN x.pulses := rfl
    have hw := wid_nonneg x.pulses.length (loud x.pulses)
    simp only [List.map_cons, unRows, ht, hd, hn, ih, Int.toNat_natCast, hlN]
    rw [if_neg (by rw [e, List.length_append, hl]; omega), if_pos (rank_lt _), rowOf_rank]
theorem zip_parts : ∀ p : List Part, List.zipWith Part.mk (p.map (fun x => x.gain)) (p.map (fun x => x.pulses)) = p
  | [] => rfl
  | x :: p => by simp only [List.map_cons, List.zipWith_cons_cons, zip_parts p]
theorem shared_gains (p : List Part) (sizes : List Int) (bits : Int) : shared (gainParts (p.map (fun x => x.gain))) sizes bits = shared p sizes bits := by
  unfold shared vals gainParts; simp only [List.map_map]; rfl
theorem parse_packBits {p : List Part} {sizes : List Int} {bits : Int} (h : frameErr p sizes bits = 0) (y : List Int) : parse (packBits p ++ y) sizes bits = some (p, y) := by
  obtain ⟨_, h2, h3, _, _, h6⟩ := frameErr_zero.1 h
  have hl : p.length = sizes.length := by rw [← h2, List.length_map]
  unfold parse
  rw [packBits_eq, List.append_assoc, ← hl, unGains_gainBits p _ (fun x hx => (h3 x hx).1)]
  simp only
  have hr := unRows_rankBits p y (fun x hx => (h3 x hx).2)
  rw [shared_gains, ← h6, ← h2, hr]
  simp only [zip_parts]
theorem packBits_bits (p : List Part) : isBits (packBits p) := spread_isBits _ _
theorem unpack_packed {p : List Part} {sizes : List Int} {bits : Int} (h : frameErr p sizes bits = 0) : unpack (packed (packBits p)) sizes bits = some p := by
  unfold unpack
  rw [opened_packed _ _ (Nat.le_refl _) (packBits_bits p), parse_packBits h]
  simp only
  rw [if_pos]
  refine ⟨by rw [List.length_replicate]; omega, ?_⟩
  unfold noOne
  rw [List.all_eq_true]
  intro b hb
  rw [List.eq_of_mem_replicate hb]; rfl

/-! ### What is read is packed again. -/
theorem unGains_back : ∀ {n : Nat} {x g r : List Int}, isBits x → unGains n x = some (g, r) → g.length = n ∧ (∀ y ∈ g, gainOk y = true) ∧ x = (g.flatMap fun y => bitsW 6 y.toNat) ++ r
  | 0, x, g, r, _, h => by simp only [unGains, Option.some.injEq, Prod.mk.injEq] at h; rw [← h.1, h.2]; simp
  | n + 1, x, g, r, hb, h => by
    unfold unGains at h
    split at h
    · cases h
    · rename_i h6
      split at h
      · rename_i hv
        cases hg : unGains n (x.drop 6) with
        | none => rw [hg] at h; cases h
        | some q =>
          obtain ⟨g', r'⟩ := q
          rw [hg] at h
          simp only [Option.some.injEq, Prod.mk.injEq] at h
          obtain ⟨h1, rfl⟩ := h
          have ih := unGains_back (fun y hy => hb y (List.mem_of_mem_drop hy)) hg
          have hbt : isBits (x.take 6) := fun y hy => hb y (List.mem_of_mem_take hy)
          have hn := bits_number hbt
          rw [List.length_take, Nat.min_eq_left (by omega)] at hn
          rw [← h1]
          refine ⟨by rw [List.length_cons, ih.1], fun y hy => ?_, ?_⟩
          · rcases List.mem_cons.1 hy with rfl | hy
            · unfold gainOk; rw [Bool.and_eq_true, decide_eq_true_eq, Int.toNat_natCast]; exact ⟨by omega, hv⟩
            · exact ih.2.1 y hy
          · rw [List.flatMap_cons, Int.toNat_natCast, hn, List.append_assoc, ← ih.2.2, List.take_append_drop]
      · cases h
theorem unRows_back : ∀ {s k x : List Int} {l : List (List Int)} {r : List Int}, s.length = k.length → (∀ y ∈ s, 0 ≤ y ∧ y ≤ 6) → (∀ y ∈ k, 0 ≤ y ∧ y ≤ 8) → isBits x → unRows s k x = some (l, r) →
    l.map (fun v => (v.length : Int)) = s ∧ l.map loud = k ∧ x = (l.flatMap fun v => bitsW (wid v.length (loud v)).toNat (rank v)) ++ r
  | [], [], x, l, r, _, _, _, _, h => by simp only [unRows, Option.some.injEq, Prod.mk.injEq] at h; rw [← h.1, h.2]; simp
  | [], _ :: _, _, _, _, hl, _, _, _, _ => by simp at hl
  | _ :: _, [], _, _, _, hl, _, _, _, _ => by simp at hl
  | s :: sizes, k :: ks, x, l, r, hl, hs, hk, hb, h => by
    unfold unRows at h
    have hw := wid_nonneg s k
    split at h
    · cases h
    · rename_i h6
      split at h
      · rename_i hv
        cases hg : unRows sizes ks (x.drop (wid s k).toNat) with
        | none => rw [hg] at h; cases h
        | some q =>
          obtain ⟨l', r'⟩ := q
          rw [hg] at h
          simp only [Option.some.injEq, Prod.mk.injEq] at h
          obtain ⟨h1, rfl⟩ := h
          have ih := unRows_back (by simpa using hl) (fun y hy => hs y (by simp [hy])) (fun y hy => hk y (by simp [hy])) (fun y hy => hb y (List.mem_of_mem_drop hy)) hg
          have hbt : isBits (x.take (wid s k).toNat) := fun y hy => hb y (List.mem_of_mem_take hy)
          have hn := bits_number hbt
          rw [List.length_take, Nat.min_eq_left (by omega)] at hn
          have hr := rank_rowOf s.toNat k.toNat _ hv
          have hrl := rowOf_length s.toNat k.toNat (number (x.take (wid s k).toNat))
          have hs0 := hs s (by simp)
          have hk0 := hk k (by simp)
          have hloud : loud (rowOf s.toNat k.toNat (number (x.take (wid s k).toNat))) = k := by rw [← loudN_int, hr.2]; omega
          have hlen : ((rowOf s.toNat k.toNat (number (x.take (wid s k).toNat))).length : Int) = s := by rw [hrl]; omega
          rw [← h1]
          refine ⟨by rw [List.map_cons, hlen, ih.1], by rw [List.map_cons, hloud, ih.2.1], ?_⟩
          rw [List.flatMap_cons, hlen, hloud, hr.1, hn, List.append_assoc, ← ih.2.2, List.take_append_drop]
      · cases h
theorem zip_maps : ∀ (g : List Int) (l : List (List Int)), g.length = l.length → (List.zipWith Part.mk g l).map (fun x => x.gain) = g ∧ (List.zipWith Part.mk g l).map (fun x => x.pulses) = l
  | [], [], _ => ⟨rfl, rfl⟩
  | [], _ :: _, h => by simp at h
  | _ :: _, [], h => by simp at h
  | x :: g, y :: l, h => by
    have := zip_maps g l (by simpa using h)
    simp only [List.zipWith_cons_cons, List.map_cons, this.1, this.2, and_self]
theorem row_pulses {n k r : Nat} (hn : n ≤ 6) (hk : k ≤ 8) (h : r < cnt n k) : pulsesErr (rowOf n k r) = 0 := by
  have h1 := rank_rowOf n k r h
  have h2 := rowOf_length n k r
  have hl : loud (rowOf n k r) = k := by rw [← loudN_int, h1.2]
  refine pulsesErr_zero.2 ⟨by omega, ?_, by omega⟩
  rw [allIn_iff]
  intro x hx
  have key : ∀ q : List Int, x ∈ q → far x ≤ loud q := by
    intro q
    induction q with
    | nil => simp
    | cons y q ih =>
      intro hx
      have := loud_nonneg q; have := far_nonneg y
      simp only [loud]
      rcases List.mem_cons.1 hx with rfl | hx
      · omega
      · have := ih hx; omega
  have := key _ hx
  exact far_le.1 (by omega)
theorem unRows_pulses : ∀ {s k x : List Int} {l : List (List Int)} {r : List Int}, (∀ y ∈ s, 0 ≤ y ∧ y ≤ 6) → (∀ y ∈ k, 0 ≤ y ∧ y ≤ 8) → unRows s k x = some (l, r) → ∀ v ∈ l, pulsesErr v = 0
  | [], k, x, l, r, _, _, h => by simp only [unRows, Option.some.injEq, Prod.mk.injEq] at h; rw [← h.1]; simp
  | _ :: _, [], x, l, r, _, _, h => by simp only [unRows, Option.some.injEq, Prod.mk.injEq] at h; rw [← h.1]; simp
  | s :: sizes, k :: ks, x, l, r, hs, hk, h => by
    unfold unRows at h
    split at h
    · cases h
    · split at h
      · rename_i hv
        cases hg : unRows sizes ks (x.drop (wid s k).toNat) with
        | none => rw [hg] at h; cases h
        | some q =>
          obtain ⟨l', r'⟩ := q
          rw [hg] at h
          simp only [Option.some.injEq, Prod.mk.injEq] at h
          rw [← h.1]
          intro v hvm
          have h1 := hs s (by simp)
          have h2 := hk k (by simp)
          rcases List.mem_cons.1 hvm with rfl | hvm
          · exact row_pulses (by omega) (by omega) hv
          · exact unRows_pulses (fun y hy => hs y (by simp [hy])) (fun y hy => hk y (by simp [hy])) hg v hvm
      · cases h
theorem parse_back {x sizes : List Int} {bits : Int} {p : List Part} {r : List Int} (hb : bandErr sizes = 0) (h0 : 0 ≤ bits) (h4 : bits ≤ 400) (hx : isBits x) (h : parse x sizes bits = some (p, r)) :
    frameErr p sizes bits = 0 ∧ x = packBits p ++ r := by
  have hsz := (bandErr_zero.1 hb).2.2.1
  unfold parse at h
  cases hg : unGains sizes.length x with
  | none => rw [hg] at h; cases h
  | some q =>
    obtain ⟨g, r1⟩ := q
    rw [hg] at h
    simp only at h
    have hgb := unGains_back hx hg
    have hsh := share_ok (s := sizes) (loud := vals (gainParts g)) h0
    have hx1 : isBits r1 := fun y hy => hx y (by rw [hgb.2.2]; simp [hy])
    cases hr : unRows sizes (shared (gainParts g) sizes bits) r1 with
    | none => rw [hr] at h; cases h
    | some q2 =>
      obtain ⟨l, r2⟩ := q2
      rw [hr] at h
      simp only [Option.some.injEq, Prod.mk.injEq] at h
      obtain ⟨h1, rfl⟩ := h
      have hk : ∀ y ∈ shared (gainParts g) sizes bits, 0 ≤ y ∧ y ≤ 8 := hsh.2.1
      have hs6 : ∀ y ∈ sizes, 0 ≤ y ∧ y ≤ 6 := fun y hy => by have := hsz y hy; omega
      have hsl : sizes.length = (shared (gainParts g) sizes bits).length := hsh.1.symm
      have hrb := unRows_back hsl hs6 hk hx1 hr
      have hrp := unRows_pulses hs6 hk hr
      have hll : l.length = sizes.length := by have := congrArg List.length hrb.1; simpa using this
      have hz := zip_maps g l (by rw [hgb.1, hll])
      rw [h1] at hz
      have hm1 : p.map (fun x => (x.pulses.length : Int)) = sizes := by rw [← hrb.1, ← hz.2, List.map_map]; rfl
      have hm2 : p.map (fun x => loud x.pulses) = shared (gainParts g) sizes bits := by rw [← hrb.2.1, ← hz.2, List.map_map]; rfl
      refine ⟨frameErr_zero.2 ⟨hb, hm1, fun y hy => ⟨?_, ?_⟩, h0, h4, ?_⟩, ?_⟩
      · exact hgb.2.1 _ (by rw [← hz.1]; exact List.mem_map_of_mem hy)
      · exact hrp _ (by rw [← hz.2]; exact List.mem_map_of_mem hy)
      · rw [hm2, ← hz.1, shared_gains]
      · rw [packBits_eq]
        have e1 : gainBits p = g.flatMap fun y => bitsW 6 y.toNat := by rw [← hz.1, List.flatMap_map]; rfl
        have e2 : rankBits p = l.flatMap fun v => bitsW (wid v.length (loud v)).toNat (rank v) := by rw [← hz.2, List.flatMap_map]; rfl
        rw [e1, e2, List.append_assoc, ← hrb.2.2]; exact hgb.2.2
theorem opened_bits (b : List Nat) : isBits (opened b) := by
  intro x hx
  unfold opened at hx
  obtain ⟨y, _, hy⟩ := List.mem_flatMap.1 hx
  exact bitsW_bit _ _ x hy
theorem unpack_back {b : List Nat} {sizes : List Int} {bits : Int} {p : List Part} (hb : bandErr sizes = 0) (h0 : 0 ≤ bits) (h4 : bits ≤ 400) (hlt : ∀ x ∈ b, x < 256) (h : unpack b sizes bits = some p) :
    frameErr p sizes bits = 0 ∧ packed (packBits p) = b ∧ (packBits p).length ≤ 8 * b.length := by
  unfold unpack at h
  cases hp : parse (opened b) sizes bits with
  | none => rw [hp] at h; cases h
  | some q =>
    obtain ⟨p', r⟩ := q
    rw [hp] at h
    simp only at h
    split at h
    · rename_i hr
      simp only [Option.some.injEq] at h
      subst h
      have hpb := parse_back hb h0 h4 (opened_bits b) hp
      have hol := opened_length b
      have hlen := congrArg List.length hpb.2
      rw [hol, List.length_append] at hlen
      refine ⟨hpb.1, ?_, by omega⟩
      have := packed_opened b (packBits p').length hlt (by omega) (by
        intro x hx
        rw [hpb.2, List.drop_left] at hx
        have h1 := hr.2
        unfold noOne at h1
        rw [List.all_eq_true] at h1
        have h2 := h1 x hx
        have h3 := opened_bits b x (by rw [hpb.2]; simp [hx])
        rcases h3 with h3 | h3
        · exact h3
        · rw [h3] at h2; simp at h2)
      rw [hpb.2, List.take_left] at this
      exact this
    · cases h
/-- Whatever is left: a frame is one of its bytes just where its own bytes are these. -/
theorem unpack_iff {b : List Nat} {sizes : List Int} {bits : Int} {p : List Part} (hb : bandErr sizes = 0) (h0 : 0 ≤ bits) (h4 : bits ≤ 400) (hlt : ∀ x ∈ b, x < 256) {r : List Int}
    (h : parse (opened b) sizes bits = some (p, r)) : unpack b sizes bits = some p ↔ packed (packBits p) = b := by
  refine ⟨fun h1 => (unpack_back hb h0 h4 hlt h1).2.1, fun h1 => ?_⟩
  have hpb := parse_back hb h0 h4 (opened_bits b) h
  rw [← h1]; exact unpack_packed hpb.1
/-- Cut off it is none. -/
theorem unpack_cut {p : List Part} {sizes : List Int} {bits : Int} (h : frameErr p sizes bits = 0) {c : Nat} (hc : c < (packed (packBits p)).length) : unpack ((packed (packBits p)).take c) sizes bits = none := by
  have hol := opened_packed _ _ (Nat.le_refl _) (packBits_bits p)
  have hpl := packed_length (packBits p)
  generalize hB : packed (packBits p) = B at *
  have hsplit : opened (B.take c) ++ opened (B.drop c) = opened B := by
    unfold opened; rw [← List.flatMap_append, List.take_append_drop]
  unfold unpack
  cases hp : parse (opened (B.take c)) sizes bits with
  | none => rfl
  | some q =>
    obtain ⟨q, r⟩ := q
    exfalso
    have h1 := parse_append (opened (B.drop c)) hp
    rw [hsplit, hol, parse_packBits h] at h1
    simp only [Option.some.injEq, Prod.mk.injEq] at h1
    have h2 := congrArg List.length h1.2
    rw [List.length_replicate, List.length_append, opened_length, List.length_drop] at h2
    omega
theorem rankBits_length : ∀ p : List Part, ((rankBits p).length : Int) = cost (p.map (fun x => (x.pulses.length : Int))) (p.map (fun x => loud x.pulses))
  | [] => rfl
  | x :: p => by
    have ih := rankBits_length p
    have hw := wid_nonneg x.pulses.length (loud x.pulses)
    have e : rankBits (x :: p) = bitsW (wid x.pulses.length (loud x.pulses)).toNat (rank x.pulses) ++ rankBits p := rfl
    rw [e, List.length_append, bitsW_length]
    simp only [List.map_cons, cost]; omega
theorem gainBits_length : ∀ p : List Part, (gainBits p).length = 6 * p.length
  | [] => rfl
  | x :: p => by
    have ih := gainBits_length p
    have e : gainBits (x :: p) = bitsW 6 x.gain.toNat ++ gainBits p := rfl
    rw [e, List.length_append, bitsW_length, ih, List.length_cons]; omega
/-- Never longer than told. -/
theorem packBits_le {p : List Part} {sizes : List Int} {bits : Int} (h : frameErr p sizes bits = 0) : ((packBits p).length : Int) ≤ 6 * sizes.length + bits := by
  obtain ⟨_, h2, _, h4, _, h6⟩ := frameErr_zero.1 h
  have hs := share_ok (s := sizes) (loud := vals p) h4
  have hl : p.length = sizes.length := by rw [← h2, List.length_map]
  have e : cost sizes (shared p sizes bits) ≤ bits := hs.2.2.1
  rw [packBits_eq, List.length_append, gainBits_length, Int.natCast_add, rankBits_length, h2, h6, hl]
  omega
end Ph
/- Plain law: what is lost is hidden (chapter 18). No program in sight. -/
namespace Ph
/-- Down to a gain that there is. -/
def downN : Nat → Nat
  | 0 => 0
  | g + 1 => if valued (g + 1) = true then g + 1 else downN g
theorem valued_zero : valued 0 = true := by decide
theorem downN_ok : ∀ g, valued (downN g) = true ∧ downN g ≤ g
  | 0 => ⟨valued_zero, Nat.le_refl _⟩
  | g + 1 => by
    unfold downN
    split
    · rename_i h; exact ⟨h, Nat.le_refl _⟩
    · have := downN_ok g; exact ⟨this.1, by omega⟩
theorem downN_stay {g : Nat} (h : valued g = true) : downN g = g := by
  cases g with
  | zero => rfl
  | succ g => unfold downN; rw [if_pos h]
theorem downN_step {g : Nat} (h : valued (g + 1) = false) : downN (g + 1) = downN g := by
  rw [downN, if_neg (by rw [h]; simp)]
def down (g : Int) : Int := (downN (g - 4).toNat : Nat)
theorem down_ok (g : Int) : gainOk (down g) = true ∧ 0 ≤ down g ∧ (down g ≤ g - 4 ∨ down g = 0) := by
  have h := downN_ok (g - 4).toNat
  unfold gainOk down
  rw [Bool.and_eq_true, decide_eq_true_eq, Int.toNat_natCast]
  exact ⟨⟨by omega, h.1⟩, by omega, by omega⟩
def soften (p : Part) : Part := ⟨down p.gain, if down p.gain = 0 then List.replicate p.pulses.length 0 else p.pulses⟩
/-- What is told of parts; of none that may be noughts. -/
def heardOf (p : List Part) (many : Nat) : List Int := if decErr p = 0 then lapI (decAll p) else List.replicate many 0
theorem soften_len (p : List Part) : (p.map soften).map (fun x => x.pulses.length) = p.map (fun x => x.pulses.length) := by
  rw [List.map_map]
  apply List.map_congr_left
  intro x _
  simp only [Function.comp, soften]
  split <;> simp
theorem soften_many (p : List Part) : manyOf (p.map soften) = manyOf p := by unfold manyOf; rw [soften_len]
theorem heard_length {p : List Part} {many : Nat} (h : p = [] ∨ manyOf p = many) : (heardOf p many).length = many := by
  unfold heardOf
  split
  · rename_i h0
    have hne : p ≠ [] := by intro he; rw [he] at h0; simp [decErr] at h0
    have hm : manyOf p = many := by
      rcases h with h | h
      · exact absurd h hne
      · exact h
    have hz : decPart p = 0 ∧ lapErr (decAll p) 4000 = 0 := by
      unfold decErr at h0
      split at h0
      · omega
      · split at h0
        · omega
        · split at h0
          · omega
          · exact ⟨by omega, h0⟩
    have h2 := (lapErr_zero.1 hz.2).2.1
    rw [lapI_length, decAll_length, hm]
    rw [decAll_length, hm] at h2
    omega
  · simp
/-- So many that were lost in a row. -/
def softens : Nat → List Part → List Part
  | 0, p => p
  | k + 1, p => (softens k p).map soften
theorem softens_many (k : Nat) (p : List Part) : manyOf (softens k p) = manyOf p := by
  induction k with
  | zero => rfl
  | succ k ih => rw [softens, soften_many, ih]
theorem softens_nil (k : Nat) : softens k [] = [] := by
  induction k with
  | zero => rfl
  | succ k ih => rw [softens, ih]; rfl
theorem softens_ne {k : Nat} {p : List Part} (h : p ≠ []) : softens k p ≠ [] := by
  induction k with
  | zero => exact h
  | succ k ih => rw [softens]; simpa using ih
theorem softens_gain {p : List Part} (hp : ∀ x ∈ p, x.gain ≤ 53) : ∀ k, ∀ x ∈ softens k p, (x.gain ≤ 53 - 4 * k ∨ x.gain = 0) ∧ (0 < k → x.gain = 0 → ∀ y ∈ x.pulses, y = 0)
  | 0, x, hx => by
    have := hp x hx
    exact ⟨by omega, fun h => by omega⟩
  | k + 1, x, hx => by
    rw [softens] at hx
    obtain ⟨z, hz, rfl⟩ := List.mem_map.1 hx
    have ih := (softens_gain hp k z hz).1
    have hd := down_ok z.gain
    refine ⟨?_, fun _ h0 => ?_⟩
    · show down z.gain ≤ _ ∨ down z.gain = 0
      rcases ih with ih | ih
      · rcases hd.2.2 with h | h
        · left; omega
        · right; exact h
      · right
        rcases hd.2.2 with h | h
        · have := hd.2.1; omega
        · exact h
    · have h1 : down z.gain = 0 := h0
      intro y hy
      simp only [soften, h1, if_true] at hy
      exact List.eq_of_mem_replicate hy
/-- Behind fourteen it is silent. -/
theorem softens_silent {p : List Part} {many : Nat} (hp : ∀ x ∈ p, x.gain ≤ 53) : ∀ y ∈ heardOf (softens 14 p) many, y = 0 := by
  unfold heardOf
  split
  · apply lapI_zeros
    intro y hy
    unfold decAll at hy
    obtain ⟨x, hx, hy⟩ := List.mem_flatMap.1 hy
    have h := softens_gain hp 14 x hx
    by_cases h0 : x.gain = 0
    · have hz := h.2 (by omega) h0
      unfold numbers at hy
      obtain ⟨z, hz2, rfl⟩ := List.mem_map.1 hy
      rw [hz z hz2]
      unfold number1
      split
      · rw [Int.zero_mul]; exact Int.zero_tdiv _
      · rfl
    · -- a gain of 53 less 56 is none that is above 0
      exfalso
      have h1 : x.gain ≤ 53 - 4 * ((14 : Nat) : Int) := by
        rcases h.1 with h | h
        · exact h
        · exact absurd h h0
      have h2 : 0 ≤ x.gain := by
        rw [softens] at hx
        obtain ⟨z, _, rfl⟩ := List.mem_map.1 hx
        exact (down_ok z.gain).2.1
      omega
  · intro y hy; exact List.eq_of_mem_replicate hy
theorem gainOk_le {g : Int} (h : gainOk g = true) : 0 ≤ g ∧ g ≤ 53 := by
  unfold gainOk at h
  rw [Bool.and_eq_true, decide_eq_true_eq] at h
  have := h.2
  simp only [valued, Bool.and_eq_true, decide_eq_true_eq] at this
  omega
end Ph
/- Plain law: records of bytes, each ended by a byte 10 (chapter 19). No program in sight. -/
namespace Ph
def noNl (l : List UInt8) : Prop := ∀ x ∈ l, x ≠ 10
def isRec (r : List UInt8) : Prop := ∃ body, r = body ++ [10] ∧ noNl body
theorem isRec_pos {r : List UInt8} (h : isRec r) : 0 < r.length := by obtain ⟨b, rfl, _⟩ := h; simp
theorem noNl_take {l : List UInt8} (h : noNl l) (k : Nat) : noNl (l.take k) := fun x hx => h x (List.mem_of_mem_take hx)
theorem rec_part {r : List UInt8} (h : isRec r) {k : Nat} (hk : k < r.length) : noNl (r.take k) := by
  obtain ⟨b, rfl, hb⟩ := h
  rw [List.length_append] at hk
  rw [List.take_append_of_le_length (by simp at hk; omega)]
  exact noNl_take hb k
/-- How many bytes the first i records have. -/
def mark (rs : List (List UInt8)) (i : Nat) : Nat := (rs.take i).flatten.length
theorem mark_zero (rs : List (List UInt8)) : mark rs 0 = 0 := rfl
theorem mark_succ (rs : List (List UInt8)) (i : Nat) (h : i < rs.length) : mark rs (i + 1) = mark rs i + rs[i].length := by
  unfold mark; rw [List.take_succ_eq_append_getElem h, List.flatten_append, List.length_append]; simp only [List.flatten_cons, List.flatten_nil, List.append_nil]
theorem mark_mono (rs : List (List UInt8)) {i j : Nat} (h : i ≤ j) : mark rs i ≤ mark rs j := by
  unfold mark
  have : rs.take j = rs.take i ++ (rs.take j).drop i := by
    have e : rs.take i = (rs.take j).take i := by rw [List.take_take, Nat.min_eq_left h]
    rw [e, List.take_append_drop]
  rw [this, List.flatten_append, List.length_append]; omega
theorem mark_all (rs : List (List UInt8)) : mark rs rs.length = rs.flatten.length := by unfold mark; rw [List.take_length]
theorem mark_lt {rs : List (List UInt8)} (hr : ∀ r ∈ rs, isRec r) {i j : Nat} (h : i < j) (hj : j ≤ rs.length) : mark rs i < mark rs j := by
  have h1 := mark_succ rs i (by omega)
  have h2 := isRec_pos (hr rs[i] (List.getElem_mem _))
  have h3 := mark_mono rs (show i + 1 ≤ j by omega)
  omega
/-- The first bytes of records: whole records, and a part of the next one. -/
theorem cut_recs : ∀ (rs : List (List UInt8)) (tail : List UInt8) (high : Nat), (∀ r ∈ rs, isRec r) → noNl tail →
    ∃ i P, i ≤ rs.length ∧ (rs.flatten ++ tail).take high = (rs.take i).flatten ++ P ∧ noNl P ∧ mark rs i ≤ high ∧ (∀ j, i < j → j ≤ rs.length → high < mark rs j)
  | [], tail, high, _, ht => ⟨0, tail.take high, by simp, by simp, noNl_take ht high, by simp [mark], fun j h1 h2 => by simp at h2; omega⟩
  | r :: rs, tail, high, hr, ht => by
    have hr0 := hr r (by simp)
    rcases Nat.lt_or_ge high r.length with h | h
    · refine ⟨0, r.take high, by simp, ?_, rec_part hr0 h, by simp [mark], fun j h1 h2 => ?_⟩
      · simp only [List.flatten_cons, List.append_assoc, List.take_zero, List.flatten_nil, List.nil_append]
        rw [List.take_append_of_le_length (by omega)]
      · have := mark_mono (r :: rs) (show 1 ≤ j by omega)
        have e : mark (r :: rs) 1 = r.length := by simp [mark]
        omega
    · obtain ⟨i, P, h1, h2, h3, h4, h5⟩ := cut_recs rs tail (high - r.length) (fun x hx => hr x (by simp [hx])) ht
      have em : ∀ k, mark (r :: rs) (k + 1) = r.length + mark rs k := fun k => by simp [mark]
      refine ⟨i + 1, P, by simp; omega, ?_, h3, by rw [em]; omega, fun j hj1 hj2 => ?_⟩
      · simp only [List.flatten_cons, List.append_assoc, List.take_succ_cons]
        rw [List.take_append, List.take_of_length_le h, h2]
      · obtain ⟨k, rfl⟩ : ∃ k, j = k + 1 := ⟨j - 1, by omega⟩
        have := h5 k (by omega) (by simp at hj2; omega)
        rw [em]; omega
theorem count_rec {r : List UInt8} (h : isRec r) : r.count 10 = 1 := by
  obtain ⟨b, rfl, hb⟩ := h
  rw [List.count_append, List.count_eq_zero.2 (fun h => hb 10 h rfl)]; rfl
theorem count_noNl {l : List UInt8} (h : noNl l) : l.count 10 = 0 := List.count_eq_zero.2 (fun h2 => h 10 h2 rfl)
theorem count_recs : ∀ (rs : List (List UInt8)), (∀ r ∈ rs, isRec r) → rs.flatten.count 10 = rs.length
  | [], _ => rfl
  | r :: rs, h => by rw [List.flatten_cons, List.count_append, count_rec (h r (by simp)), count_recs rs (fun x hx => h x (by simp [hx])), List.length_cons]; omega
/-- Records end in a byte 10, or there is none. -/
theorem flatten_ends : ∀ (rs : List (List UInt8)), (∀ r ∈ rs, isRec r) → rs = [] ∨ ∃ b, rs.flatten = b ++ [10]
  | [], _ => .inl rfl
  | r :: rs, h => by
    right
    rcases flatten_ends rs (fun x hx => h x (by simp [hx])) with rfl | ⟨b, hb⟩
    · obtain ⟨b, rfl, _⟩ := h r (by simp)
      exact ⟨b, by simp⟩
    · exact ⟨r ++ b, by rw [List.flatten_cons, hb, List.append_assoc]⟩
end Ph
/- Plain law: the same pulses by choosing again and again who has the greatest rest (chapter 7, as the reference goes). -/
namespace Ph
/-- Of those that have none yet, the first of the greatest rest. -/
def sel (r : Nat → Int) (S : List Nat) : Nat → Int
  | 0 => -1
  | i + 1 => if i ∉ S ∧ (sel r S i < 0 ∨ r (sel r S i).toNat < r i) then i else sel r S i
theorem sel_bd (r : Nat → Int) (S : List Nat) : ∀ n, -1 ≤ sel r S n ∧ sel r S n < n
  | 0 => by simp [sel]
  | n + 1 => by
    have := sel_bd r S n
    unfold sel; split <;> omega
theorem sel_none {r : Nat → Int} {S : List Nat} : ∀ {n}, sel r S n < 0 → ∀ i, i < n → i ∈ S
  | 0, _, i, hi => by omega
  | n + 1, h, i, hi => by
    unfold sel at h
    split at h
    · omega
    · rename_i hc
      rcases Nat.lt_or_ge i n with h1 | h1
      · exact sel_none h i h1
      · have e : i = n := by omega
        subst e
        by_cases hm : i ∈ S
        · exact hm
        · exact absurd ⟨hm, .inl h⟩ hc
theorem sel_some {r : Nat → Int} {S : List Nat} : ∀ {n}, 0 ≤ sel r S n → (sel r S n).toNat ∉ S ∧ ∀ j, j < n → j ∉ S → j = (sel r S n).toNat ∨ ahd r (sel r S n).toNat j
  | 0, h => by simp [sel] at h
  | n + 1, h => by
    have hb := sel_bd r S n
    unfold sel at h ⊢
    split
    · rename_i hc
      refine ⟨by simpa using hc.1, fun j hj hjS => ?_⟩
      rw [Int.toNat_natCast]
      rcases Nat.lt_or_ge j n with h1 | h1
      · right
        rcases Int.lt_or_le (sel r S n) 0 with hn | hn
        · exact absurd (sel_none hn j h1) hjS
        · have h2 := (sel_some hn).2 j h1 hjS
          have h3 : r (sel r S n).toNat < r n := by
            rcases hc.2 with h4 | h4
            · omega
            · exact h4
          left
          rcases h2 with rfl | h2
          · exact h3
          · unfold ahd at h2; omega
      · left; omega
    · rename_i hc
      rw [if_neg hc] at h
      have ih := sel_some h
      refine ⟨ih.1, fun j hj hjS => ?_⟩
      rcases Nat.lt_or_ge j n with h1 | h1
      · exact ih.2 j h1 hjS
      · have e : j = n := by omega
        subst e
        right
        have h4 : ¬ (sel r S j < 0 ∨ r (sel r S j).toNat < r j) := fun h5 => hc ⟨hjS, h5⟩
        unfold ahd
        have := hb.2
        rcases Int.lt_trichotomy (r j) (r (sel r S j).toNat) with h6 | h6 | h6
        · left; exact h6
        · right; exact ⟨h6.symm, by omega⟩
        · exact absurd (.inr h6) h4
theorem ord_get_not (r : Nat → Int) (n t : Nat) (h : t < (ord r n).length) : (ord r n)[t] ∉ (ord r n).take t := by
  intro hm
  have hd := ord_nodup r n
  rw [← List.take_append_drop t (ord r n), List.nodup_append] at hd
  have h2 : (ord r n)[t] ∈ (ord r n).drop t := by
    rw [List.drop_eq_getElem_cons h]; exact List.mem_cons_self
  exact hd.2.2 _ hm _ h2 rfl
/-- The one that is chosen next is the next of the order. -/
theorem sel_next (r : Nat → Int) (n t : Nat) (h : t < n) : sel r ((ord r n).take t) n = ((ord r n)[t]'(by rw [ord_length]; exact h) : Nat) := by
  have hl : t < (ord r n).length := by rw [ord_length]; exact h
  have hx := ord_get_not r n t hl
  have hxn : (ord r n)[t] < n := (ord_mem r n _).1 (List.getElem_mem _)
  have h0 : 0 ≤ sel r ((ord r n).take t) n := by
    rcases Int.lt_or_le (sel r ((ord r n).take t) n) 0 with h1 | h1
    · exact absurd (sel_none h1 _ hxn) hx
    · exact h1
  have hs := sel_some h0
  have hb := sel_bd r ((ord r n).take t) n
  have h3 := hs.2 _ hxn hx
  rcases h3 with h3 | h3
  · omega
  · -- the one chosen is not among the first, so the t-th comes ahead of it or is it
    exfalso
    have hm : (sel r ((ord r n).take t) n).toNat ∈ (ord r n).drop t := by
      have h4 := (ord_mem r n (sel r ((ord r n).take t) n).toNat).2 (by omega)
      generalize (sel r ((ord r n).take t) n).toNat = x at *
      rw [← List.take_append_drop t (ord r n), List.mem_append] at h4
      rcases h4 with h4 | h4
      · exact absurd h4 hs.1
      · exact h4
    rw [List.drop_eq_getElem_cons hl] at hm
    have hp := ord_pairwise r n
    rw [← List.take_append_drop t (ord r n), List.pairwise_append, List.drop_eq_getElem_cons hl, List.pairwise_cons] at hp
    rcases List.mem_cons.1 hm with h5 | h5
    · unfold ahd at h3; rw [h5] at h3; omega
    · have h6 := hp.2.1.1 _ h5
      unfold ahd at h3 h6; omega
/-- So many have been chosen: one more for the next one. -/
theorem one_take_succ (r : Nat → Int) (n t i : Nat) (h : t < n) :
    one ((ord r n).take (t + 1)) i = if i = (ord r n)[t]'(by rw [ord_length]; exact h) then 1 else one ((ord r n).take t) i := by
  have hl : t < (ord r n).length := by rw [ord_length]; exact h
  have key : i ∈ (ord r n).take (t + 1) ↔ i ∈ (ord r n).take t ∨ i = (ord r n)[t] := by
    rw [List.take_succ_eq_append_getElem hl, List.mem_append, List.mem_singleton]
  unfold one
  by_cases he : i = (ord r n)[t]
  · rw [if_pos he, if_pos (key.2 (.inr he))]
  · rw [if_neg he]
    by_cases hm : i ∈ (ord r n).take t
    · rw [if_pos hm, if_pos (key.2 (.inl hm))]
    · rw [if_neg hm, if_neg (fun h5 => by rcases key.1 h5 with h6 | h6 <;> contradiction)]
/-! ### Counting by the other way: of one number more, whatever that is. -/
/-- So many of the parts that are added twice. -/
def belowP (n j : Nat) : Nat → Nat
  | 0 => 0
  | t + 1 => belowP n j t + cnt n (j - (t + 1))
theorem belowP_eq (n : Nat) : ∀ (t j : Nat), t ≤ j → belowP n j t + below n (j - t) = below n j
  | 0, j, _ => by simp [belowP]
  | t + 1, j, h => by
    have ih := belowP_eq n t j (by omega)
    have e : j - t = (j - (t + 1)) + 1 := by omega
    have e2 : below n (j - (t + 1) + 1) = below n (j - (t + 1)) + cnt n (j - (t + 1)) := rfl
    rw [e, e2] at ih
    simp only [belowP]; omega
theorem cnt_next (n j : Nat) : cnt (n + 1) j = cnt n j + 2 * belowP n j j := by
  have h := belowP_eq n j j (Nat.le_refl _)
  rw [Nat.sub_self] at h
  rw [cnt_ref, ← h]; simp [below]
end Ph
