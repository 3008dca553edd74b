/- Plain law: samples, pairs (chapters 1, 2). No program in sight. -/
namespace Ph

/-- How far a number is from 0. -/
def far (n : Int) : Int := if n < -n then -n else n
theorem far_eq (n : Int) : far n = if n < 0 then -n else n := by unfold far; split <;> split <;> omega
theorem far_nonneg (n : Int) : 0 ≤ far n := by rw [far_eq]; split <;> omega
theorem far_zero : far 0 = 0 := rfl
theorem far_eq_zero {n : Int} (h : far n = 0) : n = 0 := by rw [far_eq] at h; split at h <;> omega
theorem far_le {n m : Int} : far n ≤ m ↔ -m ≤ n ∧ n ≤ m := by rw [far_eq]; split <;> omega
theorem far_neg (n : Int) : far (-n) = far n := by rw [far_eq, far_eq]; split <;> split <;> omega
theorem far_sub_comm (a b : Int) : far (a - b) = far (b - a) := by rw [far_eq, far_eq]; split <;> split <;> omega
theorem far_tri (a b c : Int) : far (a - b) ≤ far (a - c) + far (c - b) := by
  rw [far_eq, far_eq, far_eq]; split <;> split <;> split <;> omega
theorem far_add_le (a b : Int) : far (a + b) ≤ far a + far b := by
  rw [far_eq, far_eq, far_eq]; split <;> split <;> split <;> omega

def within (n most : Int) : Bool := decide (-most ≤ n) && decide (n ≤ most)
theorem within_iff {n most : Int} : within n most = true ↔ -most ≤ n ∧ n ≤ most := by simp [within]
theorem within_false {n most : Int} : within n most = false ↔ n < -most ∨ most < n := by
  rw [← Bool.not_eq_true, within_iff]; omega

def allIn (l : List Int) (most : Int) : Bool := l.all (fun x => within x most)
theorem allIn_iff {l : List Int} {most : Int} : allIn l most = true ↔ ∀ x ∈ l, -most ≤ x ∧ x ≤ most := by
  simp [allIn, within_iff]
theorem allIn_nil (most : Int) : allIn [] most = true := rfl
theorem allIn_cons (x : Int) (l : List Int) (most : Int) : allIn (x :: l) most = (within x most && allIn l most) := rfl
theorem allIn_append (a b : List Int) (most : Int) : allIn (a ++ b) most = (allIn a most && allIn b most) := by simp [allIn]
theorem allIn_mono {l : List Int} {m m' : Int} (h : allIn l m = true) (hm : m ≤ m') : allIn l m' = true := by
  rw [allIn_iff] at *; intro x hx; have := h x hx; omega
theorem allIn_getD {l : List Int} {m : Int} (h : allIn l m = true) (hm : 0 ≤ m) (i : Nat) : -m ≤ l.getD i 0 ∧ l.getD i 0 ≤ m := by
  rw [allIn_iff] at h
  rw [List.getD_eq_getElem?_getD]
  rcases Nat.lt_or_ge i l.length with hi | hi
  · rw [List.getElem?_eq_getElem hi]; exact h _ (List.getElem_mem hi)
  · rw [List.getElem?_eq_none hi]; simp; omega

theorem getD_mem {l : List Int} {i : Nat} (h : i < l.length) : l.getD i 0 ∈ l := by
  rw [List.getD_eq_getElem?_getD, List.getElem?_eq_getElem h]; exact List.getElem_mem h
theorem getD_take (l : List Int) (i k : Nat) (h : i < k) : (l.take k).getD i 0 = l.getD i 0 := by
  rw [List.getD_eq_getElem?_getD, List.getD_eq_getElem?_getD, List.getElem?_take]; simp [h]
theorem take_snoc (l : List Int) (k : Nat) (h : k < l.length) : l.take (k + 1) = l.take k ++ [l.getD k 0] := by
  rw [List.take_succ_eq_append_getElem h, List.getD_eq_getElem?_getD, List.getElem?_eq_getElem h]; rfl

theorem getD_left (a b : List Int) (i : Nat) (h : i < a.length) : (a ++ b).getD i 0 = a.getD i 0 := by
  rw [List.getD_eq_getElem?_getD, List.getD_eq_getElem?_getD, List.getElem?_append_left h]
theorem getD_right (a b : List Int) (i : Nat) (h : a.length ≤ i) : (a ++ b).getD i 0 = b.getD (i - a.length) 0 := by
  rw [List.getD_eq_getElem?_getD, List.getD_eq_getElem?_getD, List.getElem?_append_right h]
/-- A list that is filled from the front. -/
theorem set_fill (p : List Int) (n : Nat) (x : Int) (h : p.length < n) : (p ++ List.replicate (n - p.length) 0).set p.length x = (p ++ [x]) ++ List.replicate (n - (p.length + 1)) 0 := by
  obtain ⟨m, hm⟩ : ∃ m, n - p.length = m + 1 := ⟨n - p.length - 1, by omega⟩
  rw [hm, List.set_append_right _ _ (Nat.le_refl _), Nat.sub_self, List.replicate_succ, List.set_cons_zero, show n - (p.length + 1) = m by omega, List.append_assoc]; rfl
/-- Sum of how far all are from 0. -/
def loud : List Int → Int
  | [] => 0
  | x :: l => far x + loud l
theorem loud_append (a b : List Int) : loud (a ++ b) = loud a + loud b := by
  induction a with
  | nil => simp [loud]
  | cons x a ih => simp [loud, ih]; omega
theorem loud_snoc (a : List Int) (x : Int) : loud (a ++ [x]) = loud a + far x := by simp [loud_append, loud]
theorem loud_nonneg (l : List Int) : 0 ≤ loud l := by
  induction l with
  | nil => simp [loud]
  | cons x l ih => have := far_nonneg x; simp [loud]; omega
theorem loud_le {l : List Int} {m : Int} (h : allIn l m = true) : loud l ≤ l.length * m := by
  induction l with
  | nil => simp [loud]
  | cons x l ih =>
    rw [allIn_cons, Bool.and_eq_true, within_iff] at h
    have h1 := ih h.2
    have h2 : far x ≤ m := far_le.2 h.1
    have e : ((x :: l).length : Int) * m = l.length * m + m := by
      rw [List.length_cons, Int.natCast_add, Int.add_mul]; simp
    rw [e]; simp only [loud]; omega
theorem loud_take_le (l : List Int) (k : Nat) : loud (l.take k) ≤ loud l := by
  have h := loud_append (l.take k) (l.drop k)
  rw [List.take_append_drop] at h
  have := loud_nonneg (l.drop k); omega
theorem loud_replicate_zero (n : Nat) : loud (List.replicate n 0) = 0 := by
  induction n with
  | zero => rfl
  | succ n ih => rw [List.replicate_succ]; simp only [loud, ih]; rfl
theorem loud_eq_zero {l : List Int} (h : loud l = 0) : ∀ x ∈ l, x = 0 := by
  induction l with
  | nil => simp
  | cons x l ih =>
    simp only [loud] at h
    have h1 := far_nonneg x
    have h2 := loud_nonneg l
    intro y hy
    rcases List.mem_cons.1 hy with rfl | hy
    · exact far_eq_zero (by omega)
    · exact ih (by omega) y hy

def energy : List Int → Int
  | [] => 0
  | x :: l => x * x + energy l
theorem energy_append (a b : List Int) : energy (a ++ b) = energy a + energy b := by
  induction a with
  | nil => simp [energy]
  | cons x a ih => simp [energy, ih]; omega
theorem energy_snoc (a : List Int) (x : Int) : energy (a ++ [x]) = energy a + x * x := by simp [energy_append, energy]
theorem sq_nonneg (x : Int) : 0 ≤ x * x := by
  rcases Int.le_total 0 x with h | h
  · exact Int.mul_nonneg h h
  · exact Int.mul_nonneg_of_nonpos_of_nonpos h h
theorem energy_nonneg (l : List Int) : 0 ≤ energy l := by
  induction l with
  | nil => simp [energy]
  | cons x l ih => have := sq_nonneg x; simp [energy]; omega
theorem sq_le {x m : Int} (h1 : -m ≤ x) (h2 : x ≤ m) : x * x ≤ m * m := by
  rcases Int.le_total 0 x with h | h
  · exact Int.mul_le_mul h2 h2 h (by omega)
  · rw [← Int.neg_mul_neg]
    exact Int.mul_le_mul (by omega) (by omega) (by omega) (by omega)
theorem energy_le {l : List Int} {m : Int} (h : allIn l m = true) : energy l ≤ l.length * (m * m) := by
  induction l with
  | nil => simp [energy]
  | cons x l ih =>
    rw [allIn_cons, Bool.and_eq_true, within_iff] at h
    have h1 := ih h.2
    have h2 := sq_le h.1.1 h.1.2
    have e : ((x :: l).length : Int) * (m * m) = l.length * (m * m) + m * m := by
      rw [List.length_cons, Int.natCast_add, Int.add_mul]; simp
    rw [e]; simp only [energy]; omega
theorem sq_far (x : Int) : x * x = far x * far x := by
  rw [far_eq]; split
  · rw [Int.neg_mul_neg]
  · rfl
/-- No energy is above the square of the loudness. -/
theorem energy_le_loud (l : List Int) : energy l ≤ loud l * loud l := by
  induction l with
  | nil => simp [energy, loud]
  | cons x l ih =>
    simp only [energy, loud]
    have h1 := far_nonneg x
    have h2 := loud_nonneg l
    have h3 : 0 ≤ far x * loud l := Int.mul_nonneg h1 h2
    have e : (far x + loud l) * (far x + loud l) = far x * far x + far x * loud l + far x * loud l + loud l * loud l := by
      rw [Int.add_mul, Int.mul_add, Int.mul_add, Int.mul_comm (loud l) (far x)]; omega
    rw [e, sq_far]; omega
theorem two_mul_le (a b : Int) : 2 * (a * b) ≤ a * a + b * b := by
  have h := sq_nonneg (a - b)
  have e : (a - b) * (a - b) = a * a + b * b - 2 * (a * b) := by
    rw [Int.sub_mul, Int.mul_sub, Int.mul_sub, Int.mul_comm b a]; omega
  omega
/-- For one number beside others: twice it times their loudness. -/
theorem cross_le (a : Int) (l : List Int) : 2 * (a * loud l) ≤ l.length * (a * a) + energy l := by
  induction l with
  | nil => simp [energy, loud]
  | cons x l ih =>
    simp only [energy, loud, List.length_cons]
    have h := two_mul_le a (far x)
    rw [← sq_far] at h
    have e1 : a * (far x + loud l) = a * far x + a * loud l := Int.mul_add _ _ _
    have e2 : ((l.length + 1 : Nat) : Int) * (a * a) = l.length * (a * a) + a * a := by
      rw [Int.natCast_add, Int.add_mul]; simp
    rw [e1, e2]; omega
/-- Nor is it below it by as many (Cauchy). -/
theorem loud_sq_le (l : List Int) : loud l * loud l ≤ energy l * l.length := by
  induction l with
  | nil => simp [energy, loud]
  | cons x l ih =>
    simp only [energy, loud, List.length_cons]
    have h := cross_le (far x) l
    rw [← sq_far] at h
    have e1 : (far x + loud l) * (far x + loud l) = x * x + 2 * (far x * loud l) + loud l * loud l := by
      rw [Int.add_mul, Int.mul_add, Int.mul_add, Int.mul_comm (loud l) (far x), sq_far x]; omega
    have e2 : (x * x + energy l) * ((l.length + 1 : Nat) : Int) = l.length * (x * x) + x * x + (energy l * l.length + energy l) := by
      rw [Int.natCast_add, Int.mul_add, Int.add_mul, Int.mul_comm (x * x)]; simp; omega
    rw [e1, e2]; omega

/-- The fault of samples. -/
def soundErr (l : List Int) : Int := if 32 < l.length then 4 else if allIn l 1000 = true then 0 else 1
theorem soundErr_zero {l : List Int} : soundErr l = 0 ↔ l.length ≤ 32 ∧ allIn l 1000 = true := by
  unfold soundErr; split
  · simp; omega
  · split <;> simp_all
/-- The fault of two. -/
def twoErr (a b : List Int) : Int := if soundErr a ≠ 0 then soundErr a else if soundErr b ≠ 0 then soundErr b else if a.length ≠ b.length then 3 else 0
theorem twoErr_zero {a b : List Int} : twoErr a b = 0 ↔ soundErr a = 0 ∧ soundErr b = 0 ∧ a.length = b.length := by
  unfold twoErr; split
  · simp_all
  · split
    · simp_all
    · split <;> simp_all

def apart : List Int → List Int → Int
  | x :: a, y :: b => let r := apart a b; if far (x - y) < r then r else far (x - y)
  | _, _ => 0
def clip (x : Int) : Int := if x < -1000 then -1000 else if 1000 < x then 1000 else x
def mix (a b : List Int) : List Int := List.zipWith (fun x y => clip (x + y)) a b
theorem mix_comm (a b : List Int) : mix a b = mix b a := by
  unfold mix
  rw [List.zipWith_comm]
  congr 1; funext x y; rw [Int.add_comm]
theorem mix_length {a b : List Int} (h : a.length = b.length) : (mix a b).length = a.length := by simp [mix, h]
theorem clip_eq (x : Int) : clip x = if x < -1000 then -1000 else if 1000 < x then 1000 else x := rfl
theorem clip_bd (x : Int) : -1000 ≤ clip x ∧ clip x ≤ 1000 := by
  unfold clip; split
  · omega
  · split <;> omega
theorem clip_self {x : Int} (h : -1000 ≤ x ∧ x ≤ 1000) : clip x = x := by
  unfold clip; rw [if_neg (by omega), if_neg (by omega)]
theorem mix_allIn (a b : List Int) : allIn (mix a b) 1000 = true := by
  rw [allIn_iff]
  unfold mix
  induction a generalizing b with
  | nil => simp
  | cons x a ih =>
    cases b with
    | nil => simp
    | cons y b =>
      intro z hz
      rw [List.zipWith_cons_cons] at hz
      rcases List.mem_cons.1 hz with rfl | hz
      · exact clip_bd _
      · exact ih b z hz
theorem apart_nonneg (a b : List Int) : 0 ≤ apart a b := by
  induction a generalizing b with
  | nil => simp [apart]
  | cons x a ih =>
    cases b with
    | nil => simp [apart]
    | cons y b => have := ih b; have := far_nonneg (x - y); simp only [apart]; split <;> omega
theorem apart_snoc : ∀ (a b : List Int) (x y : Int), a.length = b.length → apart (a ++ [x]) (b ++ [y]) = if apart a b < far (x - y) then far (x - y) else apart a b
  | [], [], x, y, _ => by
    have := far_nonneg (x - y)
    show (if far (x - y) < apart [] [] then apart [] [] else far (x - y)) = _
    have e : apart [] [] = 0 := rfl
    rw [e]; split <;> split <;> omega
  | [], _ :: _, _, _, h => by simp at h
  | _ :: _, [], _, _, h => by simp at h
  | p :: a, q :: b, x, y, h => by
    have ih := apart_snoc a b x y (by simpa using h)
    simp only [List.cons_append, apart, ih]
    repeat' split
    all_goals omega
theorem apart_take (a b : List Int) (k : Nat) (h1 : k < a.length) (h2 : k < b.length) :
    apart (a.take (k + 1)) (b.take (k + 1)) = if apart (a.take k) (b.take k) < far (a.getD k 0 - b.getD k 0) then far (a.getD k 0 - b.getD k 0) else apart (a.take k) (b.take k) := by
  rw [take_snoc a k h1, take_snoc b k h2, apart_snoc _ _ _ _ (by rw [List.length_take, List.length_take]; omega)]
theorem mix_take (a b : List Int) (k : Nat) (h1 : k < a.length) (h2 : k < b.length) : mix (a.take (k + 1)) (b.take (k + 1)) = mix (a.take k) (b.take k) ++ [clip (a.getD k 0 + b.getD k 0)] := by
  unfold mix
  rw [take_snoc a k h1, take_snoc b k h2, List.zipWith_append (by rw [List.length_take, List.length_take]; omega)]; rfl
theorem apart_self (a : List Int) : apart a a = 0 := by
  induction a with
  | nil => rfl
  | cons x a ih => simp only [apart, ih, Int.sub_self]; rfl
theorem apart_eq_zero {a b : List Int} (h : a.length = b.length) : apart a b = 0 ↔ a = b := by
  refine ⟨fun h0 => ?_, fun e => by rw [e]; exact apart_self b⟩
  induction a generalizing b with
  | nil => cases b <;> simp_all
  | cons x a ih =>
    cases b with
    | nil => simp at h
    | cons y b =>
      simp only [apart] at h0
      have h1 := apart_nonneg a b
      have h2 := far_nonneg (x - y)
      have h3 : far (x - y) = 0 := by split at h0 <;> omega
      have h4 : apart a b = 0 := by split at h0 <;> omega
      have h5 := far_eq_zero h3
      rw [ih (by simpa using h) h4, show x = y by omega]
theorem apart_tri (a b c : List Int) (h1 : a.length = c.length) (h2 : c.length = b.length) : apart a b ≤ apart a c + apart c b := by
  induction a generalizing b c with
  | nil => cases c <;> cases b <;> simp_all [apart]
  | cons x a ih =>
    cases c with
    | nil => simp at h1
    | cons z c =>
      cases b with
      | nil => simp at h2
      | cons y b =>
        have h := ih b c (by simpa using h1) (by simpa using h2)
        have h3 := far_tri x y z
        simp only [apart]
        split <;> split <;> split <;> omega
theorem apart_le {a b : List Int} (ha : allIn a 1000 = true) (hb : allIn b 1000 = true) : apart a b ≤ 2000 := by
  induction a generalizing b with
  | nil => simp [apart]
  | cons x a ih =>
    cases b with
    | nil => simp [apart]
    | cons y b =>
      rw [allIn_cons, Bool.and_eq_true, within_iff] at ha hb
      have h := ih ha.2 hb.2
      have : far (x - y) ≤ 2000 := far_le.2 (by omega)
      simp only [apart]; split <;> omega
theorem mix_zero {a : List Int} (h : allIn a 1000 = true) : mix a (List.replicate a.length 0) = a := by
  induction a with
  | nil => rfl
  | cons x a ih =>
    rw [allIn_cons, Bool.and_eq_true, within_iff] at h
    have := ih h.2
    unfold mix at *
    rw [List.length_cons, List.replicate_succ, List.zipWith_cons_cons, this]
    rw [Int.add_zero, clip_self h.1]
end Ph
