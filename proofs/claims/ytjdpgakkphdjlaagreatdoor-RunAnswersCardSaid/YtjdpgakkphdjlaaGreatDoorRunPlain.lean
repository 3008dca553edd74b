/- The plain law of a session (chapter 20): lines, words, numbers, answers; no program in sight. -/
import Derived.Test.YtjdpgakkphdjlaaGreatDoorPhAll
import Derived.Lib.ItoaNum
import Derived.Lib.AtoiAll
import Derived.Lib.SplitLaws
import Derived.Lib.Split
import Derived.Lib.IndexBytes
namespace Pr
open Go

/-- A text cut at each byte c. -/
def cutL (c : UInt8) : List UInt8 → List (List UInt8)
  | [] => [[]]
  | x :: l => if x = c then [] :: cutL c l else match cutL c l with
    | [] => [[x]]
    | p :: ps => (x :: p) :: ps
theorem cutL_ne (c : UInt8) : ∀ l, cutL c l ≠ []
  | [] => by simp [cutL]
  | x :: l => by
    unfold cutL
    split
    · simp
    · split <;> simp
/-- The first piece, and what stands behind it. -/
theorem cutL_hit (c : UInt8) : ∀ (p r : List UInt8), c ∉ p → cutL c (p ++ c :: r) = p :: cutL c r
  | [], r, _ => by simp [cutL]
  | x :: p, r, h => by
    have h1 : x ≠ c := fun e => h (by simp [e])
    have h2 := cutL_hit c p r (fun e => h (by simp [e]))
    rw [List.cons_append, cutL, if_neg h1, h2]
theorem cutL_miss (c : UInt8) : ∀ (p : List UInt8), c ∉ p → cutL c p = [p]
  | [], _ => rfl
  | x :: p, h => by
    have h1 : x ≠ c := fun e => h (by simp [e])
    rw [cutL, if_neg h1, cutL_miss c p (fun e => h (by simp [e]))]
theorem indexByte_hit (c : UInt8) : ∀ (p r : List UInt8), c ∉ p → Lib.indexByte (p ++ c :: r) c = p.length
  | [], r, _ => by simp [Lib.indexByte]
  | x :: p, r, h => by
    have h1 : x ≠ c := fun e => h (by simp [e])
    have h2 := indexByte_hit c p r (fun e => h (by simp [e]))
    rw [List.cons_append, Lib.indexByte]
    simp [h1, h2]
theorem indexByte_miss (c : UInt8) : ∀ (p : List UInt8), c ∉ p → Lib.indexByte p c = -1
  | [], _ => rfl
  | x :: p, h => by
    have h1 : x ≠ c := fun e => h (by simp [e])
    rw [Lib.indexByte]
    simp [h1, indexByte_miss c p (fun e => h (by simp [e]))]
/-- A list holds a byte, at a first place, or holds none. -/
theorem first_place (c : UInt8) : ∀ (l : List UInt8), c ∉ l ∨ ∃ p r, l = p ++ c :: r ∧ c ∉ p
  | [] => .inl (by simp)
  | x :: l => by
    by_cases h : x = c
    · exact .inr ⟨[], l, by simp [h], by simp⟩
    · rcases first_place c l with h1 | ⟨p, r, rfl, h1⟩
      · exact .inl (by simp [h1, Ne.symm h])
      · exact .inr ⟨x :: p, r, rfl, by simp [h1, Ne.symm h]⟩
theorem splitK_cut (c : UInt8) : ∀ (n : Nat) (l : List UInt8), l.count c = n → Lib.splitK [c] 0 n l = cutL c l
  | 0, l, h => by
    have : c ∉ l := List.count_eq_zero.1 h
    rw [cutL_miss c l this]; rfl
  | n + 1, l, h => by
    rcases first_place c l with h1 | ⟨p, r, rfl, h1⟩
    · rw [List.count_eq_zero.2 h1] at h; omega
    · have hi : Lib.index (p ++ c :: r) [c] = p.length := by rw [Lib.index_one, indexByte_hit c p r h1]
      have hc : r.count c = n := by rw [List.count_append, List.count_eq_zero.2 h1, List.count_cons_self] at h; omega
      rw [cutL_hit c p r h1, Lib.splitK, if_neg (by rw [hi]; simp), hi]
      have e1 : ((p.length : Int)).toNat = p.length := by omega
      rw [e1, Nat.add_zero, List.take_left]
      have e2 : (p ++ c :: r).drop (p.length + [c].length) = r := by simp [List.drop_append]
      rw [e2, splitK_cut c n r hc]
/-- The words that strings.Split tells. -/
theorem split_cut (c : UInt8) (s : ByteArray) : (Lib.splitB ⟨#[c]⟩ 0 (Lib.countB s ⟨#[c]⟩) s).map (·.data.toList) = cutL c s.data.toList := by
  rw [Lib.splitB_data]
  exact splitK_cut c _ _ (Lib.count_one c _).symm
theorem cutL_len (c : UInt8) : ∀ (l : List UInt8), (cutL c l).length ≤ l.length + 1
  | [] => by simp [cutL]
  | x :: l => by
    have := cutL_len c l
    unfold cutL
    split
    · simp; omega
    · split
      · simp
      · rename_i h; rw [h] at this; simp at this ⊢; omega
/-- No piece holds the byte; together, with the bytes between, they are the text. -/
theorem cutL_sum (c : UInt8) : ∀ (l : List UInt8), ((cutL c l).map (fun p => p.length + 1)).sum = l.length + 1
  | [] => by simp [cutL]
  | x :: l => by
    have := cutL_sum c l
    unfold cutL
    split
    · simp; omega
    · split
      · rename_i h; rw [h] at this; simp at this
      · rename_i h; rw [h] at this; simp at this ⊢; omega

/-! ### Numbers of words -/
/-- A byte that is a digit. -/
def isDig (c : UInt8) : Bool := decide (48 ≤ c.toNat) && decide (c.toNat ≤ 57)
/-- What digits spell. -/
def valL (l : List UInt8) : Nat := l.foldl (fun n c => n * 10 + (c.toNat - 48)) 0
theorem valL_snoc (l : List UInt8) (c : UInt8) : valL (l ++ [c]) = valL l * 10 + (c.toNat - 48) := by unfold valL; rw [List.foldl_append]; rfl
/-- A number of at most four digits, without a needless 0. -/
def numOk (s : List UInt8) : Bool := !(s.isEmpty) && decide (s.length ≤ 4) && !(decide (s.head? = some 48) && decide (1 < s.length)) && s.all isDig
theorem dig_back {c : UInt8} (h : isDig c = true) : UInt8.ofNat (48 + (c.toNat - 48)) = c := by
  unfold isDig at h
  simp at h
  rw [show 48 + (c.toNat - 48) = c.toNat by omega]
  simp
theorem isDig_ofNat {d : Nat} (h : d < 10) : isDig (UInt8.ofNat (48 + d)) = true ∧ (UInt8.ofNat (48 + d)).toNat = 48 + d := by
  have : (UInt8.ofNat (48 + d)).toNat = 48 + d := by rw [UInt8.toNat_ofNat']; omega
  exact ⟨by unfold isDig; rw [this]; simp; omega, this⟩
theorem valL_pos : ∀ (n : Nat) (l : List UInt8), l.length = n → l.all isDig = true → l ≠ [] → l.head? ≠ some 48 → 1 ≤ valL l
  | 0, l, h, _, hne, _ => absurd (List.length_eq_zero_iff.1 h) hne
  | n + 1, l, h, hd, hne, h0 => by
    rcases List.eq_nil_or_concat l with rfl | ⟨r, c, rfl⟩
    · exact absurd rfl hne
    · rw [List.concat_eq_append] at *
      rw [valL_snoc]
      rw [List.all_append, Bool.and_eq_true] at hd
      cases r with
      | nil =>
        have hc : isDig c = true := by simpa using hd.2
        unfold isDig at hc
        simp at hc h0
        have : c.toNat ≠ 48 := fun e => h0 (UInt8.toNat_inj.1 e)
        omega
      | cons x r =>
        have := valL_pos n (x :: r) (by simpa using h) hd.1 (by simp) (by simpa using h0)
        omega
/-- Such digits are the number's own. -/
theorem dec_val : ∀ (n : Nat) (l : List UInt8), l.length = n → l.all isDig = true → l ≠ [] → (l.head? = some 48 → l.length = 1) → Lib.decDigits (valL l) = l
  | 0, l, h, _, hne, _ => absurd (List.length_eq_zero_iff.1 h) hne
  | n + 1, l, h, hd, hne, h0 => by
    rcases List.eq_nil_or_concat l with rfl | ⟨r, c, rfl⟩
    · exact absurd rfl hne
    · rw [List.concat_eq_append] at *
      rw [valL_snoc]
      rw [List.all_append, Bool.and_eq_true] at hd
      have hc : isDig c = true := by simpa using hd.2
      have hc' := hc
      unfold isDig at hc'
      simp at hc'
      cases r with
      | nil =>
        have e : valL [] = 0 := rfl
        rw [e, Nat.zero_mul, Nat.zero_add, Lib.decDigits, dif_pos (by omega), dig_back hc]
        rfl
      | cons x r =>
        have h1 : (x :: r).head? ≠ some 48 := fun e => by
          have := h0 (by simpa using e)
          simp at this
        have hp := valL_pos _ (x :: r) rfl hd.1 (by simp) h1
        rw [Lib.decDigits, dif_neg (by omega)]
        rw [show (valL (x :: r) * 10 + (c.toNat - 48)) / 10 = valL (x :: r) by omega, show (valL (x :: r) * 10 + (c.toNat - 48)) % 10 = c.toNat - 48 by omega, dig_back hc]
        rw [dec_val n (x :: r) (by simpa using h) hd.1 (by simp) (fun e => absurd e h1)]
theorem dec_dig : ∀ u : Nat, (Lib.decDigits u).all isDig = true ∧ valL (Lib.decDigits u) = u ∧ Lib.decDigits u ≠ [] ∧ ((Lib.decDigits u).head? = some 48 → u = 0)
  | u => by
    rw [Lib.decDigits]
    split
    · rename_i h
      have hd := isDig_ofNat h
      refine ⟨by rw [List.all_cons, hd.1]; rfl, ?_, by simp, ?_⟩
      · show 0 * 10 + ((UInt8.ofNat (48 + u)).toNat - 48) = u
        rw [hd.2]; omega
      · intro e
        have := congrArg UInt8.toNat (Option.some.inj e)
        rw [hd.2] at this
        have e2 : (48 : UInt8).toNat = 48 := rfl
        omega
    · rename_i h
      have ih := dec_dig (u / 10)
      have hd := isDig_ofNat (d := u % 10) (by omega)
      refine ⟨?_, ?_, by simp, ?_⟩
      · rw [List.all_append, ih.1, List.all_cons, hd.1]; rfl
      · rw [valL_snoc, ih.2.1, hd.2]; omega
      · intro e
        rw [List.head?_append] at e
        have e : (Lib.decDigits (u / 10)).head? = some 48 := by
          cases hh : Lib.decDigits (u / 10) with
          | nil => exact absurd hh ih.2.2.1
          | cons a r => rw [hh] at e; simpa using e
        have := ih.2.2.2 e
        omega
termination_by u => u
decreasing_by omega
theorem dec_len : ∀ (k u : Nat), (Lib.decDigits u).length ≤ k + 1 ↔ u < 10 ^ (k + 1)
  | 0, u => by
    rw [Lib.decDigits]
    split
    · simp; omega
    · rename_i h
      have := (dec_dig (u / 10)).2.2.1
      have : 0 < (Lib.decDigits (u / 10)).length := List.length_pos_iff.2 this
      rw [List.length_append, List.length_singleton]; omega
  | k + 1, u => by
    rw [Lib.decDigits]
    have hp : 1 ≤ 10 ^ k := Nat.one_le_pow _ _ (by decide)
    have e : 10 ^ (k + 1 + 1) = 10 ^ (k + 1) * 10 := Nat.pow_succ ..
    have e2 : 10 ^ (k + 1) = 10 ^ k * 10 := Nat.pow_succ ..
    split
    · simp only [List.length_cons, List.length_nil]; omega
    · have := dec_len k (u / 10)
      rw [List.length_append, List.length_singleton]
      constructor
      · intro h
        have := this.1 (by omega)
        omega
      · intro h
        have := this.2 (by omega)
        omega
/-- A word is a number's own digits, and at most four: just then it is such a number. -/
theorem numOk_iff (s : List UInt8) : numOk s = true ↔ ∃ n, n < 10000 ∧ Lib.decDigits n = s := by
  constructor
  · intro h
    unfold numOk at h
    simp only [Bool.and_eq_true, Bool.not_eq_true', decide_eq_true_eq] at h
    obtain ⟨⟨⟨h1, h2⟩, h3⟩, h4⟩ := h
    have hne : s ≠ [] := by intro e; subst e; simp at h1
    have h0 : s.head? = some 48 → s.length = 1 := by
      intro e
      simp [e] at h3
      have : 0 < s.length := List.length_pos_iff.2 hne
      omega
    have hd := dec_val _ s rfl h4 hne h0
    refine ⟨valL s, ?_, hd⟩
    have := (dec_len 3 (valL s)).1 (by rw [hd]; exact h2)
    omega
  · rintro ⟨n, hn, rfl⟩
    obtain ⟨h1, h2, h3, h4⟩ := dec_dig n
    unfold numOk
    simp only [Bool.and_eq_true, Bool.not_eq_true', decide_eq_true_eq]
    refine ⟨⟨⟨by cases hh : Lib.decDigits n with | nil => exact absurd hh h3 | cons => rfl, (dec_len 3 n).2 (by omega)⟩, ?_⟩, h1⟩
    cases he : decide ((Lib.decDigits n).head? = some 48) with
    | false => rfl
    | true =>
      have := h4 (by simpa using he)
      subst this
      rw [Lib.decDigits, dif_pos (by decide)]; rfl
theorem numOk_val {s : List UInt8} (h : numOk s = true) : valL s < 10000 ∧ Lib.decDigits (valL s) = s := by
  obtain ⟨n, hn, rfl⟩ := (numOk_iff s).1 h
  rw [(dec_dig n).2.1]
  exact ⟨hn, rfl⟩
/-- What strconv.ParseUint makes of digits. -/
theorem parse_digits : ∀ (l : List UInt8) (acc : Nat), l.all isDig = true → acc * 10 ^ l.length + 10 ^ l.length ≤ 1844674407370955161 → Lib.parseUint10 acc l = .ok (l.foldl (fun n c => n * 10 + (c.toNat - 48)) acc)
  | [], acc, _, _ => rfl
  | c :: l, acc, h, hb => by
    rw [List.all_cons, Bool.and_eq_true] at h
    have hc := h.1
    unfold isDig at hc
    simp at hc
    have hp : 1 ≤ 10 ^ l.length := Nat.one_le_pow _ _ (by decide)
    have e : 10 ^ (c :: l).length = 10 ^ l.length * 10 := by rw [List.length_cons, Nat.pow_succ]
    rw [e] at hb
    have hb2 : acc * (10 ^ l.length * 10) = (acc * 10) * 10 ^ l.length := by rw [Nat.mul_comm (10 ^ l.length) 10, ← Nat.mul_assoc]
    have hb3 : (acc * 10 + (c.toNat - 48)) * 10 ^ l.length ≤ (acc * 10) * 10 ^ l.length + 9 * 10 ^ l.length := by
      rw [Nat.add_mul]
      exact Nat.add_le_add_left (Nat.mul_le_mul_right _ (by omega)) _
    have hb4 : acc * 10 ≤ (acc * 10) * 10 ^ l.length := Nat.le_mul_of_pos_right _ hp
    rw [Lib.parseUint10, if_pos ⟨hc.1, hc.2⟩, if_neg (by omega), if_neg (by omega), parse_digits l _ h.2 (by omega)]
    rfl
/-- strconv.Atoi and back, of at most four bytes: just then the word is such a number. -/
theorem atoi_num (s : List UInt8) (h : numOk s = true) : Lib.atoiAll s = .ok (valL s : Int) ∧ Lib.itoa (valL s : Int) = s ∧ s.length ≤ 4 := by
  obtain ⟨h1, h2⟩ := numOk_val h
  have hh := h
  unfold numOk at hh
  simp only [Bool.and_eq_true, Bool.not_eq_true', decide_eq_true_eq] at hh
  obtain ⟨⟨⟨n1, n2⟩, n3⟩, n4⟩ := hh
  refine ⟨?_, ?_, n2⟩
  · cases s with
    | nil => simp at n1
    | cons c r =>
      have hc := n4
      rw [List.all_cons, Bool.and_eq_true] at hc
      have hc := hc.1
      unfold isDig at hc
      simp at hc
      have hp : 10 ^ (c :: r).length ≤ 10 ^ 4 := Nat.pow_le_pow_right (by decide) n2
      unfold Lib.atoiAll
      simp only
      rw [if_neg (by omega)]
      unfold Lib.parseMag
      rw [if_neg (by simp), parse_digits (c :: r) 0 n4 (by omega)]
      show (match Lib.NumEnd.ok (valL (c :: r)) with | .syntax => Lib.NumEnd.syntax | .range => .range | .ok u => if ¬ c.toNat = 45 ∧ 9223372036854775808 ≤ u then .range else if c.toNat = 45 ∧ 9223372036854775808 < u then .range else .ok (if c.toNat = 45 then -(u : Int) else u)) = _
      simp only
      rw [if_neg (by omega), if_neg (by omega), if_neg (by omega)]
  · unfold Lib.itoa
    rw [if_neg (by omega)]
    exact h2
theorem num_atoi (s : List UInt8) (n : Int) (_h : Lib.atoiAll s = .ok n) (h0 : 0 ≤ n) (h4 : s.length ≤ 4) (hi : Lib.itoa n = s) : numOk s = true ∧ n = (valL s : Int) := by
  unfold Lib.itoa at hi
  rw [if_neg (by omega)] at hi
  have hl : (Lib.decDigits n.toNat).length ≤ 4 := by rw [hi]; exact h4
  have := (dec_len 3 n.toNat).1 hl
  refine ⟨(numOk_iff s).2 ⟨n.toNat, by omega, hi⟩, ?_⟩
  rw [← hi, (dec_dig n.toNat).2.1]
  omega
/-! ### A line's answer (chapter 20) -/
/-- A word as a number, perhaps below 0. -/
def wordL (below : Bool) (x : List UInt8) : Option Int :=
  match x with
  | [] => none
  | c :: r => if c = 45 ∧ below = true then (if numOk r = true ∧ valL r ≠ 0 then some (-(valL r : Int)) else none) else if numOk (c :: r) = true then some (valL (c :: r) : Int) else none
/-- Words as numbers; from which on they may be below 0. -/
def argsL (below : Nat) : Nat → List (List UInt8) → Option (List Int)
  | _, [] => some []
  | i, x :: l => match wordL (decide (below ≤ i)) x with
    | none => none
    | some n => (argsL below (i + 1) l).map (n :: ·)
/-- What a word wants. -/
structure Want where
  many : Nat
  more : Bool
  below : Nat
def wCount : List UInt8 := [99, 111, 117, 110, 116]
def wRank : List UInt8 := [114, 97, 110, 107]
def wRow : List UInt8 := [114, 111, 119]
def wNear : List UInt8 := [110, 101, 97, 114]
def wGain : List UInt8 := [103, 97, 105, 110]
def wTurn : List UInt8 := [116, 117, 114, 110]
def wMay : List UInt8 := [109, 97, 121]
def wantOf (w : List UInt8) : Option Want :=
  if w = wCount then some ⟨2, false, 99⟩ else if w = wRank then some ⟨1, true, 0⟩ else if w = wRow then some ⟨3, false, 99⟩ else if w = wNear then some ⟨2, true, 1⟩
  else if w = wGain then some ⟨1, false, 99⟩ else if w = wTurn then some ⟨1, false, 99⟩ else if w = wMay then some ⟨0, false, 99⟩ else none
def okArgs (x : Want) (n : List Int) : Bool := decide (x.many ≤ n.length) && (x.more || decide (n.length = x.many))
/-- Numbers behind one another; - of none. -/
def joinW : List (List UInt8) → List UInt8
  | [] => []
  | [x] => x
  | x :: y :: l => x ++ 32 :: joinW (y :: l)
def toldL (l : List Int) : List UInt8 := if l = [] then [45] else joinW (l.map Lib.itoa)
/-- The name of an error. -/
def nameL (E : Int) : List UInt8 :=
  if E = 1 then [69, 114, 114, 82, 97, 110, 103, 101] else if E = 4 then [69, 114, 114, 70, 117, 108, 108] else if E = 5 then [69, 114, 114, 78, 111, 110, 101]
  else if E = 8 then [69, 114, 114, 76, 111, 119] else []
def badW : List UInt8 := [98, 97, 100]
def nearE (v : List Int) (k : Int) : Int := if 6 < v.length then 4 else if Ph.soundErr v ≠ 0 then Ph.soundErr v else if k < 0 ∨ 8 < k then 1 else if 0 < k ∧ Ph.loud v = 0 then 5 else 0
/-- What is told of a word's numbers: what is wrong, what is told, the tank then. -/
def doL (w : List UInt8) (t : Ph.Tank) (n : List Int) : Int × List Int × Ph.Tank :=
  if w = wCount then (if n.getD 0 0 ≤ 6 ∧ n.getD 1 0 ≤ 8 then (0, [((Ph.cnt (n.getD 0 0).toNat (n.getD 1 0).toNat : Nat) : Int)], t) else (1, [], t))
  else if w = wRank then (Ph.pulsesErr n, [((Ph.rank n : Nat) : Int)], t)
  else if w = wRow then (if (n.getD 0 0 ≤ 6 ∧ n.getD 1 0 ≤ 8) ∧ n.getD 2 0 < ((Ph.cnt (n.getD 0 0).toNat (n.getD 1 0).toNat : Nat) : Int) then (0, Ph.rowOf (n.getD 0 0).toNat (n.getD 1 0).toNat (n.getD 2 0).toNat, t) else (1, [], t))
  else if w = wNear then (nearE n.tail (n.getD 0 0), Ph.near n.tail (n.getD 0 0), t)
  else if w = wGain then (if n.getD 0 0 ≤ 8000 then (0, [((Ph.step (n.getD 0 0).toNat : Nat) : Int), Ph.val ((Ph.step (n.getD 0 0).toNat : Nat) : Int)], t) else (1, [], t))
  else if w = wTurn then (if Ph.turnErr t (n.getD 0 0) = 0 then (0, [Ph.full t - n.getD 0 0], Ph.turned t (n.getD 0 0)) else (Ph.turnErr t (n.getD 0 0), [], t))
  else (0, [Ph.full t], t)
def ansL (E : Int) (l : List Int) : List UInt8 := if E = 0 then toldL l else nameL E
/-- The answer to a line; the tank then. -/
def lineL (t : Ph.Tank) (s : List UInt8) : List UInt8 × Ph.Tank :=
  match wantOf ((cutL 32 s).headD []) with
  | none => (badW, t)
  | some x => match argsL x.below 0 (cutL 32 s).tail with
    | none => (badW, t)
    | some n => if okArgs x n = true then (ansL (doL ((cutL 32 s).headD []) t n).1 (doL ((cutL 32 s).headD []) t n).2.1, (doL ((cutL 32 s).headD []) t n).2.2) else (badW, t)
/-- A text's lines: what ends with a byte 10, and what is left. -/
def linesL (t : List UInt8) : List (List UInt8) := if (cutL 10 t).getLast? = some [] then (cutL 10 t).dropLast else cutL 10 t
def runLs : Ph.Tank → List (List UInt8) → List UInt8
  | _, [] => []
  | t, s :: l => (lineL t s).1 ++ 10 :: runLs (lineL t s).2 l
def tank0 : Ph.Tank := ⟨100, 20, 100⟩
def tooLong : List UInt8 := [116, 111, 111, 32, 108, 111, 110, 103, 10]
/-- A session's answers. -/
def runL (t : List UInt8) : List UInt8 := if 3000 < t.length then tooLong else runLs tank0 (linesL t)
/-! ### Lines -/
theorem linesL_nil : linesL [] = [] := rfl
theorem linesL_hit (p r : List UInt8) (h : (10 : UInt8) ∉ p) : linesL (p ++ 10 :: r) = p :: linesL r := by
  unfold linesL
  rw [cutL_hit 10 p r h]
  have hne := cutL_ne 10 r
  have e : (p :: cutL 10 r).getLast? = (cutL 10 r).getLast? := by cases hh : cutL 10 r with | nil => exact absurd hh hne | cons => simp [List.getLast?_cons_cons]
  rw [e]
  split
  · rw [List.dropLast_cons_of_ne_nil hne]
  · rfl
theorem linesL_miss (p : List UInt8) (h : (10 : UInt8) ∉ p) (hp : p ≠ []) : linesL p = [p] := by
  unfold linesL
  rw [cutL_miss 10 p h, if_neg (by simpa using hp)]
/-- A text that ends with a byte 10, or is empty: its lines, then the others'. -/
theorem linesL_append : ∀ (n : Nat) (a b : List UInt8), a.length ≤ n → (a = [] ∨ a.getLast? = some 10) → linesL (a ++ b) = linesL a ++ linesL b
  | 0, a, b, hn, _ => by rw [List.length_eq_zero_iff.1 (by omega : a.length = 0), List.nil_append, linesL_nil, List.nil_append]
  | n + 1, a, b, hn, h => by
    rcases h with rfl | h
    · rw [List.nil_append, linesL_nil, List.nil_append]
    · rcases first_place 10 a with h1 | ⟨p, r, rfl, h1⟩
      · exact absurd (List.mem_of_mem_getLast? (by rw [h]; rfl)) h1
      · have hr : r = [] ∨ r.getLast? = some 10 := by
          cases r with
          | nil => exact .inl rfl
          | cons x r => right; rw [List.getLast?_append] at h; simpa [List.getLast?_cons_cons] using h
        rw [List.append_assoc, List.cons_append, linesL_hit p _ h1, linesL_hit p r h1, List.cons_append, linesL_append n r b (by simp at hn; omega) hr]
/-- The tank behind these lines. -/
def tankLs : Ph.Tank → List (List UInt8) → Ph.Tank
  | t, [] => t
  | t, s :: l => tankLs (lineL t s).2 l
theorem runLs_append : ∀ (a b : List (List UInt8)) (t : Ph.Tank), runLs t (a ++ b) = runLs t a ++ runLs (tankLs t a) b
  | [], _, _ => rfl
  | s :: a, b, t => by rw [List.cons_append, runLs, runLs, runLs_append a b, List.append_assoc, List.cons_append]; rfl
/-- THE ANSWERS TO A BEGINNING ARE A BEGINNING OF THE ANSWERS. -/
theorem run_begins (a b : List UInt8) (h : (a ++ b).length ≤ 3000) (ha : a = [] ∨ a.getLast? = some 10) : ∃ r, runL (a ++ b) = runL a ++ r := by
  have h2 : a.length ≤ 3000 := by rw [List.length_append] at h; omega
  refine ⟨runLs (tankLs tank0 (linesL a)) (linesL b), ?_⟩
  unfold runL
  rw [if_neg (by omega), if_neg (by omega), linesL_append _ a b (Nat.le_refl _) ha, runLs_append]
theorem no10_dec (u : Nat) : (10 : UInt8) ∉ Lib.decDigits u := by
  intro h
  have := List.all_eq_true.1 (dec_dig u).1 _ h
  exact absurd this (by decide)
theorem no32_dec (u : Nat) : (32 : UInt8) ∉ Lib.decDigits u := by
  intro h
  have := List.all_eq_true.1 (dec_dig u).1 _ h
  exact absurd this (by decide)
theorem no10_itoa (n : Int) : (10 : UInt8) ∉ Lib.itoa n := by
  unfold Lib.itoa
  split
  · intro h
    rcases List.mem_cons.1 h with h | h
    · exact absurd h (by decide)
    · exact no10_dec _ h
  · exact no10_dec _
theorem itoa_nat (u : Nat) : Lib.itoa (u : Int) = Lib.decDigits u := by
  unfold Lib.itoa
  rw [if_neg (by omega), Int.toNat_natCast]
theorem args_one {u : Nat} (h : u < 10000) : argsL 99 0 [Lib.decDigits u] = some [(u : Int)] := by
  have hn := (numOk_iff _).2 ⟨u, h, rfl⟩
  have hv := (dec_dig u).2.1
  have e : wordL (decide (99 ≤ 0)) (Lib.decDigits u) = some (u : Int) := by
    cases hd : Lib.decDigits u with
    | nil => exact absurd hd (dec_dig u).2.2.1
    | cons c r =>
      rw [hd] at hn hv
      unfold wordL
      simp only
      rw [if_neg (by simp), if_pos hn, hv]
  unfold argsL
  rw [e]
  rfl
theorem line_turn (t : Ph.Tank) {u : Nat} (h : u < 10000) : lineL t (wTurn ++ 32 :: Lib.decDigits u) = (if Ph.turnErr t u = 0 then (Lib.itoa (Ph.full t - u), Ph.turned t u) else (nameL (Ph.turnErr t u), t)) := by
  have hc : cutL 32 (wTurn ++ 32 :: Lib.decDigits u) = [wTurn, Lib.decDigits u] := by rw [cutL_hit 32 wTurn _ (by decide), cutL_miss 32 _ (no32_dec u)]
  unfold lineL
  rw [hc]
  have hw : wantOf ([wTurn, Lib.decDigits u].headD []) = some ⟨1, false, 99⟩ := by show wantOf wTurn = _; rfl
  rw [hw]
  simp only [List.tail_cons]
  rw [args_one h]
  have hok : okArgs ⟨1, false, 99⟩ [(u : Int)] = true := by simp [okArgs]
  simp only
  rw [if_pos hok]
  have hd : doL ([wTurn, Lib.decDigits u].headD []) t [(u : Int)] = (if Ph.turnErr t u = 0 then (0, [Ph.full t - u], Ph.turned t u) else (Ph.turnErr t u, [], t)) := by
    show doL wTurn t [(u : Int)] = _
    unfold doL
    rw [if_neg (by decide), if_neg (by decide), if_neg (by decide), if_neg (by decide), if_neg (by decide), if_pos rfl]
    rfl
  rw [hd]
  split
  · rename_i h0; unfold ansL toldL; rw [if_pos rfl, if_neg (by simp)]; rfl
  · rename_i h0; unfold ansL; simp only; rw [if_neg h0]
theorem line_may (t : Ph.Tank) : lineL t wMay = (Lib.itoa (Ph.full t), t) := by
  have hc : cutL 32 wMay = [wMay] := by decide
  unfold lineL
  rw [hc]
  rfl
/-- What a session of two turns tells. -/
theorem run_tank (a b : Nat) (ha : a ≤ 100) (hb : b ≤ 100) : cutL 10 (runL (wTurn ++ 32 :: (Lib.decDigits a ++ 10 :: (wMay ++ 10 :: (wTurn ++ 32 :: (Lib.decDigits b ++ [10]))))))
    = [Lib.itoa (100 - a), Lib.itoa (if 120 - (a : Int) < 100 then 120 - (a : Int) else 100), if (b : Int) ≤ (if 120 - (a : Int) < 100 then 120 - (a : Int) else 100) then Lib.itoa ((if 120 - (a : Int) < 100 then 120 - (a : Int) else 100) - b) else nameL 8, []] := by
  have hla : (Lib.decDigits a).length ≤ 4 := (dec_len 3 a).2 (by omega)
  have hlb : (Lib.decDigits b).length ≤ 4 := (dec_len 3 b).2 (by omega)
  have hn : ∀ u : Nat, (10 : UInt8) ∉ wTurn ++ 32 :: Lib.decDigits u := by
    intro u h
    rcases List.mem_append.1 h with h | h
    · exact absurd h (by decide)
    · rcases List.mem_cons.1 h with h | h
      · exact absurd h (by decide)
      · exact no10_dec u h
  have e1 : wTurn ++ 32 :: (Lib.decDigits a ++ 10 :: (wMay ++ 10 :: (wTurn ++ 32 :: (Lib.decDigits b ++ [10])))) = (wTurn ++ 32 :: Lib.decDigits a) ++ 10 :: (wMay ++ 10 :: ((wTurn ++ 32 :: Lib.decDigits b) ++ 10 :: [])) := by simp [List.append_assoc]
  rw [e1]
  unfold runL
  rw [if_neg (by simp [wTurn, wMay]; omega), linesL_hit _ _ (hn a), linesL_hit wMay _ (by decide), linesL_hit _ _ (hn b), linesL_nil]
  have f0 : Ph.full tank0 = 100 := by decide
  have t1 : Ph.turnErr tank0 (a : Int) = 0 := by
    unfold Ph.turnErr
    rw [if_neg (by decide), if_neg (by omega), f0, if_neg (by omega)]
  obtain ⟨M, hM⟩ : ∃ M : Int, M = (if 120 - (a : Int) < 100 then 120 - (a : Int) else 100) := ⟨_, rfl⟩
  have f1 : Ph.full (Ph.turned tank0 (a : Int)) = M := by
    unfold Ph.turned
    rw [f0, hM]
    unfold Ph.full
    show (if 100 - (a : Int) + 20 < 100 then 100 - (a : Int) + 20 else 100) = _
    split <;> split <;> omega
  have hM2 : 20 ≤ M ∧ M ≤ 100 := by rw [hM]; split <;> omega
  have t2 : Ph.turnErr (Ph.turned tank0 (a : Int)) (b : Int) = if (b : Int) ≤ M then 0 else 8 := by
    unfold Ph.turnErr
    have hz : Ph.tankErr (Ph.turned tank0 (a : Int)) = 0 := Ph.tankErr_zero.2 (by
      unfold Ph.turned
      rw [f0]
      refine ⟨?_, ?_, ?_, ?_, ?_, ?_⟩ <;> simp only [tank0] <;> omega)
    rw [if_neg (by omega), if_neg (by omega), f1]
    split <;> split <;> omega
  rw [← hM]
  have l1 : lineL tank0 (wTurn ++ 32 :: Lib.decDigits a) = (Lib.itoa (100 - a), Ph.turned tank0 (a : Int)) := by rw [line_turn tank0 (by omega), if_pos t1, f0]
  have l2 := line_may (Ph.turned tank0 (a : Int))
  rw [f1] at l2
  have l3 : (lineL (Ph.turned tank0 (a : Int)) (wTurn ++ 32 :: Lib.decDigits b)).1 = if (b : Int) ≤ M then Lib.itoa (M - b) else nameL 8 := by
    rw [line_turn _ (by omega), t2, f1]
    by_cases hbm : (b : Int) ≤ M
    · rw [if_pos hbm, if_pos rfl, if_pos hbm]
    · rw [if_neg hbm, if_neg (by omega), if_neg hbm]
  simp only [runLs, l1, l2, l3]
  rw [cutL_hit 10 _ _ (no10_itoa _), cutL_hit 10 _ _ (no10_itoa _)]
  rw [cutL_hit 10 _ _ (by
    split
    · exact no10_itoa _
    · decide)]
  rfl
theorem run_low : runL [116, 117, 114, 110, 32, 49, 48, 49, 10] = [69, 114, 114, 76, 111, 119, 10] := by
  have e : ([116, 117, 114, 110, 32, 49, 48, 49, 10] : List UInt8) = (wTurn ++ 32 :: Lib.decDigits 101) ++ 10 :: [] := by
    have : Lib.decDigits 101 = [49, 48, 49] := by
      rw [Lib.decDigits, dif_neg (by decide), Lib.decDigits, dif_neg (by decide), Lib.decDigits, dif_pos (by decide)]; rfl
    rw [this]; rfl
  rw [e]
  unfold runL
  rw [if_neg (by rw [← e]; decide), linesL_hit _ _ (by
    intro h
    rcases List.mem_append.1 h with h | h
    · exact absurd h (by decide)
    · rcases List.mem_cons.1 h with h | h
      · exact absurd h (by decide)
      · exact no10_dec 101 h), linesL_nil]
  have t1 : Ph.turnErr tank0 ((101 : Nat) : Int) = 8 := by decide
  simp only [runLs]
  rw [line_turn tank0 (by omega), t1, if_neg (by omega)]
  rfl
/-- RunBegins' closed fact. -/
theorem run_fact : runL [99, 111, 117, 110, 116, 32, 51, 32, 50, 10, 116, 117, 114, 110, 32, 55, 48, 10, 102, 108, 121, 10, 114, 97, 110, 107, 32, 48, 32, 45, 49, 10, 109, 97, 121, 10, 110, 101, 97, 114, 32, 52, 32, 53, 32, 45, 51, 32, 49, 10] = [49, 56, 10, 51, 48, 10, 98, 97, 100, 10, 49, 10, 53, 48, 10, 50, 32, 45, 49, 32, 49, 10] := by decide +kernel
/-! ### What is told -/
theorem joinW_snoc : ∀ (l : List (List UInt8)) (x : List UInt8), joinW (l ++ [x]) = if l = [] then x else joinW l ++ 32 :: x
  | [], _ => rfl
  | [y], x => rfl
  | y :: z :: l, x => by
    have h := joinW_snoc (z :: l) x
    rw [if_neg (by simp)] at h
    rw [if_neg (by simp)]
    show y ++ 32 :: joinW ((z :: l) ++ [x]) = (y ++ 32 :: joinW (z :: l)) ++ 32 :: x
    rw [h, List.append_assoc, List.cons_append]
theorem itoa_ne (n : Int) : Lib.itoa n ≠ [] := by
  unfold Lib.itoa
  split
  · simp
  · exact (dec_dig _).2.2.1
theorem joinW_ne : ∀ (l : List (List UInt8)), l ≠ [] → (∀ x ∈ l, x ≠ []) → joinW l ≠ []
  | [], h, _ => absurd rfl h
  | [x], _, h => h x (by simp)
  | x :: y :: l, _, h => by
    have := h x (by simp)
    cases x with
    | nil => exact absurd rfl this
    | cons a r => simp [joinW]
theorem joinW_len : ∀ (l : List (List UInt8)) (b : Nat), (∀ x ∈ l, x.length ≤ b) → (joinW l).length ≤ (b + 1) * l.length
  | [], _, _ => by simp [joinW]
  | [x], b, h => by have := h x (by simp); simp [joinW]; omega
  | x :: y :: l, b, h => by
    have h1 := h x (by simp)
    have h2 := joinW_len (y :: l) b fun z hz => h z (by simp [List.mem_cons.1 hz])
    show (x ++ 32 :: joinW (y :: l)).length ≤ _
    rw [List.length_append, List.length_cons, List.length_cons, Nat.mul_succ]
    omega
/-- Digits of so many. -/
theorem dec_few {u k : Nat} (h : u < 10 ^ (k + 1)) : (Lib.decDigits u).length ≤ k + 1 := (dec_len k u).2 h
theorem itoa_few {n : Int} (h : -9223372036854775808 ≤ n ∧ n ≤ 9223372036854775807) : (Lib.itoa n).length ≤ 20 := by
  unfold Lib.itoa
  split
  · rw [List.length_cons]
    have := dec_few (u := n.natAbs) (k := 18) (by omega)
    omega
  · have := dec_few (u := n.toNat) (k := 18) (by omega)
    omega
/-- A sign, and digits. -/
theorem itoa_far (n : Int) : Lib.itoa n = (if n < 0 then [45] else []) ++ Lib.decDigits n.natAbs := by
  unfold Lib.itoa
  split
  · rfl
  · rw [List.nil_append]
    congr 1
    omega
/-! ### Lines, one by one -/
theorem linesL_first (t : List UInt8) (h : t ≠ []) : ∃ p r, linesL t = p :: linesL r ∧ (10 : UInt8) ∉ p ∧ ((t = p ++ 10 :: r) ∨ (t = p ∧ r = [])) := by
  rcases first_place 10 t with h1 | ⟨p, r, rfl, h1⟩
  · exact ⟨t, [], by rw [linesL_miss t h1 h, linesL_nil], h1, .inr ⟨rfl, rfl⟩⟩
  · exact ⟨p, r, linesL_hit p r h1, h1, .inl rfl⟩
theorem linesL_ne {t : List UInt8} (h : t ≠ []) : linesL t ≠ [] := by
  obtain ⟨p, r, e, _⟩ := linesL_first t h
  rw [e]; simp
/-! ### Words, one by one -/
theorem argsL_snoc (below : Nat) : ∀ (l : List (List UInt8)) (i : Nat) (x : List UInt8), argsL below i (l ++ [x]) = (argsL below i l).bind fun ns => (wordL (decide (below ≤ i + l.length)) x).map fun n => ns ++ [n]
  | [], i, x => by
    show (match wordL (decide (below ≤ i)) x with | none => none | some n => (argsL below (i + 1) []).map (n :: ·)) = _
    cases wordL (decide (below ≤ i)) x with
    | none => rfl
    | some n => rfl
  | y :: l, i, x => by
    have ih := argsL_snoc below l (i + 1) x
    show (match wordL (decide (below ≤ i)) y with | none => none | some n => (argsL below (i + 1) (l ++ [x])).map (n :: ·)) = Option.bind (match wordL (decide (below ≤ i)) y with | none => none | some n => (argsL below (i + 1) l).map (n :: ·)) _
    cases wordL (decide (below ≤ i)) y with
    | none => rfl
    | some n =>
      simp only
      rw [ih, show i + 1 + l.length = i + (y :: l).length by simp; omega]
      cases argsL below (i + 1) l with
      | none => rfl
      | some ns =>
        cases wordL (decide (below ≤ i + (y :: l).length)) x with
        | none => rfl
        | some m => rfl
theorem argsL_len (below : Nat) : ∀ (l : List (List UInt8)) (i : Nat) (ns : List Int), argsL below i l = some ns → ns.length = l.length
  | [], _, ns, h => by cases h; rfl
  | y :: l, i, ns, h => by
    unfold argsL at h
    cases hw : wordL (decide (below ≤ i)) y with
    | none => rw [hw] at h; cases h
    | some n =>
      rw [hw] at h
      simp only at h
      cases ha : argsL below (i + 1) l with
      | none => rw [ha] at h; cases h
      | some ms =>
        rw [ha] at h
        cases h
        rw [List.length_cons, List.length_cons, argsL_len below l (i + 1) ms ha]
theorem argsL_stop (below : Nat) : ∀ (a b : List (List UInt8)) (i : Nat), argsL below i a = none → argsL below i (a ++ b) = none
  | [], _, _, h => by cases h
  | y :: a, b, i, h => by
    unfold argsL at h
    rw [List.cons_append]
    unfold argsL
    cases hw : wordL (decide (below ≤ i)) y with
    | none => rfl
    | some n =>
      rw [hw] at h
      simp only at h ⊢
      rw [argsL_stop below a b (i + 1) (by cases hh : argsL below (i + 1) a with | none => rfl | some ms => rw [hh] at h; cases h)]
      rfl
theorem wordL_bd {b : Bool} {x : List UInt8} {n : Int} (h : wordL b x = some n) : -9999 ≤ n ∧ n ≤ 9999 ∧ (b = false → 0 ≤ n) := by
  unfold wordL at h
  cases x with
  | nil => cases h
  | cons c r =>
    simp only at h
    split at h
    · rename_i hc
      split at h
      · rename_i hn
        have := (numOk_val hn.1).1
        cases h
        exact ⟨by omega, by omega, fun e => by rw [e] at hc; exact absurd hc.2 (by decide)⟩
      · cases h
    · split at h
      · rename_i hn
        have := (numOk_val hn).1
        cases h
        exact ⟨by omega, by omega, fun _ => by omega⟩
      · cases h
theorem argsL_bd (below : Nat) : ∀ (l : List (List UInt8)) (i : Nat) (ns : List Int), argsL below i l = some ns → ∀ j, j < ns.length → -9999 ≤ ns.getD j 0 ∧ ns.getD j 0 ≤ 9999 ∧ (i + j < below → 0 ≤ ns.getD j 0)
  | [], _, ns, h => by cases h; intro j hj; simp at hj
  | y :: l, i, ns, h => by
    unfold argsL at h
    cases hw : wordL (decide (below ≤ i)) y with
    | none => rw [hw] at h; cases h
    | some n =>
      rw [hw] at h
      simp only at h
      cases ha : argsL below (i + 1) l with
      | none => rw [ha] at h; cases h
      | some ms =>
        rw [ha] at h
        cases h
        intro j hj
        cases j with
        | zero =>
          have := wordL_bd hw
          refine ⟨by simpa using this.1, by simpa using this.2.1, fun hb => ?_⟩
          have := this.2.2 (by simp; omega)
          simpa using this
        | succ j =>
          have := argsL_bd below l (i + 1) ms ha j (by simpa using hj)
          refine ⟨by simpa using this.1, by simpa using this.2.1, fun hb => ?_⟩
          have := this.2.2 (by omega)
          simpa using this
end Pr
