/- Plain law: numbers in so many bits (chapter 13). No program in sight. -/
import Derived.Test.YtapjnfhbjmeniaaPhHorn
namespace Ph
/-- The bits of a number, the high ones first. -/
def bitsW : Nat → Nat → List Int
  | 0, _ => []
  | w + 1, n => ((n / 2 ^ w % 2 : Nat) : Int) :: bitsW w n
theorem bitsW_length : ∀ w n, (bitsW w n).length = w
  | 0, _ => rfl
  | w + 1, n => by simp [bitsW, bitsW_length w n]
theorem bitsW_bit : ∀ w n, ∀ b ∈ bitsW w n, b = 0 ∨ b = 1
  | 0, _, b, h => by simp [bitsW] at h
  | w + 1, n, b, h => by
    rcases List.mem_cons.1 h with rfl | h
    · omega
    · exact bitsW_bit w n b h
/-- So many of the high bits have come: those from the j-th on are left. -/
theorem bitsW_mod : ∀ w n, bitsW w (n % 2 ^ w) = bitsW w n
  | 0, _ => rfl
  | w + 1, n => by
    simp only [bitsW]
    have h1 : n % 2 ^ (w + 1) / 2 ^ w % 2 = n / 2 ^ w % 2 := by
      rw [Nat.pow_succ, Nat.mod_mul_right_div_self]; omega
    have h2 : bitsW w (n % 2 ^ (w + 1)) = bitsW w n := by
      rw [← bitsW_mod w (n % 2 ^ (w + 1)), ← bitsW_mod w n, Nat.mod_mod_of_dvd _ (Nat.pow_dvd_pow 2 (by omega))]
    rw [h1, h2]
def number : List Int → Nat
  | l => l.foldl (fun n b => 2 * n + b.toNat) 0
theorem number_snoc (l : List Int) (b : Int) : number (l ++ [b]) = 2 * number l + b.toNat := by unfold number; rw [List.foldl_append]; rfl
theorem fold_shift (l : List Int) : ∀ a : Nat, l.foldl (fun n b => 2 * n + b.toNat) a = a * 2 ^ l.length + number l := by
  induction l with
  | nil => intro a; simp [number]
  | cons x l ih =>
    intro a
    unfold number
    rw [List.foldl_cons, List.foldl_cons, ih, ih, List.length_cons, Nat.pow_succ, Nat.mul_zero, Nat.zero_add]
    have : (2 * a + x.toNat) * 2 ^ l.length = a * (2 ^ l.length * 2) + x.toNat * 2 ^ l.length := by rw [Nat.add_mul]; congr 1; ac_rfl
    omega
theorem number_cons (x : Int) (l : List Int) : number (x :: l) = x.toNat * 2 ^ l.length + number l := by
  have := fold_shift l x.toNat
  unfold number at *
  rw [List.foldl_cons, Nat.mul_zero, Nat.zero_add]; exact this
def isBits (l : List Int) : Prop := ∀ b ∈ l, b = 0 ∨ b = 1
theorem number_lt : ∀ {l : List Int}, isBits l → number l < 2 ^ l.length
  | [], _ => by simp [number]
  | x :: l, h => by
    have ih := number_lt (l := l) (fun b hb => h b (by simp [hb]))
    have hx := h x (by simp)
    rw [number_cons, List.length_cons, Nat.pow_succ]
    rcases hx with rfl | rfl
    · simp; omega
    · simp; omega
theorem number_bits : ∀ w n, number (bitsW w n) = n % 2 ^ w
  | 0, n => by simp [number, bitsW, Nat.mod_one]
  | w + 1, n => by
    simp only [bitsW]
    rw [number_cons, bitsW_length, number_bits w n, Int.toNat_natCast]
    have h := Nat.mod_mul (x := n) (a := 2 ^ w) (b := 2)
    rw [Nat.pow_succ, h, Nat.mul_comm]; omega
theorem bits_number : ∀ {l : List Int}, isBits l → bitsW l.length (number l) = l
  | [], _ => rfl
  | x :: l, h => by
    have hl : isBits l := fun b hb => h b (by simp [hb])
    have ih := bits_number hl
    have hlt := number_lt hl
    have hx := h x (by simp)
    rw [number_cons, List.length_cons]
    simp only [bitsW]
    have hp := Nat.two_pow_pos l.length
    have h1 : (x.toNat * 2 ^ l.length + number l) / 2 ^ l.length = x.toNat := by
      rw [Nat.add_comm, Nat.add_mul_div_right _ _ hp, Nat.div_eq_of_lt hlt]; omega
    have h2 : bitsW l.length (x.toNat * 2 ^ l.length + number l) = bitsW l.length (number l) := by
      rw [← bitsW_mod l.length (x.toNat * 2 ^ l.length + number l), Nat.mul_comm, Nat.mul_add_mod, bitsW_mod]
    rw [h1, h2, ih]
    congr 1
    rcases hx with rfl | rfl <;> rfl
def spread : List Int → List Int → List Int
  | n :: l, w :: ws => bitsW w.toNat n.toNat ++ spread l ws
  | _, _ => []
/-- Does a number go into so many bits? -/
def goes (n w : Int) : Bool := decide (0 ≤ w) && decide (w ≤ 20) && decide (0 ≤ n) && decide (n < 2 ^ w.toNat)
def putErr (l w : List Int) : Int :=
  if l.length ≠ w.length then 3 else if (List.zipWith goes l w).all id = true then (if 400 < (spread l w).length then 4 else 0) else 1
def gather : List Int → List Int → List Int
  | _, [] => []
  | b, w :: ws => (number (b.take w.toNat) : Int) :: gather (b.drop w.toNat) ws
theorem spread_isBits : ∀ l w : List Int, isBits (spread l w)
  | [], _ => by intro b hb; simp [spread] at hb
  | _ :: _, [] => by intro b hb; simp [spread] at hb
  | n :: l, w :: ws => by
    intro b hb
    rw [spread, List.mem_append] at hb
    rcases hb with hb | hb
    · exact bitsW_bit _ _ b hb
    · exact spread_isBits l ws b hb
theorem spread_length : ∀ l w : List Int, l.length = w.length → (∀ x ∈ w, 0 ≤ x) → ((spread l w).length : Int) = total w
  | [], [], _, _ => rfl
  | [], _ :: _, h, _ => by simp at h
  | _ :: _, [], h, _ => by simp at h
  | n :: l, w :: ws, h, h0 => by
    have ih := spread_length l ws (by simpa using h) (fun x hx => h0 x (by simp [hx]))
    have hw := h0 w (by simp)
    simp only [spread, List.length_append, bitsW_length, total]; omega
theorem gather_spread : ∀ l w : List Int, l.length = w.length → (List.zipWith goes l w).all id = true → gather (spread l w) w = l
  | [], [], _, _ => rfl
  | [], _ :: _, h, _ => by simp at h
  | _ :: _, [], h, _ => by simp at h
  | n :: l, w :: ws, h, hg => by
    simp only [List.zipWith_cons_cons, List.all_cons, Bool.and_eq_true, id] at hg
    have ih := gather_spread l ws (by simpa using h) hg.2
    have h1 := hg.1
    simp only [goes, Bool.and_eq_true, decide_eq_true_eq] at h1
    have hlt : n.toNat < 2 ^ w.toNat := by
      have e : (n.toNat : Int) < ((2 ^ w.toNat : Nat) : Int) := by rw [Int.natCast_pow]; have := h1.2; simp; omega
      omega
    simp only [spread, gather]
    rw [List.take_append_of_le_length (by rw [bitsW_length]; omega), List.take_of_length_le (by rw [bitsW_length]; omega), number_bits, Nat.mod_eq_of_lt hlt]
    rw [List.drop_append_of_le_length (by rw [bitsW_length]; omega), List.drop_of_length_le (by rw [bitsW_length]; omega), List.nil_append, ih]
    rw [show ((n.toNat : Nat) : Int) = n by omega]
theorem gather_length : ∀ (w b : List Int), (gather b w).length = w.length
  | [], _ => rfl
  | w :: ws, b => by simp only [gather, List.length_cons, gather_length ws]
theorem spread_gather : ∀ (w b : List Int), isBits b → (∀ x ∈ w, 0 ≤ x ∧ x ≤ 20) → total w = b.length → spread (gather b w) w = b ∧ (List.zipWith goes (gather b w) w).all id = true
  | [], b, _, _, ht => by
    simp only [total] at ht
    have : b = [] := List.eq_nil_of_length_eq_zero (by omega)
    subst this; exact ⟨rfl, rfl⟩
  | w :: ws, b, hb, hw, ht => by
    simp only [total] at ht
    have h1 := hw w (by simp)
    have h2 := total_nonneg (l := ws) (fun x hx => (hw x (by simp [hx])).1)
    have hbt : isBits (b.take w.toNat) := fun x hx => hb x (List.mem_of_mem_take hx)
    have ih := spread_gather ws (b.drop w.toNat) (fun x hx => hb x (List.mem_of_mem_drop hx)) (fun x hx => hw x (by simp [hx])) (by rw [List.length_drop]; omega)
    have hl : (b.take w.toNat).length = w.toNat := by rw [List.length_take]; omega
    have hbn := bits_number hbt
    have hlt := number_lt hbt
    rw [hl] at hbn hlt
    simp only [gather, spread, List.zipWith_cons_cons, List.all_cons, Bool.and_eq_true, id]
    rw [Int.toNat_natCast, hbn, ih.1, List.take_append_drop]
    refine ⟨rfl, ?_, ih.2⟩
    simp only [goes, Bool.and_eq_true, decide_eq_true_eq]
    refine ⟨⟨⟨h1.1, h1.2⟩, by omega⟩, ?_⟩
    have : ((number (b.take w.toNat) : Nat) : Int) < ((2 ^ w.toNat : Nat) : Int) := by omega
    rw [Int.natCast_pow] at this; exact this

/-! ### As bytes. -/
def chunk8 (l : List Int) (i : Nat) : List Int := (l.drop (8 * i)).take 8
def pack1 (c : List Int) : Nat := number c * 2 ^ (8 - c.length)
def packed (l : List Int) : List Nat := (List.range ((l.length + 7) / 8)).map fun i => pack1 (chunk8 l i)
def opened (b : List Nat) : List Int := b.flatMap (bitsW 8)
theorem packed_nil : packed [] = [] := rfl
theorem packed_cons {l : List Int} (h : l ≠ []) : packed l = pack1 (l.take 8) :: packed (l.drop 8) := by
  have hp := List.length_pos_iff.2 h
  unfold packed
  have e : (l.length + 7) / 8 = ((l.drop 8).length + 7) / 8 + 1 := by rw [List.length_drop]; omega
  rw [e, List.range_succ_eq_map, List.map_cons, List.map_map]
  congr 1
  apply List.map_congr_left
  intro i _
  simp only [Function.comp, chunk8, List.drop_drop]
  congr 2
  rw [Nat.succ_eq_add_one, show 8 + 8 * i = 8 * (i + 1) by omega]
theorem opened_cons (x : Nat) (b : List Nat) : opened (x :: b) = bitsW 8 x ++ opened b := rfl
theorem opened_length (b : List Nat) : (opened b).length = 8 * b.length := by
  induction b with
  | nil => rfl
  | cons x b ih => rw [opened_cons, List.length_append, bitsW_length, ih, List.length_cons]; omega
theorem number_pad (c : List Int) (k : Nat) : number (c ++ List.replicate k 0) = number c * 2 ^ k := by
  induction k with
  | zero => simp
  | succ k ih => rw [List.replicate_succ', ← List.append_assoc, number_snoc, ih, Nat.pow_succ, Nat.mul_comm (2 ^ k) 2, Nat.mul_left_comm]; rfl
theorem isBits_append {a b : List Int} (ha : isBits a) (hb : isBits b) : isBits (a ++ b) := fun x hx => by
  rcases List.mem_append.1 hx with h | h
  · exact ha x h
  · exact hb x h
theorem isBits_zeros (k : Nat) : isBits (List.replicate k 0) := fun _ hx => .inl (List.eq_of_mem_replicate hx)
theorem bits_pack1 {c : List Int} (hc : isBits c) (hl : c.length ≤ 8) : bitsW 8 (pack1 c) = c ++ List.replicate (8 - c.length) 0 := by
  have h := bits_number (isBits_append hc (isBits_zeros (8 - c.length)))
  rw [number_pad, List.length_append, List.length_replicate, show c.length + (8 - c.length) = 8 by omega] at h
  exact h
theorem pack1_lt {c : List Int} (hc : isBits c) (hl : c.length ≤ 8) : pack1 c < 256 := by
  have h := number_lt (isBits_append hc (isBits_zeros (8 - c.length)))
  rw [number_pad, List.length_append, List.length_replicate, show c.length + (8 - c.length) = 8 by omega] at h
  exact h
theorem opened_packed : ∀ (n : Nat) (l : List Int), l.length ≤ n → isBits l → opened (packed l) = l ++ List.replicate (8 * ((l.length + 7) / 8) - l.length) 0
  | n, [], _, _ => by simp [packed_nil, opened]
  | 0, x :: l, h, _ => by simp at h
  | n + 1, x :: l, h, hb => by
    have hne : x :: l ≠ [] := by simp
    generalize hL : x :: l = L at *
    have hp := List.length_pos_iff.2 hne
    have ht : isBits (L.take 8) := fun y hy => hb y (List.mem_of_mem_take hy)
    have hd : isBits (L.drop 8) := fun y hy => hb y (List.mem_of_mem_drop hy)
    have ih := opened_packed n (L.drop 8) (by rw [List.length_drop]; omega) hd
    rw [packed_cons hne, opened_cons, bits_pack1 ht (by rw [List.length_take]; omega), ih, List.length_take, List.length_drop]
    rcases Nat.lt_or_ge L.length 8 with h8 | h8
    · have e1 : L.take 8 = L := List.take_of_length_le (by omega)
      have e2 : L.drop 8 = [] := List.drop_of_length_le (by omega)
      rw [e1, e2, List.nil_append, Nat.min_eq_right (by omega), List.append_assoc, List.replicate_append_replicate]
      congr 2; omega
    · rw [Nat.min_eq_left h8, Nat.sub_self, List.replicate_zero, List.append_nil, ← List.append_assoc, List.take_append_drop]
      congr 2; omega
theorem packed_length (l : List Int) : (packed l).length = (l.length + 7) / 8 := by simp [packed]
theorem packed_lt {l : List Int} (h : isBits l) : ∀ b ∈ packed l, b < 256 := by
  intro b hb
  unfold packed at hb
  obtain ⟨i, _, rfl⟩ := List.mem_map.1 hb
  apply pack1_lt
  · intro x hx; exact h x (List.mem_of_mem_drop (List.mem_of_mem_take hx))
  · unfold chunk8; rw [List.length_take]; omega
/-- Bits of bytes, and their bytes. -/
theorem packed_opened : ∀ (b : List Nat) (m : Nat), (∀ x ∈ b, x < 256) → b.length = (m + 7) / 8 → (∀ x ∈ (opened b).drop m, x = 0) → packed ((opened b).take m) = b
  | [], m, _, hl, _ => by simp [opened, packed_nil]
  | x :: b, m, hx, hl, hz => by
    have hm : 0 < m := by simp at hl; omega
    have hx0 := hx x (by simp)
    have hol := opened_length b
    rcases Nat.lt_or_ge m 8 with h8 | h8
    · -- one byte
      have hb : b = [] := List.eq_nil_of_length_eq_zero (by simp at hl; omega)
      subst hb
      rw [opened_cons] at hz ⊢
      have e0 : opened [] = [] := rfl
      rw [e0, List.append_nil] at hz ⊢
      have hne : (bitsW 8 x).take m ≠ [] := by
        intro h; have := congrArg List.length h; rw [List.length_take, bitsW_length] at this; simp at this; omega
      rw [packed_cons hne, List.take_take, Nat.min_eq_right (by omega), List.drop_of_length_le (by rw [List.length_take]; omega), packed_nil]
      congr 1
      unfold pack1
      rw [List.length_take, bitsW_length, Nat.min_eq_left (by omega)]
      have hrest : (bitsW 8 x).drop m = List.replicate (8 - m) 0 := by
        apply List.ext_getElem
        · rw [List.length_drop, bitsW_length, List.length_replicate]
        · intro i h1 h2
          rw [List.getElem_replicate]
          exact hz _ (List.getElem_mem h1)
      rw [← number_pad, ← hrest, List.take_append_drop, number_bits]
      omega
    · have ht : (opened (x :: b)).take m = bitsW 8 x ++ (opened b).take (m - 8) := by
        rw [opened_cons, List.take_append, bitsW_length, List.take_of_length_le (by rw [bitsW_length]; omega)]
      have hd : (opened (x :: b)).drop m = (opened b).drop (m - 8) := by
        rw [opened_cons, List.drop_append, bitsW_length, List.drop_of_length_le (by rw [bitsW_length]; omega), List.nil_append]
      have hne : bitsW 8 x ++ (opened b).take (m - 8) ≠ [] := by
        intro h; have := congrArg List.length h; rw [List.length_append, bitsW_length] at this; simp at this
      have ih := packed_opened b (m - 8) (fun y hy => hx y (by simp [hy])) (by simp at hl; omega) (by rw [← hd]; exact hz)
      rw [ht, packed_cons hne, List.take_append_of_le_length (by rw [bitsW_length]; omega), List.take_of_length_le (by rw [bitsW_length]; omega)]
      rw [List.drop_append_of_le_length (by rw [bitsW_length]; omega), List.drop_of_length_le (by rw [bitsW_length]; omega), List.nil_append, ih]
      congr 1
      unfold pack1
      rw [bitsW_length, number_bits]; simp; omega
end Ph
