/- Plain law: signs as bytes (chapter 11). No program in sight. -/
import Derived.Test.YtapjnfhbjmeniaaPhScale
namespace Ph
/-- Are shares right? -/
def sharesOk (f : List Int) : Prop := 1 ≤ f.length ∧ f.length ≤ 40 ∧ (∀ x ∈ f, 0 ≤ x ∧ x ≤ 256) ∧ total f = 256
/-- The share of a sign, and where it starts. -/
def sh (f : List Int) (s : Nat) : Nat := (f.getD s 0).toNat
def st (f : List Int) (s : Nat) : Nat := (pre f s).toNat
/-- The fault of a row of signs. -/
def rowErr (f l : List Int) : Int :=
  match l with
  | [] => 0
  | s :: l => if s < 0 ∨ (f.length : Int) ≤ s then 1 else if f.getD s.toNat 0 = 0 then 5 else rowErr f l
/-- A sign that may be said. -/
def good (f : List Int) (s : Int) : Prop := 0 ≤ s ∧ s < f.length ∧ f.getD s.toNat 0 ≠ 0
theorem rowErr_zero {f : List Int} : ∀ {l : List Int}, rowErr f l = 0 ↔ ∀ s ∈ l, good f s
  | [] => by simp [rowErr]
  | s :: l => by
    have ih := rowErr_zero (f := f) (l := l)
    unfold rowErr
    split
    · constructor
      · intro h; omega
      · intro h; have := (h s (by simp)); unfold good at this; omega
    · split
      · constructor
        · intro h; omega
        · intro h; have := (h s (by simp)); unfold good at this; omega
      · rw [ih]
        constructor
        · intro h x hx
          rcases List.mem_cons.1 hx with rfl | hx
          · unfold good; omega
          · exact h x hx
        · intro h x hx; exact h x (by simp [hx])
section
variable {f : List Int} (hf : sharesOk f)
include hf
theorem f_nonneg : ∀ x ∈ f, 0 ≤ x := fun x hx => (hf.2.2.1 x hx).1
theorem good_bd {s : Int} (hs : good f s) : 1 ≤ sh f s.toNat ∧ sh f s.toNat ≤ 256 ∧ st f s.toNat + sh f s.toNat ≤ 256 := by
  unfold good at hs
  have hi : s.toNat < f.length := by omega
  have h1 := hf.2.2.1 _ (getD_mem hi)
  have h2 := pre_succ f _ hi
  have h3 := pre_nonneg (f_nonneg hf) s.toNat
  have h4 := pre_mono (f_nonneg hf) (show s.toNat + 1 ≤ f.length by omega)
  rw [pre_all, hf.2.2.2] at h4
  unfold sh st; omega
end
/-- One sign more, from a number that has room. -/
def up (F S x : Nat) : Nat := x / F * 256 + x % F + S
/-- The number, and the bytes behind it: of the signs from the last to the first. -/
def enc (f : List Int) : List Int → Nat × List Nat
  | [] => (65536, [])
  | s :: l =>
    let (x, off) := enc f l
    if 65536 * sh f s.toNat ≤ x then (up (sh f s.toNat) (st f s.toNat) (x / 256), x % 256 :: off) else (up (sh f s.toNat) (st f s.toNat) x, off)
def told (x : Nat) (off : List Nat) : List Nat := x / 65536 % 256 :: x / 256 % 256 :: x % 256 :: off
def bytes (f l : List Int) : List Nat := told (enc f l).1 (enc f l).2
theorem up_bd {F S x : Nat} (h1 : 1 ≤ F) (h2 : S + F ≤ 256) (h3 : 256 * F ≤ x) (h4 : x < 65536 * F) : 65536 ≤ up F S x ∧ up F S x < 16777216 := by
  unfold up
  have a1 : 256 ≤ x / F := (Nat.le_div_iff_mul_le (by omega)).2 h3
  have a2 : x / F < 65536 := (Nat.div_lt_iff_lt_mul (by omega)).2 h4
  have a3 := Nat.mod_lt x (show 0 < F by omega)
  omega
theorem up_at {F S x : Nat} (h1 : 1 ≤ F) (h2 : S + F ≤ 256) : up F S x % 256 = x % F + S ∧ up F S x / 256 = x / F := by
  unfold up
  have a3 := Nat.mod_lt x (show 0 < F by omega)
  omega
theorem room {F x : Nat} (h1 : 1 ≤ F) (h2 : F ≤ 256) (h3 : 65536 ≤ x) (h4 : x < 16777216) :
    (65536 * F ≤ x → 256 * F ≤ x / 256 ∧ x / 256 < 65536 * F ∧ x / 256 < 65536) ∧ (¬ 65536 * F ≤ x → 256 * F ≤ x ∧ x < 65536 * F) := by omega
theorem enc_bd {f : List Int} (hf : sharesOk f) : ∀ {l : List Int}, (∀ s ∈ l, good f s) → 65536 ≤ (enc f l).1 ∧ (enc f l).1 < 16777216 ∧ ∀ b ∈ (enc f l).2, b < 256
  | [], _ => by simp [enc]
  | s :: l, h => by
    have ih := enc_bd hf (l := l) (fun x hx => h x (by simp [hx]))
    have hg := good_bd hf (h s (by simp))
    simp only [enc]
    generalize enc f l = e at *
    obtain ⟨x, off⟩ := e
    simp only at ih ⊢
    have hr := room hg.1 hg.2.1 ih.1 ih.2.1
    split
    · rename_i hx
      have := hr.1 hx
      have hu := up_bd hg.1 hg.2.2 this.1 this.2.1
      refine ⟨hu.1, hu.2, fun b hb => ?_⟩
      rcases List.mem_cons.1 hb with rfl | hb
      · exact Nat.mod_lt _ (by omega)
      · exact ih.2.2 b hb
    · rename_i hx
      have := hr.2 hx
      have hu := up_bd hg.1 hg.2.2 this.1 this.2
      exact ⟨hu.1, hu.2, ih.2.2⟩

/-! ### Back. -/
/-- Bytes in, till the number is great enough. -/
def fill : Nat → List Nat → Option (Nat × List Nat)
  | x, [] => if 65536 ≤ x then some (x, []) else none
  | x, b :: bs => if 65536 ≤ x then some (x, b :: bs) else fill (x * 256 + b) bs
theorem fill_done {x : Nat} {bs : List Nat} (h : 65536 ≤ x) : fill x bs = some (x, bs) := by cases bs <;> simp [fill, h]
def dn (f : List Int) (x : Nat) : Nat × Nat :=
  let s := atL f ((x % 256 : Nat) : Int)
  (s, sh f s * (x / 256) + x % 256 - st f s)
def dec (f : List Int) : Nat → Nat → List Nat → Option (List Int × Nat × List Nat)
  | 0, x, bs => some ([], x, bs)
  | n + 1, x, bs =>
    match fill (dn f x).2 bs with
    | none => none
    | some (x', bs') => match dec f n x' bs' with
      | none => none
      | some (l, r) => some (((dn f x).1 : Int) :: l, r)
theorem at_sign {f : List Int} (hf : sharesOk f) {s : Int} (hs : good f s) {a : Nat} (h1 : st f s.toNat ≤ a) (h2 : a < st f s.toNat + sh f s.toNat) : atL f (a : Int) = s.toNat := by
  have hi : s.toNat < f.length := by unfold good at hs; omega
  have h0 := f_nonneg hf
  have hp := pre_nonneg h0 s.toNat
  have hx := hf.2.2.1 _ (getD_mem hi)
  have hsucc := pre_succ f _ hi
  have hall := pre_mono h0 (show s.toNat + 1 ≤ f.length by omega)
  rw [pre_all] at hall
  unfold st sh at *
  have hsp := atL_spec f (a : Int) (by omega) (by omega)
  exact at_unique h0 hsp.2.1 hsp.2.2 (by omega) (by omega)
/-- Signs come back. -/
theorem dec_enc {f : List Int} (hf : sharesOk f) : ∀ (l : List Int) (R : List Nat), (∀ s ∈ l, good f s) → dec f l.length (enc f l).1 ((enc f l).2 ++ R) = some (l, 65536, R)
  | [], R, _ => by simp [dec, enc]
  | s :: l, R, h => by
    have hgs := h s (by simp)
    have hl := fun x hx => h x (List.mem_cons_of_mem s hx)
    have ih := dec_enc hf l R hl
    have hb := enc_bd hf hl
    have hg := good_bd hf hgs
    simp only [enc, List.length_cons]
    generalize enc f l = e at *
    obtain ⟨x, off⟩ := e
    simp only at ih hb ⊢
    have hr := room hg.1 hg.2.1 hb.1 hb.2.1
    have hs0 : ((s.toNat : Nat) : Int) = s := by unfold good at hgs; omega
    have key : ∀ y, dn f (up (sh f s.toNat) (st f s.toNat) y) = (s.toNat, y) := by
      intro y
      have hu := up_at (x := y) hg.1 hg.2.2
      have hm := Nat.mod_lt y (show 0 < sh f s.toNat by omega)
      unfold dn
      rw [hu.1, hu.2, at_sign hf hgs (by omega) (by omega)]
      have := Nat.div_add_mod y (sh f s.toNat)
      simp only [Prod.mk.injEq, true_and]; omega
    split
    · rename_i hx
      have hh := hr.1 hx
      simp only [dec, key, List.cons_append, fill]
      rw [if_neg (by omega)]
      have e2 : x / 256 * 256 + x % 256 = x := by omega
      rw [e2, fill_done hb.1]
      simp only [ih, hs0]
    · rename_i hx
      simp only [dec, key]
      rw [fill_done hb.1]
      simp only [ih, hs0]
theorem dec_length {f : List Int} : ∀ {n x : Nat} {bs : List Nat} {l r}, dec f n x bs = some (l, r) → l.length = n
  | 0, _, _, _, _, h => by simp only [dec, Option.some.injEq, Prod.mk.injEq] at h; rw [← h.1]; rfl
  | n + 1, x, bs, l, r, h => by
    simp only [dec] at h
    cases hfl : fill (dn f x).2 bs with
    | none => rw [hfl] at h; simp at h
    | some p =>
      obtain ⟨x', bs'⟩ := p
      rw [hfl] at h
      simp only at h
      cases hd : dec f n x' bs' with
      | none => rw [hd] at h; simp at h
      | some q =>
        obtain ⟨l', r'⟩ := q
        rw [hd] at h
        simp only [Option.some.injEq, Prod.mk.injEq] at h
        rw [← h.1, List.length_cons, dec_length hd]
theorem dn_good {f : List Int} (hf : sharesOk f) (x : Nat) : good f ((dn f x).1 : Int) ∧ st f (dn f x).1 ≤ x % 256 := by
  have hm := Nat.mod_lt x (show 0 < 256 by omega)
  have h0 := f_nonneg hf
  have hsp := atL_spec f ((x % 256 : Nat) : Int) (by omega) (by rw [hf.2.2.2]; omega)
  have hsucc := pre_succ f _ hsp.1
  unfold dn good st
  simp only
  have hp := pre_nonneg h0 (atL f ((x % 256 : Nat) : Int))
  refine ⟨⟨by omega, by omega, ?_⟩, by omega⟩
  rw [Int.toNat_natCast]; omega
theorem dec_good {f : List Int} (hf : sharesOk f) : ∀ {n x : Nat} {bs : List Nat} {l r}, dec f n x bs = some (l, r) → ∀ s ∈ l, good f s
  | 0, _, _, _, _, h => by simp only [dec, Option.some.injEq, Prod.mk.injEq] at h; rw [← h.1]; simp
  | n + 1, x, bs, l, r, h => by
    simp only [dec] at h
    cases hfl : fill (dn f x).2 bs with
    | none => rw [hfl] at h; simp at h
    | some p =>
      obtain ⟨x', bs'⟩ := p
      rw [hfl] at h
      simp only at h
      cases hd : dec f n x' bs' with
      | none => rw [hd] at h; simp at h
      | some q =>
        obtain ⟨l', r'⟩ := q
        rw [hd] at h
        simp only [Option.some.injEq, Prod.mk.injEq] at h
        rw [← h.1]
        intro s hs
        rcases List.mem_cons.1 hs with rfl | hs
        · exact (dn_good hf x).1
        · exact dec_good hf hd s hs
/-- Bytes as a row of so many signs: none, or the row and what is left. -/
def heard (f : List Int) (b : List Nat) (n : Nat) : Option (List Int × Nat × List Nat) :=
  match b with
  | b0 :: b1 :: b2 :: bs => dec f n ((b0 * 256 + b1) * 256 + b2) bs
  | _ => none
theorem heard_bytes {f : List Int} (hf : sharesOk f) {l : List Int} (h : ∀ s ∈ l, good f s) : heard f (bytes f l) l.length = some (l, 65536, []) := by
  have hb := enc_bd hf h
  have hd := dec_enc hf l [] h
  unfold bytes told heard
  rw [List.append_nil] at hd
  simp only
  rw [show ((enc f l).1 / 65536 % 256 * 256 + (enc f l).1 / 256 % 256) * 256 + (enc f l).1 % 256 = (enc f l).1 by omega]
  exact hd
/-- One more sign than there are: none, but where one sign has all. -/
theorem heard_more {f : List Int} (hf : sharesOk f) {l : List Int} (h : ∀ s ∈ l, good f s) (ha : ∀ x ∈ f, x ≠ 256) : heard f (bytes f l) (l.length + 1) = none := by
  have hb := enc_bd hf h
  have key : ∀ (n x : Nat) (bs : List Nat) (l : List Int), dec f n x bs = some (l, 65536, []) → dec f (n + 1) x bs = none := by
    intro n
    induction n with
    | zero =>
      intro x bs l hd
      simp only [dec, Option.some.injEq, Prod.mk.injEq] at hd
      obtain ⟨_, rfl, rfl⟩ := hd
      have hg := dn_good hf 65536
      have hgb := good_bd hf hg.1
      rw [Int.toNat_natCast] at hgb
      have hne : sh f (dn f 65536).1 ≠ 256 := by
        have hi : (dn f 65536).1 < f.length := by have := hg.1.2.1; omega
        have h1 := ha _ (getD_mem hi)
        have h2 := hf.2.2.1 _ (getD_mem hi)
        unfold sh; omega
      have h3 : (dn f 65536).2 = sh f (dn f 65536).1 * 256 - st f (dn f 65536).1 := by
        unfold dn; simp
      simp only [dec]
      have : fill (dn f 65536).2 [] = none := by
        unfold fill; rw [if_neg (by rw [h3]; omega)]
      rw [this]
    | succ n ih =>
      intro x bs l hd
      unfold dec at hd ⊢
      cases hfl : fill (dn f x).2 bs with
      | none => rfl
      | some p =>
        obtain ⟨x', bs'⟩ := p
        rw [hfl] at hd
        simp only at hd ⊢
        cases hd2 : dec f n x' bs' with
        | none => rw [hd2] at hd; simp at hd
        | some q =>
          obtain ⟨l', r1, r2⟩ := q
          rw [hd2] at hd
          simp only [Option.some.injEq, Prod.mk.injEq] at hd
          obtain ⟨_, rfl, rfl⟩ := hd
          rw [ih x' bs' l' hd2]
  have hd := heard_bytes hf h
  unfold bytes told heard at *
  exact key _ _ _ _ hd
/-- Bytes that a row's own are again are heard to their end. -/
theorem heard_ends {f : List Int} (hf : sharesOk f) {b : List Nat} {n : Nat} {l : List Int} {x : Nat} {r : List Nat} (h : heard f b n = some (l, x, r)) (hb : bytes f l = b) : x = 65536 ∧ r = [] := by
  have hg : ∀ s ∈ l, good f s := by
    unfold heard at h
    split at h
    · exact dec_good hf h
    · simp at h
  have hl : l.length = n := by
    unfold heard at h
    split at h
    · exact dec_length h
    · simp at h
  have h2 := heard_bytes hf hg
  rw [hb, hl, h] at h2
  simp only [Option.some.injEq, Prod.mk.injEq] at h2
  exact h2.2

/-! ### No more bytes than told. -/
def need (F : Nat) : Nat := if 256 ≤ F then 0 else 8 - Nat.log2 F
theorem need_spec {F : Nat} (h1 : 1 ≤ F) : 256 ≤ F * 2 ^ need F ∧ (∀ n, n < need F → F * 2 ^ n < 256) := by
  unfold need
  split
  · exact ⟨by simpa using (by assumption), fun n hn => by omega⟩
  · rename_i h
    have hl : Nat.log2 F < 8 := (Nat.log2_lt (by omega)).2 (by omega)
    have ha : 2 ^ Nat.log2 F ≤ F := Nat.log2_self_le (by omega)
    have hb : F < 2 ^ (Nat.log2 F + 1) := Nat.lt_log2_self
    refine ⟨?_, fun n hn => ?_⟩
    · have : 2 ^ Nat.log2 F * 2 ^ (8 - Nat.log2 F) = 256 := by rw [← Nat.pow_add, show Nat.log2 F + (8 - Nat.log2 F) = 8 by omega]
      have := Nat.mul_le_mul_right (2 ^ (8 - Nat.log2 F)) ha; omega
    · have h1 : 2 ^ n ≤ 2 ^ (7 - Nat.log2 F) := Nat.pow_le_pow_right (by omega) (by omega)
      have h2 : 2 ^ (Nat.log2 F + 1) * 2 ^ (7 - Nat.log2 F) = 256 := by rw [← Nat.pow_add, show Nat.log2 F + 1 + (7 - Nat.log2 F) = 8 by omega]
      have h3 := Nat.mul_le_mul_left F h1
      have h4 := Nat.mul_lt_mul_of_pos_right hb (Nat.two_pow_pos (7 - Nat.log2 F))
      omega
theorem need_le (F : Nat) : need F ≤ 8 := by unfold need; split <;> omega
def needs (f l : List Int) : Nat :=
  match l with
  | [] => 0
  | s :: l => need (sh f s.toNat) + needs f l
theorem needs_append (f a b : List Int) : needs f (a ++ b) = needs f a + needs f b := by
  induction a with
  | nil => simp [needs]
  | cons x a ih => simp [needs, ih]; omega
theorem up_le {F S x : Nat} (h1 : 1 ≤ F) (h2 : S + F ≤ 256) (h3 : 256 * F ≤ x) : up F S x * F ≤ 257 * x := by
  unfold up
  have h5 := Nat.mod_lt x (show 0 < F by omega)
  have h6 : x / F * F ≤ x := Nat.div_mul_le_self x F
  have e : (x / F * 256 + x % F + S) * F = x / F * F * 256 + (x % F + S) * F := by
    rw [Nat.add_assoc, Nat.add_mul, Nat.mul_assoc, Nat.mul_comm 256 F, ← Nat.mul_assoc]
  rw [e]
  have h7 : (x % F + S) * F ≤ 256 * F := Nat.mul_le_mul_right F (by omega)
  omega
theorem enc_size {f : List Int} (hf : sharesOk f) : ∀ {l : List Int}, (∀ s ∈ l, good f s) → (enc f l).1 * 256 ^ l.length * 256 ^ (enc f l).2.length ≤ 65536 * 257 ^ l.length * 2 ^ needs f l
  | [], _ => by simp [enc, needs]
  | s :: l, h => by
    have hl := fun x hx => h x (List.mem_cons_of_mem s hx)
    have ih := enc_size hf hl
    have hb := enc_bd hf hl
    have hg := good_bd hf (h s (by simp))
    simp only [enc, needs, List.length_cons]
    generalize enc f l = e at *
    obtain ⟨x, off⟩ := e
    simp only at ih hb ⊢
    have hr := room hg.1 hg.2.1 hb.1 hb.2.1
    have hn := (need_spec hg.1).1
    generalize sh f s.toNat = F at *
    generalize st f s.toNat = S at *
    -- y: the number that has room; z: what its bytes weigh
    have step : ∀ y, 256 * F ≤ y → up F S y * 256 ≤ 257 * y * 2 ^ need F := by
      intro y hy
      have h1 := up_le hg.1 hg.2.2 hy
      have h2 := Nat.mul_le_mul_left (up F S y) hn
      have h3 := Nat.mul_le_mul_right (2 ^ need F) h1
      rw [← Nat.mul_assoc] at h2
      omega
    have fin : ∀ (y m : Nat), 256 * F ≤ y → y * 256 ^ m ≤ x * 256 ^ off.length → up F S y * 256 ^ (l.length + 1) * 256 ^ m ≤ 65536 * 257 ^ (l.length + 1) * 2 ^ (need F + needs f l) := by
      intro y m hy hm
      have a1 := step y hy
      have a2 := Nat.mul_le_mul_right (256 ^ l.length * 256 ^ m) a1
      have a3 := Nat.mul_le_mul_right (257 * 2 ^ need F * 256 ^ l.length) hm
      have a4 := Nat.mul_le_mul_left (257 * 2 ^ need F) ih
      have e1 : up F S y * 256 ^ (l.length + 1) * 256 ^ m = up F S y * 256 * (256 ^ l.length * 256 ^ m) := by rw [Nat.pow_succ]; ac_rfl
      have e2 : 257 * y * 2 ^ need F * (256 ^ l.length * 256 ^ m) = y * 256 ^ m * (257 * 2 ^ need F * 256 ^ l.length) := by ac_rfl
      have e3 : x * 256 ^ off.length * (257 * 2 ^ need F * 256 ^ l.length) = 257 * 2 ^ need F * (x * 256 ^ l.length * 256 ^ off.length) := by ac_rfl
      have e4 : 257 * 2 ^ need F * (65536 * 257 ^ l.length * 2 ^ needs f l) = 65536 * 257 ^ (l.length + 1) * 2 ^ (need F + needs f l) := by rw [Nat.pow_succ 257, Nat.pow_add]; ac_rfl
      rw [e1]; rw [e2] at a2; rw [e3] at a3; rw [e4] at a4
      omega
    split
    · rename_i hx
      have hh := hr.1 hx
      apply fin _ _ hh.1
      rw [List.length_cons, Nat.pow_succ]
      have : x / 256 * 256 ≤ x := Nat.div_mul_le_self x 256
      have := Nat.mul_le_mul_right (256 ^ off.length) this
      rw [Nat.mul_comm (256 ^ off.length) 256, ← Nat.mul_assoc]; exact this
    · rename_i hx
      have hh := hr.2 hx
      exact fin _ _ hh.1 (Nat.le_refl _)
theorem pow257 : ∀ n, n ≤ 60 → 257 ^ n ≤ 2 * 256 ^ n := by
  have h : ∀ n : Fin 61, 257 ^ n.1 ≤ 2 * 256 ^ n.1 := by decide +kernel
  intro n hn; exact h ⟨n, by omega⟩
/-- IN NO MORE BYTES. -/
theorem bytes_le {f : List Int} (hf : sharesOk f) {l : List Int} (hl : l.length ≤ 60) (h : ∀ s ∈ l, good f s) : 3 ≤ (bytes f l).length ∧ (bytes f l).length ≤ 4 + needs f l / 8 := by
  have hs := enc_size hf h
  have hb := (enc_bd hf h).1
  unfold bytes told
  simp only [List.length_cons]
  refine ⟨by omega, ?_⟩
  generalize (enc f l).2.length = E at *
  generalize (enc f l).1 = x at *
  generalize needs f l = N at *
  have h1 := pow257 _ hl
  have h2 : 65536 * 256 ^ l.length * 256 ^ E ≤ x * 256 ^ l.length * 256 ^ E := Nat.mul_le_mul_right _ (Nat.mul_le_mul_right _ hb)
  have h3 : 65536 * 257 ^ l.length * 2 ^ N ≤ 65536 * (2 * 256 ^ l.length) * 2 ^ N := Nat.mul_le_mul_right _ (Nat.mul_le_mul_left _ h1)
  have h4 : 65536 * 256 ^ l.length * 256 ^ E ≤ 65536 * 256 ^ l.length * (2 * 2 ^ N) := by
    have e : 65536 * (2 * 256 ^ l.length) * 2 ^ N = 65536 * 256 ^ l.length * (2 * 2 ^ N) := by ac_rfl
    rw [e] at h3; omega
  have h5 : 256 ^ E ≤ 2 * 2 ^ N := Nat.le_of_mul_le_mul_left h4 (Nat.mul_pos (by omega) (Nat.pow_pos (by omega)))
  have h6 : 2 ^ (8 * E) ≤ 2 ^ (N + 1) := by
    have e : 2 ^ (N + 1) = 2 * 2 ^ N := by rw [Nat.pow_succ, Nat.mul_comm]
    rw [Nat.pow_mul, e]; exact h5
  have h7 := (Nat.pow_le_pow_iff_right (show 1 < 2 by omega)).1 h6
  omega
theorem bytes_lt {f : List Int} (hf : sharesOk f) {l : List Int} (h : ∀ s ∈ l, good f s) : ∀ b ∈ bytes f l, b < 256 := by
  have hb := enc_bd hf h
  unfold bytes told
  intro b hm
  simp only [List.mem_cons] at hm
  rcases hm with rfl | rfl | rfl | hm
  · omega
  · omega
  · omega
  · exact hb.2.2 b hm
end Ph
