/- Plain law: frames (chapter 16). No program in sight. -/
import Derived.Test.YtbllboajhdmnhaaDoorPhShare
namespace Ph
structure Part where
  gain : Int
  pulses : List Int
/-- The value of a gain. -/
def val (g : Int) : Int := (mean g.toNat : Nat)
def gainOk (g : Int) : Bool := decide (0 ≤ g) && valued g.toNat
def vals (l : List Part) : List Int := l.map fun p => val p.gain
def bandsOf (l sizes : List Int) : List (List Int) := cut (lapF l) sizes
def gainOf (b : List Int) : Int := (step (loudN b) : Nat)
def encErr (l sizes : List Int) (bits : Int) : Int :=
  if bandErr sizes ≠ 0 then bandErr sizes else if (l.length : Int) ≠ total sizes then 3 else if lapErr l 1000 ≠ 0 then lapErr l 1000
  else if bits < 0 ∨ 400 < bits then 1 else if (bandsOf l sizes).any (fun b => decide (8000 < loud b)) = true then 4 else 0
/-- Pulses for parts of which the gains are there. -/
def shared (p : List Part) (sizes : List Int) (bits : Int) : List Int := shareOf sizes (vals p) bits
def loudParts (bs : List (List Int)) : List Part := bs.map fun b => ⟨gainOf b, []⟩
def encoded (l sizes : List Int) (bits : Int) : List Part :=
  let bs := bandsOf l sizes
  let k := shared (loudParts bs) sizes bits
  (List.range bs.length).map fun i => ⟨gainOf (bs.getD i []), near (bs.getD i []) (k.getD i 0)⟩
def partsErr : List Part → Int
  | [] => 0
  | p :: l => if gainOk p.gain = false then 1 else if pulsesErr p.pulses ≠ 0 then pulsesErr p.pulses else partsErr l
def frameErr (p : List Part) (sizes : List Int) (bits : Int) : Int :=
  if bandErr sizes ≠ 0 then bandErr sizes else if p.length ≠ sizes.length then 3
  else if p.map (fun x => (x.pulses.length : Int)) ≠ sizes then 3
  else if partsErr p ≠ 0 then partsErr p else if bits < 0 ∨ 400 < bits then 1
  else if p.map (fun x => loud x.pulses) ≠ shared p sizes bits then 3 else 0
theorem partsErr_zero : ∀ {p : List Part}, partsErr p = 0 ↔ ∀ x ∈ p, gainOk x.gain = true ∧ pulsesErr x.pulses = 0
  | [] => by simp [partsErr]
  | y :: p => by
    have ih := partsErr_zero (p := p)
    unfold partsErr
    split
    · rename_i h
      constructor
      · intro h; omega
      · intro h2; have := (h2 y (by simp)).1; rw [h] at this; cases this
    · rename_i h
      split
      · rename_i h2
        constructor
        · intro h; omega
        · intro h3; exact absurd (h3 y (by simp)).2 h2
      · rename_i h2
        rw [ih]
        constructor
        · intro h3 x hx
          rcases List.mem_cons.1 hx with rfl | hx
          · exact ⟨by simpa using h, by omega⟩
          · exact h3 x hx
        · intro h3 x hx; exact h3 x (by simp [hx])
theorem frameErr_zero {p : List Part} {sizes : List Int} {bits : Int} : frameErr p sizes bits = 0 ↔
    bandErr sizes = 0 ∧ p.map (fun x => (x.pulses.length : Int)) = sizes ∧ (∀ x ∈ p, gainOk x.gain = true ∧ pulsesErr x.pulses = 0) ∧ 0 ≤ bits ∧ bits ≤ 400 ∧ p.map (fun x => loud x.pulses) = shared p sizes bits := by
  unfold frameErr
  constructor
  · intro h
    split at h
    · omega
    · split at h
      · omega
      · split at h
        · omega
        · split at h
          · omega
          · split at h
            · omega
            · split at h
              · omega
              · rename_i h3 _ _ h6
                exact ⟨by omega, Decidable.of_not_not h3, partsErr_zero.1 (by omega), by omega, by omega, Decidable.of_not_not h6⟩
  · rintro ⟨h1, h2, h3, h4, h5, h6⟩
    have hl : p.length = sizes.length := by rw [← h2, List.length_map]
    rw [if_neg (by omega), if_neg (by omega), if_neg (by simp [h2]), if_neg (by simp [partsErr_zero.2 h3]), if_neg (by omega), if_neg (by simp [h6])]
/-! ### What a frame tells. -/
def number1 (p : Part) (x : Int) : Int := if 0 < loud p.pulses then (x * val p.gain).tdiv (loud p.pulses) else x
def numbers (p : Part) : List Int := p.pulses.map (number1 p)
def decAll (p : List Part) : List Int := p.flatMap numbers
def decPart : List Part → Int
  | [] => 0
  | p :: l => if pulsesErr p.pulses ≠ 0 then pulsesErr p.pulses else if gainOk p.gain = false then 1 else decPart l
def manyOf (p : List Part) : Nat := (p.map (fun x => x.pulses.length)).sum
def decErr (p : List Part) : Int :=
  if p.length = 0 then 5 else if 8 < p.length ∨ 32 < manyOf p then 4 else if decPart p ≠ 0 then decPart p else lapErr (decAll p) 4000
theorem decAll_length : ∀ p : List Part, (decAll p).length = manyOf p
  | [] => rfl
  | x :: p => by
    have := decAll_length p
    simp only [decAll, manyOf, List.flatMap_cons, List.length_append, List.map_cons, List.sum_cons, numbers, List.length_map] at *
    omega
theorem decPart_zero : ∀ {p : List Part}, decPart p = 0 ↔ ∀ x ∈ p, gainOk x.gain = true ∧ pulsesErr x.pulses = 0
  | [] => by simp [decPart]
  | y :: p => by
    have ih := decPart_zero (p := p)
    unfold decPart
    split
    · rename_i h2
      constructor
      · intro h; omega
      · intro h3; exact absurd (h3 y (by simp)).2 h2
    · rename_i h2
      split
      · rename_i h
        constructor
        · intro h; omega
        · intro h2; have := (h2 y (by simp)).1; rw [h] at this; cases this
      · rename_i h
        rw [ih]
        constructor
        · intro h3 x hx
          rcases List.mem_cons.1 hx with rfl | hx
          · exact ⟨by simpa using h, by omega⟩
          · exact h3 x hx
        · intro h3 x hx; exact h3 x (by simp [hx])

/-! ### What is made is right. -/
theorem cut_flat_mem : ∀ (s l : List Int) (b : List Int), b ∈ cut l s → ∀ x ∈ b, x ∈ l
  | [], l, b, h, x, _ => by simp [cut] at h
  | n :: s, l, b, h, x, hx => by
    simp only [cut] at h
    rcases List.mem_cons.1 h with rfl | h
    · exact List.mem_of_mem_take hx
    · exact List.mem_of_mem_drop (cut_flat_mem s _ b h x hx)
section
variable {l sizes : List Int} {bits : Int} (h : encErr l sizes bits = 0)
include h
theorem enc_facts : bandErr sizes = 0 ∧ (l.length : Int) = total sizes ∧ lapErr l 1000 = 0 ∧ 0 ≤ bits ∧ bits ≤ 400 ∧ ∀ b ∈ bandsOf l sizes, loud b ≤ 8000 := by
  unfold encErr at h
  split at h
  · omega
  · split at h
    · omega
    · split at h
      · omega
      · split at h
        · omega
        · split at h
          · omega
          · rename_i h5
            refine ⟨by omega, by omega, by omega, by omega, by omega, fun b hb => ?_⟩
            simp only [List.any_eq_true, decide_eq_true_eq] at h5
            rcases Int.lt_or_le 8000 (loud b) with h6 | h6
            · exact absurd ⟨b, hb, h6⟩ h5
            · exact h6
theorem sizes_pos : (∀ x ∈ sizes, 1 ≤ x ∧ x ≤ 6) := (bandErr_zero.1 (enc_facts h).1).2.2.1
omit h in
theorem bands_length : (bandsOf l sizes).length = sizes.length := cut_length _ _
theorem lap_len : ((lapF l).length : Int) = total sizes := by
  have hf := enc_facts h
  rw [lapF_length l (lapErr_zero.1 hf.2.2.1).2.1]; exact hf.2.1
theorem bands_sizes (i : Nat) (hi : i < sizes.length) : (((bandsOf l sizes).getD i []).length : Int) = sizes.getD i 0 :=
  cut_sizes sizes _ (fun x hx => by have := sizes_pos h x hx; omega) (lap_len h).symm i hi
omit h in
theorem enc_length : (encoded l sizes bits).length = sizes.length := by
  unfold encoded; simp [bands_length]
omit h in
theorem enc_get (i : Nat) (hi : i < (encoded l sizes bits).length) :
    (encoded l sizes bits)[i] = ⟨gainOf ((bandsOf l sizes).getD i []), near ((bandsOf l sizes).getD i []) ((shared (loudParts (bandsOf l sizes)) sizes bits).getD i 0)⟩ := by
  unfold encoded; simp
theorem band_loud (i : Nat) : loud ((bandsOf l sizes).getD i []) ≤ 8000 := by
  rw [List.getD_eq_getElem?_getD]
  rcases Nat.lt_or_ge i (bandsOf l sizes).length with hi | hi
  · rw [List.getElem?_eq_getElem hi]; exact (enc_facts h).2.2.2.2.2 _ (List.getElem_mem hi)
  · rw [List.getElem?_eq_none hi]; decide
omit h in
theorem gainOf_ok {b : List Int} (hb : loud b ≤ 8000) : gainOk (gainOf b) = true := by
  unfold gainOk gainOf
  rw [Bool.and_eq_true, decide_eq_true_eq, Int.toNat_natCast]
  refine ⟨by omega, valued_step ?_⟩
  have := loudN_int b; omega
omit h in
theorem vals_enc : vals (encoded l sizes bits) = vals (loudParts (bandsOf l sizes)) := by
  have e : ∀ bs : List (List Int), bs = (List.range bs.length).map (fun i => bs.getD i []) := by
    intro bs
    apply List.ext_getElem
    · simp
    · intro i h1 h2
      simp [List.getElem?_eq_getElem h1]
  have e2 := e (bandsOf l sizes)
  unfold vals loudParts encoded
  simp only [List.map_map]
  conv => rhs; rw [e2, List.map_map]
  rfl
theorem shared_facts : (shared (loudParts (bandsOf l sizes)) sizes bits).length = sizes.length ∧ pulsesOk (shared (loudParts (bandsOf l sizes)) sizes bits) ∧ cost sizes (shared (loudParts (bandsOf l sizes)) sizes bits) ≤ bits ∧
    ∀ i, i < sizes.length → (vals (loudParts (bandsOf l sizes))).getD i 0 = 0 → (shared (loudParts (bandsOf l sizes)) sizes bits).getD i 0 = 0 := by
  have hs := share_ok (s := sizes) (loud := vals (loudParts (bandsOf l sizes))) (enc_facts h).2.2.2.1
  exact ⟨hs.1, hs.2.1, hs.2.2.1, hs.2.2.2.1⟩
/-- Whoever gets a pulse is loud. -/
theorem loud_of_pulse (i : Nat) (hi : i < sizes.length) : (shared (loudParts (bandsOf l sizes)) sizes bits).getD i 0 = 0 ∨ 0 < loud ((bandsOf l sizes).getD i []) := by
  have hs := shared_facts h
  have hb : i < (bandsOf l sizes).length := by rw [bands_length]; exact hi
  by_cases hz : loud ((bandsOf l sizes).getD i []) = 0
  · left
    apply hs.2.2.2 i hi
    unfold vals loudParts
    rw [List.getD_eq_getElem?_getD, List.getElem?_map, List.getElem?_map, List.getElem?_eq_getElem hb]
    have e : (bandsOf l sizes).getD i [] = (bandsOf l sizes)[i] := by rw [List.getD_eq_getElem?_getD, List.getElem?_eq_getElem hb]; rfl
    rw [e] at hz
    simp only [Option.map_some, Option.getD_some, val, gainOf, Int.toNat_natCast]
    unfold loudN; rw [hz]; rfl
  · right; have := loud_nonneg ((bandsOf l sizes).getD i []); omega
theorem enc_part (i : Nat) (hi : i < (encoded l sizes bits).length) :
    gainOk (encoded l sizes bits)[i].gain = true ∧ pulsesErr (encoded l sizes bits)[i].pulses = 0 ∧ ((encoded l sizes bits)[i].pulses.length : Int) = sizes.getD i 0 ∧ loud (encoded l sizes bits)[i].pulses = (shared (loudParts (bandsOf l sizes)) sizes bits).getD i 0 := by
  have hi' : i < sizes.length := by rw [← enc_length]; exact hi
  have hs := shared_facts h
  have hk : i < (shared (loudParts (bandsOf l sizes)) sizes bits).length := by rw [hs.1]; exact hi'
  have hk2 := pulsesOk_getD hs.2.1 i
  have hloud := near_loud (v := (bandsOf l sizes).getD i []) hk2.1 (loud_of_pulse h i hi')
  have hsz := bands_sizes h i hi'
  have hszp := sizes_pos h _ (getD_mem hi')
  rw [enc_get i hi]
  refine ⟨gainOf_ok (band_loud h i), pulsesErr_zero.2 ⟨?_, ?_, ?_⟩, ?_, hloud⟩
  · show (near _ _).length ≤ 6
    rw [near_length]; omega
  · show allIn (near _ _) 8 = true
    rw [allIn_iff]
    intro x hx
    have h2 : far x ≤ loud (near ((bandsOf l sizes).getD i []) ((shared (loudParts (bandsOf l sizes)) sizes bits).getD i 0)) := by
      generalize near ((bandsOf l sizes).getD i []) ((shared (loudParts (bandsOf l sizes)) sizes bits).getD i 0) = q at *
      clear hloud
      induction q with
      | nil => simp at hx
      | cons y q ih =>
        have := loud_nonneg q; have := far_nonneg y
        simp only [loud]
        rcases List.mem_cons.1 hx with rfl | hx
        · omega
        · have := ih hx; omega
    rw [hloud] at h2
    exact far_le.1 (Int.le_trans h2 hk2.2)
  · show loud (near _ _) ≤ 8
    have e : loud (near ((bandsOf l sizes).getD i []) ((shared (loudParts (bandsOf l sizes)) sizes bits).getD i 0)) = (shared (loudParts (bandsOf l sizes)) sizes bits).getD i 0 := hloud
    rw [e]; exact hk2.2
  · show ((near _ _).length : Int) = _
    rw [near_length]; exact hsz
theorem enc_loud : (encoded l sizes bits).map (fun x => loud x.pulses) = shared (loudParts (bandsOf l sizes)) sizes bits := by
  apply List.ext_getElem
  · rw [List.length_map, enc_length, (shared_facts h).1]
  · intro i h1 h2
    rw [List.length_map] at h1
    rw [List.getElem_map, (enc_part h i h1).2.2.2, List.getD_eq_getElem?_getD, List.getElem?_eq_getElem h2]; rfl
/-- WHAT IS MADE IS RIGHT. -/
theorem enc_right : frameErr (encoded l sizes bits) sizes bits = 0 ∧ cost sizes ((encoded l sizes bits).map (fun x => loud x.pulses)) ≤ bits := by
  have hf := enc_facts h
  have hs := shared_facts h
  refine ⟨frameErr_zero.2 ⟨hf.1, ?_, ?_, hf.2.2.2.1, hf.2.2.2.2.1, ?_⟩, ?_⟩
  · apply List.ext_getElem
    · rw [List.length_map, enc_length]
    · intro i h1 h2
      rw [List.length_map] at h1
      rw [List.getElem_map, (enc_part h i h1).2.2.1, List.getD_eq_getElem?_getD, List.getElem?_eq_getElem h2]; rfl
  · intro x hx
    obtain ⟨i, hi, rfl⟩ := List.mem_iff_getElem.1 hx
    have := enc_part h i hi
    exact ⟨this.1, this.2.1⟩
  · rw [enc_loud h]; unfold shared; rw [vals_enc]
  · rw [enc_loud h]; exact hs.2.2.1
theorem enc_many : (manyOf (encoded l sizes bits) : Int) = total sizes := by
  have h2 := (frameErr_zero.1 (enc_right h).1).2.1
  have key : ∀ p : List Part, (manyOf p : Int) = total (p.map (fun x => (x.pulses.length : Int))) := by
    intro p
    unfold manyOf
    induction p with
    | nil => rfl
    | cons x p ih => simp only [List.map_cons, List.sum_cons, total]; omega
  rw [key, h2]
theorem enc_decErr : decErr (encoded l sizes bits) = 0 ∨ decErr (encoded l sizes bits) = 1 := by
  have hf := enc_facts h
  have hb := bandErr_zero.1 hf.1
  have hp := (frameErr_zero.1 (enc_right h).1).2.2.1
  have hm := enc_many h
  have hl := enc_length (l := l) (sizes := sizes) (bits := bits)
  have he := (lapErr_zero.1 hf.2.2.1).2.1
  unfold decErr
  rw [if_neg (by omega), if_neg (by omega), if_neg (by simp [decPart_zero.2 hp])]
  unfold lapErr
  rw [decAll_length, if_neg (by omega), if_neg (by omega)]
  split <;> simp
end
/-- Each number is told by its pulses and its gain: together no louder than the value, nor by their number softer. -/
theorem numbers_loud (p : Part) (hk : 0 < loud p.pulses) (hv : 0 ≤ val p.gain) : loud (numbers p) ≤ val p.gain ∧ val p.gain < loud (numbers p) + p.pulses.length := by
  have one : ∀ x, far (number1 p x) * loud p.pulses ≤ far x * val p.gain ∧ far x * val p.gain < far (number1 p x) * loud p.pulses + loud p.pulses := by
    intro x
    have hn : number1 p x = (x * val p.gain).tdiv (loud p.pulses) := by unfold number1; rw [if_pos hk]
    have hx : far x * val p.gain = far (x * val p.gain) := by rw [Int.mul_comm x, far_mul hv, Int.mul_comm]
    have key : ∀ y : Int, 0 ≤ y → far (y.tdiv (loud p.pulses)) * loud p.pulses ≤ y ∧ y < far (y.tdiv (loud p.pulses)) * loud p.pulses + loud p.pulses := by
      intro y hy
      rw [Int.tdiv_eq_ediv_of_nonneg hy]
      have h1 : 0 ≤ y / loud p.pulses := Int.ediv_nonneg hy (by omega)
      have h2 := Int.mul_ediv_add_emod y (loud p.pulses)
      have h3 := Int.emod_nonneg y (show loud p.pulses ≠ 0 by omega)
      have h4 := Int.emod_lt_of_pos y hk
      rw [Int.mul_comm] at h2
      have h5 : far (y / loud p.pulses) = y / loud p.pulses := by rw [far_eq, if_neg (by omega)]
      rw [h5]; omega
    rw [hx, hn]
    rcases Int.lt_or_le (x * val p.gain) 0 with h0 | h0
    · have h1 := key (-(x * val p.gain)) (by omega)
      rw [Int.neg_tdiv, far_neg] at h1
      have h2 : far (x * val p.gain) = -(x * val p.gain) := by rw [far_eq, if_pos h0]
      rw [h2]; exact h1
    · have h1 := key _ h0
      have h2 : far (x * val p.gain) = x * val p.gain := by rw [far_eq, if_neg (by omega)]
      rw [h2]; exact h1
  have all : ∀ q : List Int, loud (q.map (number1 p)) * loud p.pulses ≤ loud q * val p.gain ∧ (q ≠ [] → loud q * val p.gain < loud (q.map (number1 p)) * loud p.pulses + q.length * loud p.pulses) := by
    intro q
    induction q with
    | nil => simp [loud]
    | cons x q ih =>
      have h1 := one x
      simp only [List.map_cons, loud, List.length_cons]
      rw [Int.add_mul, Int.add_mul]
      have e : ((q.length + 1 : Nat) : Int) * loud p.pulses = q.length * loud p.pulses + loud p.pulses := by rw [Int.natCast_add, Int.add_mul]; simp
      rw [e]
      refine ⟨by omega, fun _ => ?_⟩
      by_cases hq : q = []
      · subst hq; simp [loud]; omega
      · have := ih.2 hq; omega
  have hne : p.pulses ≠ [] := by intro he; rw [he] at hk; simp [loud] at hk
  have ha := all p.pulses
  unfold numbers
  refine ⟨?_, ?_⟩
  · have h1 := ha.1
    rw [Int.mul_comm (loud p.pulses)] at h1
    exact Int.le_of_mul_le_mul_right h1 hk
  · have h1 := ha.2 hne
    rw [Int.mul_comm (loud p.pulses), ← Int.add_mul] at h1
    exact Int.lt_of_mul_lt_mul_right h1 (by omega)
theorem numbers_silent (p : Part) (hk : loud p.pulses = 0) : loud (numbers p) = 0 := by
  have h := loud_eq_zero hk
  unfold numbers
  have : p.pulses.map (number1 p) = p.pulses := by
    have e : ∀ x ∈ p.pulses, number1 p x = x := fun x _ => by unfold number1; rw [if_neg (by omega)]
    rw [List.map_congr_left e, List.map_id']
  rw [this]; exact hk
/-- Each band's numbers lie, one behind the other, in what all tell. -/
theorem decAll_part : ∀ (p : List Part) (i : Nat) (hi : i < p.length), ((decAll p).drop (manyOf (p.take i))).take p[i].pulses.length = numbers p[i]
  | [], i, hi => by simp at hi
  | x :: p, 0, _ => by
    simp only [List.take_zero, manyOf, List.map_nil, List.sum_nil, List.drop_zero, List.getElem_cons_zero, decAll, List.flatMap_cons]
    rw [List.take_append_of_le_length (by simp [numbers]), List.take_of_length_le (by simp [numbers])]
  | x :: p, i + 1, hi => by
    have ih := decAll_part p i (by simpa using hi)
    simp only [List.take_succ_cons, List.getElem_cons_succ]
    have e : manyOf (x :: p.take i) = (numbers x).length + manyOf (p.take i) := by simp [manyOf, numbers]
    have e2 : decAll (x :: p) = numbers x ++ decAll p := rfl
    rw [e, e2, ← List.drop_drop, List.drop_left, ih]
/-- Silence. -/
theorem lapF_zeros (n : Nat) (h : n % 2 = 0) : lapF (List.replicate n 0) = List.replicate n 0 := by
  have hg : ∀ i, (List.replicate n (0 : Int)).getD i 0 = 0 := fun i => by rw [List.getD_eq_getElem?_getD, List.getElem?_replicate]; split <;> rfl
  have hd : ∀ m i, dif (List.replicate n 0) m i = 0 := fun m i => by unfold dif ev; rw [hg, hg, hg]; rfl
  have hs : ∀ m i, stay (List.replicate n 0) m i = 0 := fun m i => by unfold stay ev; rw [hd, hd, hg]; rfl
  have hl := lapF_length (List.replicate n 0) (by rw [List.length_replicate]; exact h)
  apply ext_getD
  · rw [hl]
  · intro i hi
    rw [hg]
    unfold lapF stays difs
    rw [List.getD_eq_getElem?_getD]
    have : ∀ x ∈ (List.range ((List.replicate n (0 : Int)).length / 2)).map (stay (List.replicate n 0) ((List.replicate n (0 : Int)).length / 2)) ++ (List.range ((List.replicate n (0 : Int)).length / 2)).map (dif (List.replicate n 0) ((List.replicate n (0 : Int)).length / 2)), x = 0 := by
      intro x hx
      rw [List.mem_append, List.mem_map, List.mem_map] at hx
      rcases hx with ⟨j, _, rfl⟩ | ⟨j, _, rfl⟩
      · exact hs _ _
      · exact hd _ _
    cases hq : ((List.range ((List.replicate n (0 : Int)).length / 2)).map (stay (List.replicate n 0) ((List.replicate n (0 : Int)).length / 2)) ++ (List.range ((List.replicate n (0 : Int)).length / 2)).map (dif (List.replicate n 0) ((List.replicate n (0 : Int)).length / 2)))[i]? with
    | none => rfl
    | some y => exact this y (List.mem_of_getElem? hq)
theorem lapI_zeros (m : List Int) (h : ∀ x ∈ m, x = 0) : ∀ x ∈ lapI m, x = 0 := by
  have hg : ∀ i, m.getD i 0 = 0 := fun i => by
    rw [List.getD_eq_getElem?_getD]
    cases hq : m[i]? with
    | none => rfl
    | some y => exact h y (List.mem_of_getElem? hq)
  have he : ∀ n i, evI m n i = 0 := fun n i => by unfold evI; rw [hg, hg, hg]; rfl
  have ho : ∀ n i, odI m n i = 0 := fun n i => by unfold odI; rw [he, he, hg]; rfl
  intro x hx
  unfold lapI at hx
  rw [List.mem_flatMap] at hx
  obtain ⟨i, _, hx⟩ := hx
  simp only [List.mem_cons, List.not_mem_nil, or_false] at hx
  rcases hx with rfl | rfl
  · exact he _ _
  · exact ho _ _
end Ph
