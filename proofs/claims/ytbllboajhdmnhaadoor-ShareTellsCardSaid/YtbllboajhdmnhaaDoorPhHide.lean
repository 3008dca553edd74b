/- Plain law: what is lost is hidden (chapter 18). No program in sight. -/
import Derived.Test.YtbllboajhdmnhaaDoorPhPack
namespace Ph
/-- Down to a gain that there is. -/
def downN : Nat → Nat
  | 0 => 0
  | g + 1 => if valued (g + 1) = true then g + 1 else downN g
theorem valued_zero : valued 0 = true := by decide
theorem downN_ok : ∀ g, valued (downN g) = true ∧ downN g ≤ g
  | 0 => ⟨valued_zero, Nat.le_refl _⟩
  | g + 1 => by
    unfold downN
    split
    · rename_i h; exact ⟨h, Nat.le_refl _⟩
    · have := downN_ok g; exact ⟨this.1, by omega⟩
theorem downN_stay {g : Nat} (h : valued g = true) : downN g = g := by
  cases g with
  | zero => rfl
  | succ g => unfold downN; rw [if_pos h]
theorem downN_step {g : Nat} (h : valued (g + 1) = false) : downN (g + 1) = downN g := by
  rw [downN, if_neg (by rw [h]; simp)]
def down (g : Int) : Int := (downN (g - 4).toNat : Nat)
theorem down_ok (g : Int) : gainOk (down g) = true ∧ 0 ≤ down g ∧ (down g ≤ g - 4 ∨ down g = 0) := by
  have h := downN_ok (g - 4).toNat
  unfold gainOk down
  rw [Bool.and_eq_true, decide_eq_true_eq, Int.toNat_natCast]
  exact ⟨⟨by omega, h.1⟩, by omega, by omega⟩
def soften (p : Part) : Part := ⟨down p.gain, if down p.gain = 0 then List.replicate p.pulses.length 0 else p.pulses⟩
/-- What is told of parts; of none that may be noughts. -/
def heardOf (p : List Part) (many : Nat) : List Int := if decErr p = 0 then lapI (decAll p) else List.replicate many 0
theorem soften_len (p : List Part) : (p.map soften).map (fun x => x.pulses.length) = p.map (fun x => x.pulses.length) := by
  rw [List.map_map]
  apply List.map_congr_left
  intro x _
  simp only [Function.comp, soften]
  split <;> simp
theorem soften_many (p : List Part) : manyOf (p.map soften) = manyOf p := by unfold manyOf; rw [soften_len]
theorem heard_length {p : List Part} {many : Nat} (h : p = [] ∨ manyOf p = many) : (heardOf p many).length = many := by
  unfold heardOf
  split
  · rename_i h0
    have hne : p ≠ [] := by intro he; rw [he] at h0; simp [decErr] at h0
    have hm : manyOf p = many := by
      rcases h with h | h
      · exact absurd h hne
      · exact h
    have hz : decPart p = 0 ∧ lapErr (decAll p) 4000 = 0 := by
      unfold decErr at h0
      split at h0
      · omega
      · split at h0
        · omega
        · split at h0
          · omega
          · exact ⟨by omega, h0⟩
    have h2 := (lapErr_zero.1 hz.2).2.1
    rw [lapI_length, decAll_length, hm]
    rw [decAll_length, hm] at h2
    omega
  · simp
/-- So many that were lost in a row. -/
def softens : Nat → List Part → List Part
  | 0, p => p
  | k + 1, p => (softens k p).map soften
theorem softens_many (k : Nat) (p : List Part) : manyOf (softens k p) = manyOf p := by
  induction k with
  | zero => rfl
  | succ k ih => rw [softens, soften_many, ih]
theorem softens_nil (k : Nat) : softens k [] = [] := by
  induction k with
  | zero => rfl
  | succ k ih => rw [softens, ih]; rfl
theorem softens_ne {k : Nat} {p : List Part} (h : p ≠ []) : softens k p ≠ [] := by
  induction k with
  | zero => exact h
  | succ k ih => rw [softens]; simpa using ih
theorem softens_gain {p : List Part} (hp : ∀ x ∈ p, x.gain ≤ 53) : ∀ k, ∀ x ∈ softens k p, (x.gain ≤ 53 - 4 * k ∨ x.gain = 0) ∧ (0 < k → x.gain = 0 → ∀ y ∈ x.pulses, y = 0)
  | 0, x, hx => by
    have := hp x hx
    exact ⟨by omega, fun h => by omega⟩
  | k + 1, x, hx => by
    rw [softens] at hx
    obtain ⟨z, hz, rfl⟩ := List.mem_map.1 hx
    have ih := (softens_gain hp k z hz).1
    have hd := down_ok z.gain
    refine ⟨?_, fun _ h0 => ?_⟩
    · show down z.gain ≤ _ ∨ down z.gain = 0
      rcases ih with ih | ih
      · rcases hd.2.2 with h | h
        · left; omega
        · right; exact h
      · right
        rcases hd.2.2 with h | h
        · have := hd.2.1; omega
        · exact h
    · have h1 : down z.gain = 0 := h0
      intro y hy
      simp only [soften, h1, if_true] at hy
      exact List.eq_of_mem_replicate hy
/-- Behind fourteen it is silent. -/
theorem softens_silent {p : List Part} {many : Nat} (hp : ∀ x ∈ p, x.gain ≤ 53) : ∀ y ∈ heardOf (softens 14 p) many, y = 0 := by
  unfold heardOf
  split
  · apply lapI_zeros
    intro y hy
    unfold decAll at hy
    obtain ⟨x, hx, hy⟩ := List.mem_flatMap.1 hy
    have h := softens_gain hp 14 x hx
    by_cases h0 : x.gain = 0
    · have hz := h.2 (by omega) h0
      unfold numbers at hy
      obtain ⟨z, hz2, rfl⟩ := List.mem_map.1 hy
      rw [hz z hz2]
      unfold number1
      split
      · rw [Int.zero_mul]; exact Int.zero_tdiv _
      · rfl
    · -- a gain of 53 less 56 is none that is above 0
      exfalso
      have h1 : x.gain ≤ 53 - 4 * ((14 : Nat) : Int) := by
        rcases h.1 with h | h
        · exact h
        · exact absurd h h0
      have h2 : 0 ≤ x.gain := by
        rw [softens] at hx
        obtain ⟨z, _, rfl⟩ := List.mem_map.1 hx
        exact (down_ok z.gain).2.1
      omega
  · intro y hy; exact List.eq_of_mem_replicate hy
theorem gainOk_le {g : Int} (h : gainOk g = true) : 0 ≤ g ∧ g ≤ 53 := by
  unfold gainOk at h
  rw [Bool.and_eq_true, decide_eq_true_eq] at h
  have := h.2
  simp only [valued, Bool.and_eq_true, decide_eq_true_eq] at this
  omega
end Ph
