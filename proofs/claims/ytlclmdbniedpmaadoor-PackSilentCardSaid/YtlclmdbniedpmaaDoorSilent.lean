/- Plain facts: silence as a frame. -/
import Derived.Test.YtlclmdbniedpmaaDoorFrame
namespace Go.Proofs.YtlclmdbniedpmaaDoor

theorem loud_zeros : ∀ {l : List Int}, (∀ x ∈ l, x = 0) → Ph.loud l = 0
  | [], _ => rfl
  | x :: l, h => by
    have h1 := h x (by simp)
    have h2 := loud_zeros (l := l) fun y hy => h y (by simp [hy])
    subst h1
    simp only [Ph.loud, h2]; rfl
theorem allIn_zeros {l : List Int} (h : ∀ x ∈ l, x = 0) (m : Int) (hm : 0 ≤ m) : Ph.allIn l m = true := by
  rw [Ph.allIn_iff]
  intro x hx
  have := h x hx
  omega
theorem silent_lap (T : Nat) (h : T ≤ 32) (h2 : T % 2 = 0) : Ph.lapErr (List.replicate T 0) 1000 = 0 :=
  Ph.lapErr_zero.2 ⟨by simpa using h, by simpa using h2, allIn_zeros (fun x hx => List.eq_of_mem_replicate hx) _ (by omega)⟩
section
variable {s : List Int} {bits : Int} {T : Nat}
theorem silent_bands (h2 : T % 2 = 0) : ∀ b ∈ Ph.bandsOf (List.replicate T 0) s, ∀ x ∈ b, x = 0 := fun b hb x hx => by
  unfold Ph.bandsOf at hb
  rw [Ph.lapF_zeros T h2] at hb
  exact List.eq_of_mem_replicate (Ph.cut_flat_mem s _ b hb x hx)
theorem silent_err (hb : Ph.bandErr s = 0) (hT : Ph.total s = T) (hE : Ph.encErr (List.replicate T 0) s bits ≠ 0) : (T : Int) % 2 ≠ 0 ∨ bits < 0 ∨ 400 < bits := by
  have h8 := Ph.bandErr_zero.1 hb
  by_cases h2 : T % 2 = 0
  · by_cases hbi : bits < 0 ∨ 400 < bits
    · exact .inr hbi
    · exfalso
      apply hE
      have hl := silent_lap T (by omega) h2
      unfold Ph.encErr
      rw [if_neg (by omega), if_neg (by rw [List.length_replicate]; omega), if_neg (by omega), if_neg hbi, if_neg]
      intro ha
      obtain ⟨b, hbm, hd⟩ := List.any_eq_true.1 ha
      have := loud_zeros (silent_bands h2 b hbm)
      simp at hd
      omega
  · left; omega
theorem silent_even (hE : Ph.encErr (List.replicate T 0) s bits = 0) : T % 2 = 0 := by
  have := (Ph.lapErr_zero.1 (Ph.enc_facts hE).2.2.1).2.1
  simpa using this
theorem silent_band (hE : Ph.encErr (List.replicate T 0) s bits = 0) (i : Nat) : Ph.loud ((Ph.bandsOf (List.replicate T 0) s).getD i []) = 0 := by
  rw [List.getD_eq_getElem?_getD]
  rcases Nat.lt_or_ge i (Ph.bandsOf (List.replicate T 0) s).length with hi | hi
  · rw [List.getElem?_eq_getElem hi]
    exact loud_zeros (silent_bands (silent_even hE) _ (List.getElem_mem hi))
  · rw [List.getElem?_eq_none hi]; rfl
theorem silent_parts (hE : Ph.encErr (List.replicate T 0) s bits = 0) : ∀ p ∈ Ph.encoded (List.replicate T 0) s bits, p.gain = 0 ∧ Ph.pulsesErr p.pulses = 0 ∧ Ph.loud p.pulses = 0 := fun p hp => by
  obtain ⟨i, hi, rfl⟩ := List.mem_iff_getElem.1 hp
  have h1 := Ph.enc_part hE i hi
  have hi' : i < s.length := by rw [← Ph.enc_length]; exact hi
  have h2 := Ph.loud_of_pulse hE i hi'
  have h3 := silent_band hE i
  refine ⟨?_, h1.2.1, ?_⟩
  · rw [Ph.enc_get i hi]
    show Ph.gainOf _ = 0
    unfold Ph.gainOf Ph.loudN
    rw [h3]; rfl
  · rw [h1.2.2.2]
    rcases h2 with h2 | h2
    · exact h2
    · omega
theorem silent_told (hE : Ph.encErr (List.replicate T 0) s bits = 0) : Ph.decErr (Ph.encoded (List.replicate T 0) s bits) = 0 ∧ Ph.lapI (Ph.decAll (Ph.encoded (List.replicate T 0) s bits)) = List.replicate T 0 := by
  have hz : ∀ x ∈ Ph.decAll (Ph.encoded (List.replicate T 0) s bits), x = 0 := fun x hx => by
    unfold Ph.decAll at hx
    obtain ⟨p, hp, hx⟩ := List.mem_flatMap.1 hx
    have h1 := silent_parts hE p hp
    exact Ph.loud_eq_zero (Ph.numbers_silent p h1.2.2) x hx
  have hf := Ph.enc_facts hE
  have hb := Ph.bandErr_zero.1 hf.1
  have hm := Ph.enc_many hE
  have hl := Ph.enc_length (l := List.replicate T 0) (sizes := s) (bits := bits)
  have hp := (Ph.frameErr_zero.1 (Ph.enc_right hE).1).2.2.1
  have h2 := silent_even hE
  have hlen := hf.2.1
  rw [List.length_replicate] at hlen
  have hdl : (Ph.decAll (Ph.encoded (List.replicate T 0) s bits)).length = T := by rw [Ph.decAll_length]; omega
  refine ⟨?_, ?_⟩
  · unfold Ph.decErr
    rw [if_neg (by omega), if_neg (by omega), if_neg (by simp [Ph.decPart_zero.2 hp])]
    exact Ph.lapErr_zero.2 ⟨by omega, by omega, allIn_zeros hz _ (by omega)⟩
  · have h3 := Ph.lapI_zeros _ hz
    have h4 := Ph.lapI_length (Ph.decAll (Ph.encoded (List.replicate T 0) s bits))
    apply List.ext_getElem
    · rw [h4, List.length_replicate]; omega
    · intro i a b
      rw [List.getElem_replicate]
      exact h3 _ (List.getElem_mem a)
end
end Go.Proofs.YtlclmdbniedpmaaDoor
