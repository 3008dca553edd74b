/- A log whose bytes are its frames' records. -/
import Derived.Test.YtmohilfebgahoaaGreatDoorLog3
namespace Go.Proofs.YtmohilfebgahoaaGreatDoor
open Go.RowKit

/-- The records of a log's frames. -/
def recsOf (l : List ByteArray) : List (List UInt8) := l.map fun b => recL (bytesOf b)
theorem recsOf_rec (l : List ByteArray) : ∀ r ∈ recsOf l, Ph.isRec r := fun r hr => by
  obtain ⟨b, _, rfl⟩ := List.mem_map.1 hr
  exact recL_isRec _
theorem recsOf_len (l : List ByteArray) : (recsOf l).length = l.length := by simp [recsOf]
/-- A log's bytes are its frames' records, and what was begun when it stopped. -/
def LogOk (S : LogS) : Prop := (∃ tail, S.bytes = (recsOf S.all).flatten ++ tail ∧ Ph.noNl tail ∧ (S.st = false → tail = [])) ∧ 0 ≤ S.safe ∧ S.safe ≤ S.bytes.length
theorem ok_new : LogOk newS := ⟨⟨[], rfl, fun x hx => (by cases hx), fun _ => rfl⟩, Int.le_refl _, Int.le_refl _⟩
theorem ok_put {S : LogS} (h : LogOk S) (E : Int) (b : ByteArray) : LogOk (putS S E b) := by
  obtain ⟨⟨tail, h1, h2, h3⟩, h4, h5⟩ := h
  unfold putS
  split
  · exact ⟨⟨tail, h1, h2, h3⟩, h4, h5⟩
  · rename_i hn
    have hst : S.st = false := by
      cases hs : S.st with
      | false => rfl
      | true => exact absurd (.inl hs) hn
    have ht := h3 hst
    subst ht
    rw [List.append_nil] at h1
    split
    · refine ⟨⟨(recL (bytesOf b)).take ((recL (bytesOf b)).length / 2), by simp only; rw [h1], ?_, fun h => (by cases h)⟩, h4, ?_⟩
      · exact Ph.rec_part (recL_isRec _) (by have := recL_two (bytesOf b); omega)
      · simp only [List.length_append]; omega
    · refine ⟨⟨[], ?_, fun x hx => (by cases hx), fun _ => rfl⟩, h4, ?_⟩
      · simp only
        rw [h1]
        simp [recsOf]
      · simp only [List.length_append]; omega
theorem ok_sync {S : LogS} (h : LogOk S) : LogOk (syncS S) := by
  obtain ⟨⟨tail, h1, h2, h3⟩, h4, h5⟩ := h
  unfold syncS
  split
  · exact ⟨⟨tail, h1, h2, h3⟩, h4, h5⟩
  · rename_i hn
    have hst : S.st = false := by simpa using hn
    split
    · exact ⟨⟨tail, h1, h2, fun h => (by cases h)⟩, h4, h5⟩
    · exact ⟨⟨tail, h1, h2, fun _ => h3 hst⟩, by simp, by simp⟩
theorem ok_crash (S : LogS) (i : Nat) : LogOk (crashS S (recsOf S.all) i) := by
  refine ⟨⟨[], ?_, fun x hx => (by cases hx), fun _ => rfl⟩, by simp [crashS], by simp [crashS]⟩
  simp [crashS, recsOf, List.map_take]
theorem crash_le (S : LogS) (i : Nat) (h : LogOk S) : (crashS S (recsOf S.all) i).bytes.length ≤ S.bytes.length := by
  obtain ⟨⟨tail, h1, _, _⟩, _⟩ := h
  have h2 := Ph.mark_mono (recsOf S.all) (show i ≤ max i (recsOf S.all).length by omega)
  have h3 : Ph.mark (recsOf S.all) (max i (recsOf S.all).length) = (recsOf S.all).flatten.length := by unfold Ph.mark; rw [List.take_of_length_le (by omega)]
  rw [h1, List.length_append]
  show ((recsOf S.all).take i).flatten.length ≤ _
  unfold Ph.mark at h2 h3
  omega
end Go.Proofs.YtmohilfebgahoaaGreatDoor
