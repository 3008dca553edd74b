/- A log of frames that were packed: what it holds, behind each put, and behind a crash once all is safe. -/
import Derived.Test.YtmohilfebgahoaaGreatDoorLogOk
import Derived.Test.YtmohilfebgahoaaGreatDoorPackMore
namespace Go.Proofs.YtmohilfebgahoaaGreatDoor
open Go.RowKit

/-- A log that holds these frames, packed, and goes on. -/
def StreamS (s : List Int) (bits : Int) (pss : List (List Ph.Part)) (S : LogS) : Prop :=
  S.all = pss.map (fun p => packS p s bits) ∧ LogOk S ∧ S.st = false ∧ S.left = -1 ∧ S.bytes.length ≤ 300 * pss.length ∧ ∀ p ∈ pss, Ph.packErr p s bits = 0
section
variable {s : List Int} {bits : Int} {pss : List (List Ph.Part)} {S : LogS}
theorem stream_new : StreamS s bits [] newS := ⟨rfl, ok_new, rfl, rfl, Nat.le_refl _, fun _ h => by cases h⟩
theorem stream_len (h : StreamS s bits pss S) : S.all.length = pss.length := by rw [h.1, List.length_map]
theorem stream_put {p : List Ph.Part} (h : StreamS s bits pss S) (hp : Ph.packErr p s bits = 0) (hn : pss.length < 20) : putE S 0 = 0 ∧ StreamS s bits (pss ++ [p]) (putS S 0 (packS p s bits)) := by
  have hl := stream_len h
  obtain ⟨h1, h2, h3, h4, h5, h6⟩ := h
  have hs5 : (packS p s bits).size ≤ 50 := by
    have := (unpE_zero (pack_unp hp).1).2.2.1
    rwa [bytesOf_length] at this
  have hr := recL_few (bytesOf_lt (packS p s bits))
  rw [bytesOf_length] at hr
  have hok := ok_put h2 0 (packS p s bits)
  have e : putS S 0 (packS p s bits) = { S with all := S.all ++ [packS p s bits], bytes := S.bytes ++ recL (bytesOf (packS p s bits)), left := max (-1) (S.left - 1), st := false } := by
    unfold putS
    rw [if_neg (by rintro (h | h | h); rw [h3] at h; cases h; omega; exact h rfl), if_neg (by rw [h4]; omega)]
  refine ⟨by unfold putE; rw [if_neg (by rw [h3]; simp), if_neg (by omega), if_neg (by omega), if_neg (by rw [h4]; omega)], ?_⟩
  rw [e] at hok ⊢
  refine ⟨?_, hok, rfl, ?_, ?_, ?_⟩
  · simp only; rw [h1]; simp
  · simp only; rw [h4]; rfl
  · simp only [List.length_append, List.length_singleton]; omega
  · intro q hq
    rcases List.mem_append.1 hq with hq | hq
    · exact h6 q hq
    · rw [List.mem_singleton.1 hq]; exact hp
theorem stream_sync (h : StreamS s bits pss S) : syncE S = 0 ∧ StreamS s bits pss (syncS S) ∧ (syncS S).safe = (((syncS S).bytes.length : Nat) : Int) := by
  obtain ⟨h1, h2, h3, h4, h5, h6⟩ := h
  have hok := ok_sync h2
  have e : syncS S = { S with left := max (-1) (S.left - 1), st := false, safe := (S.bytes.length : Nat) } := by unfold syncS; rw [if_neg (by rw [h3]; simp), if_neg (by rw [h4]; omega)]
  rw [e] at hok ⊢
  exact ⟨by unfold syncE; rw [if_neg (by rw [h3]; simp), if_neg (by rw [h4]; omega)], ⟨h1, hok, rfl, by simp only; rw [h4]; rfl, h5, h6⟩, rfl⟩
/-- Once all is safe a crash leaves all. -/
theorem stream_crash (h : StreamS s bits pss S) (hs : S.safe = ((S.bytes.length : Nat) : Int)) (keep : Int) {i : Nat} (hi : i ≤ pss.length) (h2 : ∀ j, i < j → j ≤ pss.length → highOf S keep < Ph.mark (recsOf S.all) j) : i = pss.length := by
  have hl := stream_len h
  obtain ⟨h1, ⟨⟨tail, t1, t2, t3⟩, t4, t5⟩, h3, h4, h5, h6⟩ := h
  have hH : highOf S keep = S.bytes.length := by unfold highOf; rw [hs]; omega
  have ht := t3 h3
  subst ht
  rw [List.append_nil] at t1
  rcases Nat.lt_or_ge i pss.length with hlt | hge
  · have := h2 pss.length hlt (Nat.le_refl _)
    have hm : Ph.mark (recsOf S.all) pss.length = (recsOf S.all).flatten.length := by unfold Ph.mark; rw [List.take_of_length_le (by rw [recsOf_len]; omega)]
    rw [hH, hm, ← t1] at this
    omega
  · omega
end
end Go.Proofs.YtmohilfebgahoaaGreatDoor
