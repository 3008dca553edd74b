/- Walks: signs of bytes, by the program (chapter 11). -/
import Derived.Test.YtlilommhdjdblaaDoorHornS
namespace Go.Proofs.YtlilommhdjdblaaDoor
open Go.RowKit

theorem RdB.drop1 {w : World} {B n c b off : Nat} {l : List Nat} (h : RdB w B (some ⟨b, off, none⟩) n l) (hn : 1 ≤ n) (hc : n ≤ c) :
    (c = 1 → RdB w B (some ⟨b, off, none⟩) (n - 1) (l.drop 1)) ∧ (c ≠ 1 → RdB w B (some ⟨b, off + 1, none⟩) (n - 1) (l.drop 1)) := by
  have := h.drop_if (k := 1) (cap := c) hn hc
  constructor
  · intro e; rwa [if_pos e] at this
  · intro e; rw [if_neg e] at this; simpa [Addr.add] using this
/-- Signs that were heard, and whether there are such. -/
def HeardP (R : Option (List Int × Nat × List Nat)) (w : World) (e : Ending) (w' : World) : Prop :=
  ∃ A n c, e = .returned (.tuple #[.slice A n c, .bool R.isSome]) ∧ w'.ownsRow w.heap.size 3 1 (.slice A n c) n (ivals (R.elim [] (·.1))) ∧ Below w.heap.size w w'
end Go.Proofs.YtlilommhdjdblaaDoor
/- Walks: signs as bytes, and bytes as signs, whatever comes (chapter 11). -/
namespace Go.Proofs.YtlilommhdjdblaaDoor
open Go.RowKit

/-- What is told of a row of signs. -/
def encS (f l : List Int) : ByteArray := if hornErr f l = 0 then strB (Ph.bytes f l) else ByteArray.empty
/-- The row of so many signs that bytes are, if they are one. -/
def decR (f : List Int) (b : List Nat) (m : Nat) : Option (List Int) := (Ph.heard f b m).bind fun q => if Ph.bytes f q.1 = b then some q.1 else none
/-- What is wrong with bytes. -/
def decE (f : List Int) (b : List Nat) (m : Int) : Int := if shErr f ≠ 0 then 3 else if m < 0 ∨ 60 < m then 1 else if (decR f b m.toNat).isSome = true then 0 else 2
def decL (f : List Int) (b : List Nat) (m : Int) : List Int := if decE f b m = 0 then (decR f b m.toNat).getD [] else []
theorem heard_good {f : List Int} (hf : Ph.sharesOk f) {b : List Nat} {n : Nat} {l : List Int} {x : Nat} {r : List Nat} (h : Ph.heard f b n = some (l, x, r)) : (∀ s ∈ l, Ph.good f s) ∧ l.length = n := by
  unfold Ph.heard at h
  split at h
  · exact ⟨Ph.dec_good hf h, Ph.dec_length h⟩
  · simp at h
theorem decE_zero {f : List Int} {b : List Nat} {m : Int} (h : decE f b m = 0) : shErr f = 0 ∧ 0 ≤ m ∧ m ≤ 60 ∧ ∃ l x r, Ph.heard f b m.toNat = some (l, x, r) ∧ Ph.bytes f l = b ∧ decL f b m = l ∧ l.length = m.toNat ∧ hornErr f l = 0 := by
  have h' := h
  unfold decE at h
  by_cases h0 : shErr f = 0
  · rw [if_neg (by omega)] at h
    by_cases hm : m < 0 ∨ 60 < m
    · rw [if_pos hm] at h; omega
    · rw [if_neg hm] at h
      cases hH : Ph.heard f b m.toNat with
      | none =>
        have hR : decR f b m.toNat = none := by unfold decR; rw [hH]; rfl
        rw [hR] at h; simp at h
      | some q =>
        obtain ⟨l, x, r⟩ := q
        by_cases hq : Ph.bytes f l = b
        · have hR : decR f b m.toNat = some l := by unfold decR; rw [hH]; simp [hq]
          obtain ⟨hg, hl⟩ := heard_good (shErr_zero.1 h0) hH
          exact ⟨h0, by omega, by omega, l, x, r, rfl, hq, by unfold decL; rw [if_pos h', hR]; rfl, hl, hornErr_zero.2 ⟨shErr_zero.1 h0, by omega, hg⟩⟩
        · have hR : decR f b m.toNat = none := by unfold decR; rw [hH]; simp [hq]
          rw [hR] at h; simp at h
  · rw [if_pos h0] at h; omega
theorem decE_bytes {f l : List Int} (h : hornErr f l = 0) : decE f (Ph.bytes f l) l.length = 0 ∧ decL f (Ph.bytes f l) l.length = l := by
  obtain ⟨hf, hl, hg⟩ := hornErr_zero.1 h
  have hs := shErr_zero.2 hf
  have hH := Ph.heard_bytes hf hg
  have hR : decR f (Ph.bytes f l) l.length = some l := by unfold decR; rw [hH]; simp
  have hE : decE f (Ph.bytes f l) l.length = 0 := by
    unfold decE; rw [if_neg (by omega), if_neg (by omega), Int.toNat_natCast, hR]; rfl
  exact ⟨hE, by unfold decL; rw [if_pos hE, Int.toNat_natCast, hR]; rfl⟩
theorem decE_more {f l : List Int} (h : hornErr f l = 0) (h60 : l.length < 60) (ha : ∀ x ∈ f, x ≠ 256) : decE f (Ph.bytes f l) ((l.length : Int) + 1) = 2 := by
  obtain ⟨hf, hl, hg⟩ := hornErr_zero.1 h
  have hs := shErr_zero.2 hf
  have hH := Ph.heard_more hf hg ha
  have hR : decR f (Ph.bytes f l) (l.length + 1) = none := by unfold decR; rw [hH]; rfl
  unfold decE
  rw [if_neg (by omega), if_neg (by omega), show ((l.length : Int) + 1).toNat = l.length + 1 by omega, hR]; rfl
end Go.Proofs.YtlilommhdjdblaaDoor
