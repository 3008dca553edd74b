/- The package width there and back: plain facts about what it tells. -/
import Derived.Test.YtapjnfhbjmeniaaWidth4
namespace Go.Proofs.Ytapjnfhbjmeniaa
open Go.RowKit

theorem putErr_zero {l ws : List Int} (h : Ph.putErr l ws = 0) : l.length = ws.length ∧ (List.zipWith Ph.goes l ws).all id = true ∧ (Ph.spread l ws).length ≤ 400 := by
  unfold Ph.putErr at h
  by_cases h1 : l.length = ws.length
  · rw [if_neg (by omega)] at h
    by_cases h2 : (List.zipWith Ph.goes l ws).all id = true
    · rw [if_pos h2] at h
      by_cases h3 : 400 < (Ph.spread l ws).length
      · rw [if_pos h3] at h; omega
      · exact ⟨h1, h2, by omega⟩
    · rw [if_neg h2] at h; omega
  · rw [if_pos h1] at h; omega
theorem putErr_of {l ws : List Int} (h1 : l.length = ws.length) (h2 : (List.zipWith Ph.goes l ws).all id = true) (h3 : (Ph.spread l ws).length ≤ 400) : Ph.putErr l ws = 0 := by
  unfold Ph.putErr
  rw [if_neg (by omega), if_pos h2, if_neg (by omega)]
theorem goes_wide : ∀ {l ws : List Int}, l.length = ws.length → (List.zipWith Ph.goes l ws).all id = true → ∀ x ∈ ws, 0 ≤ x ∧ x ≤ 20
  | [], [], _, _ => fun x hx => by cases hx
  | [], _ :: _, h, _ => by simp at h
  | _ :: _, [], h, _ => by simp at h
  | n :: l, w :: ws, h, ha => by
    rw [List.zipWith_cons_cons, List.all_cons, Bool.and_eq_true] at ha
    intro x hx
    rcases List.mem_cons.1 hx with e | e
    · subst e
      have := ha.1
      unfold Ph.goes at this
      simp at this
      omega
    · exact goes_wide (by simpa using h) ha.2 x e
/-- Put, then Get. -/
theorem get_put {l ws : List Int} (h : Ph.putErr l ws = 0) : getErr (Ph.spread l ws) ws = 0 ∧ Ph.gather (Ph.spread l ws) ws = l := by
  obtain ⟨h1, h2, h3⟩ := putErr_zero h
  have hw := goes_wide h1 h2
  refine ⟨getErr_zero.2 ⟨bitsErr_zero.2 ⟨h3, Ph.spread_isBits _ _⟩, hw, ?_⟩, Ph.gather_spread _ _ h1 h2⟩
  exact (Ph.spread_length l ws h1 fun x hx => (hw x hx).1).symm
/-- Get, then Put. -/
theorem put_get {b ws : List Int} (h : getErr b ws = 0) : Ph.putErr (Ph.gather b ws) ws = 0 ∧ Ph.spread (Ph.gather b ws) ws = b := by
  obtain ⟨h1, h2, h3⟩ := getErr_zero.1 h
  have hb := bitsErr_zero.1 h1
  obtain ⟨e, ha⟩ := Ph.spread_gather ws b hb.2 h2 h3
  exact ⟨putErr_of (Ph.gather_length ws b) ha (by rw [e]; exact hb.1), e⟩
/-- Octets, then Bits. -/
theorem bits_octets {b : List Int} (h : bitsErr b = 0) : wbitsErr (bytesOf (octS b)) b.length = 0 ∧ wbitsL (bytesOf (octS b)) b.length = b ∧ (octS b).size ≤ 1000 := by
  have hb := bitsErr_zero.1 h
  have ho : bytesOf (octS b) = Ph.packed b := by unfold octS; rw [if_pos h, bytesOf_strB (Ph.packed_lt hb.2)]
  have hs : (octS b).size ≤ 1000 := by rw [← bytesOf_length, ho, Ph.packed_length]; omega
  have hop := Ph.opened_packed b.length b (Nat.le_refl _) hb.2
  have hE : wbitsErr (bytesOf (octS b)) b.length = 0 := by
    unfold wbitsErr
    rw [if_neg (by omega), ho, if_neg (by rw [Ph.packed_length]; omega), hop, Int.toNat_natCast, List.drop_left, if_neg]
    intro hc
    have := List.eq_of_mem_replicate (List.contains_iff_mem.1 hc)
    omega
  refine ⟨hE, ?_, hs⟩
  unfold wbitsL
  rw [if_pos hE, ho, hop, Int.toNat_natCast, List.take_left]
theorem opened_isBits (b : List Nat) : Ph.isBits (Ph.opened b) := fun x hx => by
  unfold Ph.opened at hx
  obtain ⟨y, _, hy⟩ := List.mem_flatMap.1 hx
  exact Ph.bitsW_bit _ _ _ hy
/-- Bits, then Octets. -/
theorem octets_bits {s : ByteArray} {m : Int} (h : wbitsErr (bytesOf s) m = 0) : bitsErr (wbitsL (bytesOf s) m) = 0 ∧ octS (wbitsL (bytesOf s) m) = s ∧ ((wbitsL (bytesOf s) m).length : Int) = m := by
  have h' := h
  unfold wbitsErr at h
  by_cases h1 : m < 0 ∨ 400 < m
  · rw [if_pos h1] at h; omega
  · rw [if_neg h1] at h
    by_cases h2 : ((bytesOf s).length : Int) ≠ (m + 7) / 8
    · rw [if_pos h2] at h; omega
    · rw [if_neg h2] at h
      by_cases h3 : ((Ph.opened (bytesOf s)).drop m.toNat).contains 1 = true
      · rw [if_pos h3] at h; omega
      · have hL : wbitsL (bytesOf s) m = (Ph.opened (bytesOf s)).take m.toNat := by unfold wbitsL; rw [if_pos h']
        have hol := Ph.opened_length (bytesOf s)
        have hlen : ((wbitsL (bytesOf s) m).length : Int) = m := by rw [hL, List.length_take]; omega
        have hib := opened_isBits (bytesOf s)
        have hE : bitsErr (wbitsL (bytesOf s) m) = 0 := bitsErr_zero.2 ⟨by omega, by rw [hL]; exact fun x hx => hib x (List.mem_of_mem_take hx)⟩
        refine ⟨hE, ?_, hlen⟩
        unfold octS
        rw [if_pos hE, hL, Ph.packed_opened (bytesOf s) m.toNat (bytesOf_lt s) (by omega) (fun x hx => ?_), strB_bytesOf]
        rcases hib x (List.mem_of_mem_drop hx) with e | e
        · exact e
        · subst e; exact absurd (List.contains_iff_mem.2 hx) h3
theorem own_capM {w : World} {base : Nat} {e : TypeId} {A : Option Addr} {n c : Nat} {xs : List Value} (h : w.ownsRow base e 1 (.slice A n c) n xs) : c ≤ 9223372036854775807 := by
  rcases h.2 with ⟨hv, _⟩ | ⟨g, cap, cur, hv, _, _, _, hm, _⟩
  · injection hv with _ _ h3; omega
  · injection hv with _ _ h3
    unfold maxLen at hm
    omega
/-- What is told, opened. -/
theorem ToldL.any {E : Int} {l : List Int} {w w' : World} {e : Ending} (h : ToldL 3 E l w e w') : ∃ A n c, e = .returned (.tuple #[.slice A n c, errV E]) ∧ n = l.length ∧ (n ≤ c ∧ c ≤ 9223372036854775807) ∧ RdI w' w'.heap.size A n l ∧ Below w.heap.size w w' := by
  obtain ⟨A, c, he, ho, hb⟩ := h
  exact ⟨A, l.length, c, he, rfl, ⟨own_cap ho, own_capM ho⟩, RdI.own ho, hb⟩
end Go.Proofs.Ytapjnfhbjmeniaa
