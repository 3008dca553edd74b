/- Walks: a row of signs checked (chapter 11), by the program and by the document. -/
import Derived.Test.YtapjnfhbjmeniaaRefScale
namespace Go.Proofs.Ytapjnfhbjmeniaa
open Go.RowKit

/-- What is wrong with shares, and a row of signs. -/
def hornErr (f l : List Int) : Int := if shErr f ≠ 0 then 3 else if 60 < l.length then 4 else Ph.rowErr f l
theorem rowErr_drop {f l : List Int} {k : Nat} (hk : k < l.length) :
    Ph.rowErr f (l.drop k) = if l.getD k 0 < 0 ∨ (f.length : Int) ≤ l.getD k 0 then 1 else if f.getD (l.getD k 0).toNat 0 = 0 then 5 else Ph.rowErr f (l.drop (k + 1)) := by
  have e : l.drop k = l.getD k 0 :: l.drop (k + 1) := by
    rw [List.getD_eq_getElem?_getD, List.getElem?_eq_getElem hk]; exact List.drop_eq_getElem_cons hk
  rw [e, Ph.rowErr]
set_option maxHeartbeats 1000000 in
theorem hcheck_any (A1 : Option Addr) (n1 c1 : Nat) (f : List Int) (A2 : Option Addr) (n2 c2 : Nat) (l : List Int) (w : World) (B : Nat) (h1 : RdI w B A1 n1 f) (h2 : RdI w B A2 n2 l) (hn1 : n1 ≤ 100000000000000) :
    Calls Try.prog 46 #[.slice A1 n1 c1, .slice A2 n2 c2] w fun e w' => e = .returned (errV (hornErr f l)) ∧ w = w' := by
  have HC := Lib.hid fun W hW => shcheck_any A1 n1 c1 f W B hW hn1
  have hl1 := h1.len
  have hl2 := h2.len
  have H1 := Lib.hid h1
  have H2 := Lib.hid h2
  rcases shErr_two f with h0 | h0
  · by_cases h60 : 60 < n2
    · have e : hornErr f l = 4 := by unfold hornErr; rw [if_neg (by omega), if_pos (by omega)]
      rw [e, errV_ne (by omega)]
      rw [h0, errV_zero] at HC
      clear h1 h2 e h0 hl1 hl2
      go_enter Try.func46, Try.ntmps46
      go_wp2_with fail
      refine (HC.out _ H1.out).mono ?_
      rintro e wk ⟨rfl, rfl⟩
      go_wp2_with fail
      go_ret
      exact ⟨rfl, rfl⟩
    · have HE : Hid (hornErr f l = Ph.rowErr f l) := Lib.hid (by unfold hornErr; rw [if_neg (by omega), if_neg (by omega)])
      obtain ⟨E, hE⟩ : ∃ E, E = hornErr f l := ⟨_, rfl⟩
      rw [← hE] at HE ⊢
      rw [h0, errV_zero] at HC
      have HL1 := Lib.hid hl1
      have HL2 := Lib.hid hl2
      clear h1 h2 h0 hl1 hl2 hE
      go_enter Try.func46, Try.ntmps46
      go_wp2_with fail
      refine (HC.out _ H1.out).mono ?_
      rintro e wk ⟨rfl, rfl⟩
      go_wp2_with fail
      go_loop [7, 19, 23, 33] (fun _ i _ _ => ∃ k : Nat, k ≤ n2 ∧ i = .int .i64 k ∧ Hid (Ph.rowErr f (l.drop k) = E)) (fun _ i _ _ => n2 - (intOf i).toNat)
      case atStart => exact ⟨0, Nat.zero_le _, rfl, Lib.hid (by rw [List.drop_zero]; exact HE.out.symm)⟩
      case round =>
        obtain ⟨k, hk, rfl, HK⟩ := hrel
        by_cases hlt : k < n2
        · obtain ⟨b, off, rfl, _, hc⟩ := H2.out.at_ hlt
          have hst := rowErr_drop (f := f) (l := l) (k := k) (by rw [HL2.out]; exact hlt)
          rw [HK.out, HL1.out] at hst
          obtain ⟨x, hx⟩ : ∃ x, x = l.getD k 0 := ⟨_, rfl⟩
          rw [← hx] at hc hst
          have HS := Lib.hid hst
          have hlt' : (k : Int) < (n2 : Int) := by omega
          clear hx hst
          by_cases hx0 : x < 0
          · have hE1 : E = 1 := by rw [HS.out, if_pos (.inl hx0)]
            have HQ := Lib.hid hE1
            clear HS HK HE hE1
            go_wp2_with fail
            go_ret
            exact ⟨ret_val (by rw [HQ.out]; exact (errV_ne (by omega)).symm), rfl⟩
          · by_cases hxn : (n1 : Int) ≤ x
            · have hE1 : E = 1 := by rw [HS.out, if_pos (.inr hxn)]
              have HQ := Lib.hid hE1
              clear HS HK HE hE1
              go_wp2_with fail
              go_ret
              exact ⟨ret_val (by rw [HQ.out]; exact (errV_ne (by omega)).symm), rfl⟩
            · obtain ⟨X, rfl⟩ := Int.eq_ofNat_of_zero_le (by omega : 0 ≤ x)
              obtain ⟨b1, o1, rfl, _, hc1⟩ := H1.out.at_ (k := X) (by omega)
              have hst2 := HS.out
              rw [if_neg (by omega), Int.toNat_natCast] at hst2
              obtain ⟨y, hy⟩ : ∃ y, y = f.getD X 0 := ⟨_, rfl⟩
              rw [← hy] at hc1 hst2
              have hX1 : (X : Int) < (n1 : Int) := by omega
              have hX0 : (0 : Int) ≤ (X : Int) := by omega
              clear hy HS
              by_cases hy0 : y = 0
              · have hE5 : E = 5 := by rw [hst2, if_pos hy0]
                have hyb : (y == 0) = true := by simp [hy0]
                have HQ := Lib.hid hE5
                clear hst2 HK HE hE5 hy0
                go_wp2_with fail
                go_ret
                exact ⟨ret_val (by rw [HQ.out]; exact (errV_ne (by omega)).symm), rfl⟩
              · rw [if_neg hy0] at hst2
                have HN := Lib.hid hst2
                have hyb : (y == 0) = false := by simp [hy0]
                clear hst2 hy0
                go_wp2_with fail
                go_round
                case rel => exact ⟨k + 1, by omega, by go_num, Lib.hid HN.out.symm⟩
                case measure => simp [intOf]; omega
        · have hE0 : E = 0 := by
            have := HK.out
            rw [List.drop_of_length_le (by rw [HL2.out]; omega)] at this
            exact this.symm
          have HQ := Lib.hid hE0
          clear HK HE hE0
          go_wp2_with fail
          go_ret
          exact ⟨ret_val (by rw [HQ.out]; rfl), rfl⟩
  · have e : hornErr f l = 3 := by unfold hornErr; rw [if_pos (by omega)]
    rw [e, errV_ne (by omega)]
    rw [h0, errV_ne (by omega)] at HC
    clear h1 h2 e h0 hl1 hl2
    go_enter Try.func46, Try.ntmps46
    go_wp2_with fail
    refine (HC.out _ H1.out).mono ?_
    rintro e wk ⟨rfl, rfl⟩
    go_wp2_with fail
    go_ret
    exact ⟨rfl, rfl⟩
end Go.Proofs.Ytapjnfhbjmeniaa
