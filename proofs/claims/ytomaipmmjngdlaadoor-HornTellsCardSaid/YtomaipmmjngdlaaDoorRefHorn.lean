/- The document's answers, walked (chapter 11): the fault of shares, and a row of signs. -/
import Derived.Test.YtomaipmmjngdlaaDoorHorn
namespace Go.Proofs.YtomaipmmjngdlaaDoor
open Go.RowKit

set_option maxHeartbeats 1000000 in
theorem rhrow_any (A1 : Option Addr) (n1 c1 : Nat) (f : List Int) (A2 : Option Addr) (n2 c2 : Nat) (l : List Int) (w : World) (B : Nat) (h1 : RdI w B A1 n1 f) (h2 : RdI w B A2 n2 l) (hn1 : n1 ≤ 100000000000000) :
    Calls Tryd.prog 12 #[.slice A1 n1 c1, .slice A2 n2 c2] w fun e w' => e = .returned (.int .i64 (hornErr f l)) ∧ w = w' := by
  have HC := Lib.hid fun W hW => rshares_any A1 n1 c1 f W B hW hn1
  have hl1 := h1.len
  have hl2 := h2.len
  have H1 := Lib.hid h1
  have H2 := Lib.hid h2
  rcases shErr_two f with h0 | h0
  · rw [decide_eq_true h0] at HC
    by_cases h60 : 60 < n2
    · have e : hornErr f l = 4 := by unfold hornErr; rw [if_neg (by omega), if_pos (by omega)]
      rw [e]
      clear h1 h2 e h0 hl1 hl2
      go_enter Tryd.func12, Tryd.ntmps12
      go_wp2_with fail
      refine (HC.out _ H1.out).mono ?_
      rintro e wk ⟨rfl, rfl⟩
      go_wp2_with fail
      go_ret
      exact ⟨rfl, rfl⟩
    · have HE : Hid (hornErr f l = Ph.rowErr f l) := Lib.hid (by unfold hornErr; rw [if_neg (by omega), if_neg (by omega)])
      obtain ⟨E, hE⟩ : ∃ E, E = hornErr f l := ⟨_, rfl⟩
      rw [← hE] at HE ⊢
      have HL1 := Lib.hid hl1
      have HL2 := Lib.hid hl2
      clear h1 h2 h0 hl1 hl2 hE
      go_enter Tryd.func12, Tryd.ntmps12
      go_wp2_with fail
      refine (HC.out _ H1.out).mono ?_
      rintro e wk ⟨rfl, rfl⟩
      go_wp2_with fail
      go_loop [6] (fun i => ∃ k : Nat, k ≤ n2 ∧ i = .int .i64 k ∧ Hid (Ph.rowErr f (l.drop k) = E)) (fun i => n2 - (intOf i).toNat)
      case atStart => exact ⟨0, Nat.zero_le _, rfl, Lib.hid (by rw [List.drop_zero]; exact HE.out.symm)⟩
      case round =>
        obtain ⟨k, hk, rfl, HK⟩ := hrel
        by_cases hlt : k < n2
        · obtain ⟨b, off, rfl, _, hc⟩ := H2.out.at_ hlt
          have hst := rowErr_drop (f := f) (l := l) (k := k) (by rw [HL2.out]; exact hlt)
          rw [HK.out, HL1.out] at hst
          obtain ⟨x, hx⟩ : ∃ x, x = l.getD k 0 := ⟨_, rfl⟩
          rw [← hx] at hc hst
          have HS := Lib.hid hst
          have hlt' : (k : Int) < (n2 : Int) := by omega
          clear hx hst
          by_cases hx0 : x < 0
          · have HQ : Hid (E = 1) := Lib.hid (by rw [HS.out, if_pos (.inl hx0)])
            clear HS HK HE
            go_wp2_with fail
            go_ret
            exact ⟨ret_int (by rw [HQ.out]), rfl⟩
          · by_cases hxn : (n1 : Int) ≤ x
            · have HQ : Hid (E = 1) := Lib.hid (by rw [HS.out, if_pos (.inr hxn)])
              clear HS HK HE
              go_wp2_with fail
              go_ret
              exact ⟨ret_int (by rw [HQ.out]), rfl⟩
            · obtain ⟨X, rfl⟩ := Int.eq_ofNat_of_zero_le (by omega : 0 ≤ x)
              obtain ⟨b1, o1, rfl, _, hc1⟩ := H1.out.at_ (k := X) (by omega)
              have hst2 := HS.out
              rw [if_neg (by omega), Int.toNat_natCast] at hst2
              obtain ⟨y, hy⟩ : ∃ y, y = f.getD X 0 := ⟨_, rfl⟩
              rw [← hy] at hc1 hst2
              have hX1 : (X : Int) < (n1 : Int) := by omega
              have hX0 : (0 : Int) ≤ (X : Int) := by omega
              clear hy HS
              by_cases hy0 : y = 0
              · have HQ : Hid (E = 5) := Lib.hid (by rw [hst2, if_pos hy0])
                have hyb : (y == 0) = true := by simp [hy0]
                clear hst2 HK HE hy0
                go_wp2_with fail
                go_ret
                exact ⟨ret_int (by rw [HQ.out]), rfl⟩
              · rw [if_neg hy0] at hst2
                have HN := Lib.hid hst2
                have hyb : (y == 0) = false := by simp [hy0]
                clear hst2 hy0
                go_wp2_with fail
                go_round
                case rel => exact ⟨k + 1, by omega, by go_num, Lib.hid HN.out.symm⟩
                case measure => simp [intOf]; omega
        · have HQ : Hid (E = 0) := Lib.hid (by
            have := HK.out
            rw [List.drop_of_length_le (by rw [HL2.out]; omega)] at this
            exact this.symm)
          clear HK HE
          go_wp2_with fail
          go_ret
          exact ⟨ret_int (by rw [HQ.out]), rfl⟩
  · have e : hornErr f l = 3 := by unfold hornErr; rw [if_pos (by omega)]
    rw [e]
    rw [decide_eq_false (by omega)] at HC
    clear h1 h2 e h0 hl1 hl2
    go_enter Tryd.func12, Tryd.ntmps12
    go_wp2_with fail
    refine (HC.out _ H1.out).mono ?_
    rintro e wk ⟨rfl, rfl⟩
    go_wp2_with fail
    go_ret
    exact ⟨rfl, rfl⟩
end Go.Proofs.YtomaipmmjngdlaaDoor
