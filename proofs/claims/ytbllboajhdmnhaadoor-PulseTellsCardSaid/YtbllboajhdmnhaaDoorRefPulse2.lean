/- The document's answers, walked (chapter 6): the row of a rank. -/
import Derived.Test.YtbllboajhdmnhaaDoorRefPulse
namespace Go.Proofs.YtbllboajhdmnhaaDoor
open Go.RowKit

set_option maxHeartbeats 2000000 in
set_option maxRecDepth 100000 in
theorem rrow_any : ∀ (n K R : Nat) (w : World), n ≤ 6 → K ≤ 8 → R < Ph.cnt n K →
    Calls Tryd.prog 21 #[.int .i64 n, .int .i64 K, .int .i64 R] w fun e w' => ∃ A c, e = .returned (.slice A n c) ∧ (A = none → c = 0) ∧ RdI w' w'.heap.size A n (Ph.rowOf n K R) ∧ Below w.heap.size w w'
  | 0, K, R, w, _, _, _ => by
    show Calls Tryd.prog 21 #[.int .i64 0, .int .i64 K, .int .i64 R] w _
    have e : Ph.rowOf 0 K R = [] := rfl
    rw [e]
    clear e
    go_enter Tryd.func21, Tryd.ntmps21
    go_wp2_with fail
    go_ret
    exact ⟨none, 0, rfl, fun _ => rfl, RdI.nil, Below.refl _ _⟩
  | N + 1, K, R, w, hn, hK8, hR => by
    have IH := Lib.hid fun K2 R2 W hK2 hR2 => rrow_any N K2 R2 W (by omega) hK2 hR2
    have HRC := Lib.hid hR
    have hR9 : R ≤ 100000 := by have := Ph.cnt_le (N + 1) K hn hK8; omega
    have hN5 : N ≤ 5 := by omega
    rw [show ((N + 1 : Nat) : Int) = (N : Int) + 1 from by simp]
    have hn1 : ((N : Int) + 1 == 0) = false := by simp; omega
    have HCT : Hid (∀ (G : Nat), G ≤ K → ∀ W, Calls Tryd.prog 20 #[.int .i64 N, .int .i64 ((K : Int) - (G : Int))] W fun e w' => e = .returned (.int .i64 (Ph.cnt N (K - G) : Nat)) ∧ Below W.heap.size W w') := Lib.hid fun G hG W => by
      have := rcount_any N (K - G) W (by omega) (by omega)
      rw [show ((K - G : Nat) : Int) = (K : Int) - (G : Int) by omega] at this
      exact this
    have HFR : Hid (∀ j : Nat, j ≤ 2 * K → ∀ W, Calls Tryd.prog 68 #[.int .i64 (-(K : Int) + (j : Int))] W fun e w' => e = .returned (.int .i64 (Ph.farN ((j : Int) - K) : Nat)) ∧ W = w') := Lib.hid fun j hj W => by
      rw [show (Ph.farN ((j : Int) - K) : Int) = Ph.far (-(K : Int) + (j : Int)) by rw [Ph.farN_far]; congr 1; omega]
      exact rfar_any _ W (by omega)
    clear hR
    have hF0 := HFR.out 0 (by omega)
    rw [show (-(K : Int) + ((0 : Nat) : Int)) = -(K : Int) by omega] at hF0
    have hG0 : Ph.farN (((0 : Nat) : Int) - K) ≤ K := by unfold Ph.farN; omega
    have hA0 := HCT.out _ hG0
    obtain ⟨G0, hGe⟩ : ∃ G, G = Ph.farN (((0 : Nat) : Int) - K) := ⟨_, rfl⟩
    rw [← hGe] at hF0 hG0 hA0
    have HF0 := Lib.hid hF0
    have HA0 := Lib.hid hA0
    obtain ⟨C0, hC0⟩ : ∃ C, C = Ph.cnt N (K - G0) := ⟨_, rfl⟩
    rw [← hC0] at HA0
    have HC0 : Hid (C0 = Ph.cnt N (K - Ph.farN (((0 : Nat) : Int) - K))) := Lib.hid (by rw [hC0, hGe])
    clear hF0 hA0 hGe hC0
    go_enter Tryd.func21, Tryd.ntmps21
    go_wp2_with fail
    refine (HF0.out _).mono ?_
    rintro e wk ⟨rfl, rfl⟩
    go_wp2_with fail
    refine (HA0.out _).mono ?_
    rintro e w1 ⟨rfl, hb1⟩
    have HB1 := Lib.hid hb1
    clear hb1 HF0 HA0
    go_wp2_with fail
    go_loopw [2, 7, 8] (fun r x c wr => ∃ (j C D : Nat), j ≤ 2 * K ∧ x = .int .i64 (-(K : Int) + (j : Int)) ∧ c = .int .i64 C ∧ r = .int .i64 D ∧ Hid (C = Ph.cnt N (K - Ph.farN ((j : Int) - K)) ∧ Ph.upto N K j ≤ R ∧ D = R - Ph.upto N K j) ∧ D ≤ 100000 ∧ C ≤ 100000 ∧ Below w.heap.size w wr) (fun _ x _ _ => (2 * (K : Int) - (intOf x + K)).toNat)
    case atStart => exact ⟨0, C0, R, by omega, by simp, rfl, rfl, Lib.hid ⟨HC0.out, by simp [Ph.upto], by simp [Ph.upto]⟩, hR9, by rw [HC0.out]; exact Ph.cnt_le _ _ (by omega) (by omega), HB1.out⟩
    case round =>
      obtain ⟨j, C, D, hj, rfl, rfl, rfl, HI, hD9, hC9, hbw⟩ := hrel
      rename World => wr
      have HBW := Lib.hid hbw
      clear hbw HB1
      have hu1 : Hid (Ph.upto N K (j + 1) = Ph.upto N K j + Ph.cnt N (K - Ph.farN ((j : Int) - K))) := Lib.hid rfl
      rcases Nat.lt_or_ge D C with hDC | hDC
      · have hI := HI.out
        have hst := rowOf_step (N := N) (K := K) (R := R) (j := j) hI.2.1 (by rw [hu1.out, ← hI.1]; omega) HRC.out
        have hrk : D < Ph.cnt N (K - Ph.farN ((j : Int) - K)) := by rw [← hI.1]; exact hDC
        rw [← hI.2.2] at hst
        have HF := Lib.hid (HFR.out j hj)
        have hG : Ph.farN ((j : Int) - K) ≤ K := by unfold Ph.farN; omega
        have HIH := Lib.hid fun W => IH.out (K - Ph.farN ((j : Int) - K)) D W (by omega) hrk
        obtain ⟨G, hGe⟩ : ∃ G, G = Ph.farN ((j : Int) - K) := ⟨_, rfl⟩
        rw [← hGe] at HF HIH hst hG
        have hkg : ((K - G : Nat) : Int) = (K : Int) - (G : Int) := by omega
        rw [hkg] at HIH
        have HST := Lib.hid hst
        have hge : ¬ (C : Int) ≤ (D : Int) := by omega
        obtain ⟨Y, hY⟩ : ∃ Y, Y = Ph.rowOf N (K - G) D := ⟨_, rfl⟩
        rw [← hY] at HIH HST
        clear hI hst hrk hGe hkg hY
        go_wp2_with (at_builtin; refine wpList_push _ (by rfl) _ _ (by rfl) w w.heap.size none 0 0 [] (-(K : Int) + (j : Int)) (own_nil _ _ _) HBW.out HBW.out.size (by omega) (by rfl) (by rfl) ?_; intro g cap w5 ho5 hb5; rw [List.nil_append] at ho5; have HO5 := Lib.hid ho5; have HB5 := Lib.hid hb5; clear ho5 hb5)
        refine (HF.out _).mono ?_
        rintro e wk ⟨rfl, rfl⟩
        go_wp2_with fail
        refine (HIH.out _).mono ?_
        rintro e w6 ⟨A6, c6, rfl, hnil, hr6, hb6⟩
        have HR6 := Lib.hid hr6
        have HN6 := Lib.hid hnil
        have HO6 := Lib.hid (own_below' HO5.out hb6)
        have HB6 := Lib.hid (below_on HB5.out hb6)
        clear hr6 hnil hb6 HO5 HB5
        go_wp2_with (at_builtin; refine wpList_join _ (by rfl) _ _ (by rfl) w w.heap.size _ 1 _ _ A6 N c6 _ w6.heap.size HO6.out HB6.out HB6.out.size HR6.out HN6.out (by omega) (by rfl) (by rfl) ?_; intro A7 c7 w7 ho7 hb7)
        have HO7 := Lib.hid ho7
        have HB7 := Lib.hid hb7
        clear ho7 hb7
        go_wp2_with fail
        go_ret
        have e1 : 1 + N = N + 1 := by omega
        refine ⟨A7, c7, by rw [← e1]; rfl, own_none HO7.out, ?_, HB7.out⟩
        have := RdI.own HO7.out
        rw [HST.out, ← e1]
        have e2 : (j : Int) - (K : Int) = -(K : Int) + (j : Int) := by omega
        rw [e2]
        exact this
      · have hI := HI.out
        have hj1 : j + 1 ≤ 2 * K := by
          rcases Nat.lt_or_ge (2 * K) (j + 1) with h1 | h1
          · have h2 : j = 2 * K := by omega
            have h3 := hu1.out
            rw [← hI.1, h2, Ph.upto_all] at h3
            have := HRC.out
            have h4 := hI.2.1
            have h5 := hI.2.2
            rw [h2] at h4 h5
            omega
          · exact h1
        have HF := Lib.hid (HFR.out (j + 1) hj1)
        rw [show (-(K : Int) + ((j + 1 : Nat) : Int)) = -(K : Int) + (j : Int) + 1 by omega] at HF
        have hG : Ph.farN (((j + 1 : Nat) : Int) - K) ≤ K := by unfold Ph.farN; omega
        have HA := Lib.hid (HCT.out _ hG)
        have hC2 := Ph.cnt_le N (K - Ph.farN (((j + 1 : Nat) : Int) - K)) (by omega) (by omega)
        have HI2 : Hid (Ph.upto N K (j + 1) ≤ R ∧ D - C = R - Ph.upto N K (j + 1)) := Lib.hid (by rw [hu1.out, ← hI.1]; omega)
        obtain ⟨G, hGe⟩ : ∃ G, G = Ph.farN (((j + 1 : Nat) : Int) - K) := ⟨_, rfl⟩
        rw [← hGe] at HF HA hG hC2
        have HGe := Lib.hid hGe
        obtain ⟨C2, hC2e⟩ : ∃ C, C = Ph.cnt N (K - G) := ⟨_, rfl⟩
        rw [← hC2e] at HA hC2
        have HC2 := Lib.hid hC2e
        have hge : (C : Int) ≤ (D : Int) := by omega
        have hdc : (D : Int) - (C : Int) = ((D - C : Nat) : Int) := by omega
        have HDC := Lib.hid hdc
        clear hI hGe hC2e hdc
        go_wp2_with fail
        refine (HF.out _).mono ?_
        rintro e wk ⟨rfl, rfl⟩
        go_wp2_with fail
        refine (HA.out _).mono ?_
        rintro e w4 ⟨rfl, hb4⟩
        have HB4 := Lib.hid (below_on HBW.out hb4)
        clear hb4 HA HF
        go_wp2_with fail
        go_roundw
        case rel => exact ⟨j + 1, C2, D - C, hj1, by go_num, rfl, congrArg (Value.int .i64) HDC.out, Lib.hid ⟨by rw [HC2.out, HGe.out], HI2.out.1, HI2.out.2⟩, by omega, hC2, HB4.out⟩
        case measure => simp [intOf]; omega
end Go.Proofs.YtbllboajhdmnhaaDoor
