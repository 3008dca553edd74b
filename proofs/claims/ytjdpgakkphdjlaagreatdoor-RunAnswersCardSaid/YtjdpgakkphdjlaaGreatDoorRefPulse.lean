/- The document's answers, walked (chapter 6): of how many pulses a row is, its rank. -/
import Derived.Test.YtjdpgakkphdjlaaGreatDoorPulse
import Derived.Test.YtjdpgakkphdjlaaGreatDoorRef1
import Derived.Test.YtjdpgakkphdjlaaGreatDoorRefCount
namespace Go.Proofs.YtjdpgakkphdjlaaGreatDoor
open Go.RowKit

theorem rloud_any (A : Option Addr) (n c : Nat) (v : List Int) (w : World) (B : Nat) (h : RdI w B A n v) (hb : Ph.allIn v 8000 = true) (hn : n ≤ 1000) :
    Calls Tryz.prog 23 #[.slice A n c] w fun e w' => e = .returned (.int .i64 (Ph.loud v)) ∧ w = w' := by
  have HL := Lib.hid h.len
  have H := Lib.hid h
  have HA := Lib.hid hb
  clear h hb
  go_enter Tryz.func23, Tryz.ntmps23
  go_wp2_with fail
  go_loop [3, 4] (fun s i => ∃ k : Nat, k ≤ n ∧ i = .int .i64 k ∧ s = .int .i64 (Ph.loud (v.take k))) (fun _ i => n - (intOf i).toNat)
  case atStart => exact ⟨0, Nat.zero_le _, rfl, rfl⟩
  case round =>
    obtain ⟨k, hk, rfl, rfl⟩ := hrel
    by_cases hlt : k < n
    · obtain ⟨b, off, rfl, _, hc⟩ := H.out.at_ hlt
      have hbd := Ph.allIn_getD HA.out (by omega) k
      have hal : Ph.allIn (v.take k) 8000 = true := by
        rw [Ph.allIn_iff]; intro x hx; exact Ph.allIn_iff.1 HA.out x (List.mem_of_mem_take hx)
      have hl1 := Ph.loud_le hal
      have hl0 := Ph.loud_nonneg (v.take k)
      have hlen : (v.take k).length ≤ 1000 := by rw [List.length_take, HL.out]; omega
      obtain ⟨x, hx⟩ : ∃ x, x = v.getD k 0 := ⟨_, rfl⟩
      rw [← hx] at hc hbd
      have HE2 := Lib.hid (Ph.loud_snoc (v.take k) x)
      have HTS := Lib.hid (Ph.take_snoc v k (by rw [HL.out]; exact hlt))
      have hf0 := Ph.far_nonneg x
      have hf1 : Ph.far x ≤ 8000 := Ph.far_le.2 hbd
      have HF := Lib.hid fun W => rfar_any x W (by omega)
      obtain ⟨S, hS⟩ : ∃ S, S = Ph.loud (v.take k) := ⟨_, rfl⟩
      have hS2 : 0 ≤ S ∧ S ≤ 8000000 := by rw [hS]; omega
      obtain ⟨F, hF⟩ : ∃ F, F = Ph.far x := ⟨_, rfl⟩
      have HSS : Hid (Ph.loud (v.take (k + 1)) = S + F) := Lib.hid (by rw [HTS.out, ← hx, HE2.out, hS, hF])
      rw [← hS]
      rw [← hF] at HF hf0 hf1
      have k1 : IntKind.i64.wrap (S + F) = S + F := IntWalk.i64_in _ (by omega)
      have hlt' : (k : Int) < (n : Int) := by omega
      clear hl1 hl0 hx hS hF hal hlen
      go_wp2_with fail
      refine (HF.out _).mono ?_
      rintro e wk ⟨rfl, rfl⟩
      go_wp2_with fail
      go_round
      case rel => exact ⟨k + 1, by omega, by go_num, by rw [HSS.out]⟩
      case measure => simp [intOf]; omega
    · obtain rfl : k = n := by omega
      have hall : Hid (v.take k = v) := Lib.hid (List.take_of_length_le (by rw [HL.out]; omega))
      rw [hall.out]
      go_wp2_with fail
      go_ret
      exact ⟨rfl, rfl⟩
theorem rpulses_any (A : Option Addr) (n c : Nat) (v : List Int) (w : World) (B : Nat) (h : RdI w B A n v) (hn : n ≤ 100000000000000) :
    Calls Tryz.prog 19 #[.slice A n c] w fun e w' => e = .returned (.tuple #[.int .i64 (if Ph.pulsesErr v = 0 then Ph.loud v else 0), .int .i64 (Ph.pulsesErr v)]) ∧ w = w' := by
  have hl := h.len
  have H := Lib.hid h
  by_cases h6 : 6 < n
  · have e : Ph.pulsesErr v = 4 := by unfold Ph.pulsesErr; rw [if_pos (by omega)]
    rw [e, if_neg (by omega)]
    clear h e hl
    go_enter Tryz.func19, Tryz.ntmps19
    go_wp2_with fail
    go_ret2
    exact ⟨rfl, rfl⟩
  · have HA := Lib.hid fun W hW => rall_any A n c v 8 W B hW hn (by omega)
    cases ha : Ph.allIn v 8 with
    | false =>
      have e : Ph.pulsesErr v = 1 := by unfold Ph.pulsesErr; rw [if_neg (by omega), if_neg (by rw [ha]; simp)]
      rw [e, if_neg (by omega)]
      rw [ha] at HA
      clear h e hl ha
      go_enter Tryz.func19, Tryz.ntmps19
      go_wp2_with fail
      refine (HA.out _ H.out).mono ?_
      rintro e wk ⟨rfl, rfl⟩
      go_wp2_with fail
      go_ret2
      exact ⟨rfl, rfl⟩
    | true =>
      have HS := Lib.hid fun W hW => rloud_any A n c v W B hW (Ph.allIn_mono ha (by omega)) (by omega)
      have hE : Ph.pulsesErr v = if 8 < Ph.loud v then 4 else 0 := by unfold Ph.pulsesErr; rw [if_neg (by omega), if_pos ha]
      rw [hE]
      rw [ha] at HA
      obtain ⟨K, hK⟩ : ∃ K, K = Ph.loud v := ⟨_, rfl⟩
      rw [← hK] at HS ⊢
      clear h hl ha hE hK
      by_cases h8 : 8 < K
      · rw [if_pos h8, if_neg (by omega)]
        go_enter Tryz.func19, Tryz.ntmps19
        go_wp2_with fail
        refine (HA.out _ H.out).mono ?_
        rintro e wk ⟨rfl, rfl⟩
        go_wp2_with fail
        refine (HS.out _ H.out).mono ?_
        rintro e wk ⟨rfl, rfl⟩
        go_wp2_with fail
        go_ret2
        exact ⟨rfl, rfl⟩
      · rw [if_neg h8, if_pos rfl]
        go_enter Tryz.func19, Tryz.ntmps19
        go_wp2_with fail
        refine (HA.out _ H.out).mono ?_
        rintro e wk ⟨rfl, rfl⟩
        go_wp2_with fail
        refine (HS.out _ H.out).mono ?_
        rintro e wk ⟨rfl, rfl⟩
        go_wp2_with fail
        go_ret2
        exact ⟨rfl, rfl⟩
set_option maxHeartbeats 2000000 in
set_option maxRecDepth 100000 in
theorem rrank_any : ∀ (v : List Int) (A : Option Addr) (n c : Nat) (w : World) (B : Nat), RdI w B A n v → B ≤ w.heap.size → n ≤ c → Ph.pulsesErr v = 0 →
    Calls Tryz.prog 20 #[.slice A n c] w fun e w' => e = .returned (.int .i64 (Ph.rank v : Nat)) ∧ Below w.heap.size w w'
  | [], A, n, c, w, B, h, _, _, _ => by
    have hn : n = 0 := by have := h.len; simpa using this.symm
    subst hn
    have e : Ph.rank [] = 0 := rfl
    rw [e]
    clear h e
    go_enter Tryz.func20, Tryz.ntmps20
    go_wp2_with fail
    go_ret
    exact ⟨rfl, Below.refl _ _⟩
  | x :: v, A, n, c, w, B, h, hB, hc, h0 => by
    have hs := Ph.pulsesErr_zero.1 h0
    have hl := h.len
    obtain ⟨N, rfl⟩ : ∃ N, n = N + 1 := ⟨v.length, by rw [← hl]; rfl⟩
    have hvl : v.length = N := by simpa using hl
    have hcons := Ph.loudN_cons x v
    have hin := hs.2.1
    rw [Ph.allIn_cons, Bool.and_eq_true] at hin
    have hx8 := Ph.within_iff.1 hin.1
    have hK8 : Ph.loudN (x :: v) ≤ 8 := by have := Ph.loudN_int (x :: v); omega
    have hv0 : Ph.pulsesErr v = 0 := Ph.pulsesErr_zero.2 ⟨by have := hs.1; simp at this; omega, hin.2, by have := Ph.loudN_int v; have := Ph.loudN_int (x :: v); omega⟩
    have IH := Lib.hid fun A2 c2 W hW hBW hc2 => rrank_any v A2 N c2 W B hW hBW hc2 hv0
    have HS := Lib.hid fun W hW => rloud_any A (N + 1) c (x :: v) W B hW (Ph.allIn_mono hs.2.1 (by omega)) (by have := hs.1; omega)
    rw [← Ph.loudN_int] at HS
    have hr1 := Ph.rank_lt (x :: v)
    have hr2 := Ph.cnt_le (x :: v).length (Ph.loudN (x :: v)) hs.1 hK8
    have hrk : Ph.rank (x :: v) = Ph.upto v.length (Ph.farN x + Ph.loudN v) (x + (Ph.farN x + Ph.loudN v : Nat)).toNat + Ph.rank v := rfl
    rw [← hcons, hvl] at hrk
    have hN5 : N ≤ 5 := by have := hs.1; omega
    obtain ⟨b, off, rfl, hbb, hc1⟩ := h.at_ (k := 0) (by omega)
    have hc0 : w.cell? ⟨b, off, none⟩ = some (.int .i64 x) := hc1
    have hbl := Nat.lt_of_lt_of_le hbb hB
    have K1 := Lib.hid (And.intro hbl hc0)
    have H := Lib.hid h
    have hfx : Ph.farN x ≤ Ph.loudN (x :: v) := by omega
    obtain ⟨K, hK⟩ : ∃ K, K = Ph.loudN (x :: v) := ⟨_, rfl⟩
    rw [← hK] at HS hrk hr1 hr2 hK8 hfx
    obtain ⟨J, hJ⟩ : ∃ J, J = (x + (K : Nat)).toNat := ⟨_, rfl⟩
    rw [← hJ] at hrk
    obtain ⟨R, hR⟩ : ∃ R, R = Ph.rank (x :: v) := ⟨_, rfl⟩
    rw [← hR] at hrk hr1 ⊢
    have hJi : (J : Int) = x + K := by unfold Ph.farN at hfx; omega
    have hJ2 : J ≤ 2 * K := by unfold Ph.farN at hfx; omega
    obtain ⟨T, hT⟩ : ∃ T, T = Ph.rank v := ⟨_, rfl⟩
    rw [← hT] at IH hrk
    have hR5 : R ≤ 100000 := by omega
    have HRK := Lib.hid hrk
    have HUB := Lib.hid (Ph.upto_mono N K)
    clear h h0 hs hl hvl hcons hin hv0 hr1 hr2 hrk hc1 hc0 hbb hbl hfx hK hJ hR hT
    go_enter Tryz.func20, Tryz.ntmps20
    go_wp2_with fail
    refine (HS.out _ H.out).mono ?_
    rintro e wk ⟨rfl, rfl⟩
    go_wp2_with fail
    go_loopw [4, 5, 6] (fun r y _ wr => ∃ j : Nat, j ≤ J ∧ y = .int .i64 (-(K : Int) + (j : Int)) ∧ r = .int .i64 ((Ph.upto N K j : Nat) : Int) ∧ Below w.heap.size w wr) (fun _ y _ _ => (x - intOf y).toNat)
    case atStart => exact ⟨0, Nat.zero_le _, by simp, by simp [Ph.upto], Below.refl _ _⟩
    case round =>
      obtain ⟨j, hj, rfl, rfl, hbw⟩ := hrel
      rename World => wr
      have HBW := Lib.hid hbw
      have hc0 := (hbw.cell (p := ⟨b, off, none⟩) K1.out.1).trans K1.out.2
      clear hbw
      by_cases hjl : j < J
      · have hlt2 : -(K : Int) + (j : Int) < x := by omega
        have hF2 : (Ph.farN ((j : Int) - K) : Int) = Ph.far (-(K : Int) + (j : Int)) := by rw [Ph.farN_far]; congr 1; omega
        have HF2 : Hid (∀ W, Calls Tryz.prog 36 #[.int .i64 (-(K : Int) + (j : Int))] W fun e w' => e = .returned (.int .i64 (Ph.farN ((j : Int) - K) : Nat)) ∧ W = w') := Lib.hid fun W => by rw [hF2]; exact rfar_any _ W (by omega)
        have hG : Ph.farN ((j : Int) - K) ≤ K := by unfold Ph.farN; omega
        have hu1 : Ph.upto N K (j + 1) = Ph.upto N K j + Ph.cnt N (K - Ph.farN ((j : Int) - K)) := rfl
        have hu2 := HUB.out (j + 1) J (by omega)
        have hu3 := HRK.out
        obtain ⟨G, hGe⟩ : ∃ G, G = Ph.farN ((j : Int) - K) := ⟨_, rfl⟩
        rw [← hGe] at HF2 hG hu1
        have HA : Hid (∀ W, Calls Tryz.prog 18 #[.int .i64 N, .int .i64 ((K : Int) - (G : Int))] W fun e w' => e = .returned (.int .i64 (Ph.cnt N (K - G) : Nat)) ∧ Below W.heap.size W w') := Lib.hid fun W => by
          have := rcount_any N (K - G) W (by omega) (by omega)
          rw [show ((K - G : Nat) : Int) = (K : Int) - (G : Int) by omega] at this
          exact this
        obtain ⟨C, hC⟩ : ∃ C, C = Ph.cnt N (K - G) := ⟨_, rfl⟩
        rw [← hC] at HA hu1
        obtain ⟨U, hU⟩ : ∃ U, U = Ph.upto N K j := ⟨_, rfl⟩
        rw [← hU] at hu1
        have hb9 : U + C ≤ 100000 := by omega
        have HU1 := Lib.hid hu1
        rw [← hU]
        clear hF2 hu1 hu2 hu3 hGe hC hU
        go_wp2_with fail
        refine (HF2.out _).mono ?_
        rintro e w3 ⟨rfl, rfl⟩
        go_wp2_with fail
        refine (HA.out _).mono ?_
        rintro e w4 ⟨rfl, hb4⟩
        have HB4 := Lib.hid (below_on HBW.out hb4)
        clear hb4 HF2 HA
        go_wp2_with fail
        go_roundw
        case rel => exact ⟨j + 1, by omega, by go_num, by rw [HU1.out]; go_num, HB4.out⟩
        case measure => simp [intOf]; omega
      · obtain rfl : j = J := by omega
        have hge : ¬ (-(K : Int) + (j : Int) < x) := by omega
        have hrk := HRK.out
        obtain ⟨U, hU⟩ : ∃ U, U = Ph.upto N K j := ⟨_, rfl⟩
        rw [← hU] at hrk ⊢
        have hUT : U + T ≤ 100000 := by omega
        have HRU := Lib.hid hrk
        have HD := Lib.hid ((H.out.below (HBW.out.mono hB)).drop_if (k := 1) (cap := c) (by omega) hc)
        have hBW := Nat.le_trans hB HBW.out.size
        have hc1 : (1 : Int) ≤ (c : Int) := by omega
        have hN1 : N + 1 - 1 = N := by omega
        clear hrk hU HUB HRK
        by_cases hcc : c = 1
        · rw [if_pos hcc] at HD
          have HD2 : Hid (RdI wr B (some ⟨b, off, none⟩) N v) := Lib.hid HD.out
          clear HD
          go_wp2_with fail
          refine (IH.out _ _ _ HD2.out hBW (by omega)).mono ?_
          rintro e w5 ⟨rfl, hb5⟩
          have HB5 := Lib.hid (below_on HBW.out hb5)
          clear hb5
          go_wp2_with fail
          go_ret
          exact ⟨ret_int (by rw [HRU.out]; go_num), HB5.out⟩
        · rw [if_neg hcc] at HD
          have HD2 : Hid (RdI wr B (some ⟨b, off + 1, none⟩) N v) := Lib.hid (by simpa [Addr.add] using HD.out)
          clear HD
          go_wp2_with fail
          refine (IH.out _ _ _ HD2.out hBW (by omega)).mono ?_
          rintro e w5 ⟨rfl, hb5⟩
          have HB5 := Lib.hid (below_on HBW.out hb5)
          clear hb5
          go_wp2_with fail
          go_ret
          exact ⟨ret_int (by rw [HRU.out]; go_num), HB5.out⟩
end Go.Proofs.YtjdpgakkphdjlaaGreatDoor
/- The document's answers, walked (chapter 6): the row of a rank. -/
namespace Go.Proofs.YtjdpgakkphdjlaaGreatDoor
open Go.RowKit

set_option maxHeartbeats 2000000 in
set_option maxRecDepth 100000 in
theorem rrow_own : ∀ (n K R : Nat) (w : World), n ≤ 6 → K ≤ 8 → R < Ph.cnt n K →
    Calls Tryz.prog 21 #[.int .i64 n, .int .i64 K, .int .i64 R] w fun e w' => ∃ A c, e = .returned (.slice A n c) ∧ w'.ownsRow w.heap.size 3 1 (.slice A n c) n (ivals (Ph.rowOf n K R)) ∧ Below w.heap.size w w'
  | 0, K, R, w, _, _, _ => by
    show Calls Tryz.prog 21 #[.int .i64 0, .int .i64 K, .int .i64 R] w _
    have e : Ph.rowOf 0 K R = [] := rfl
    rw [e]
    clear e
    go_enter Tryz.func21, Tryz.ntmps21
    go_wp2_with fail
    go_ret
    exact ⟨none, 0, rfl, own_nil _ _ _, Below.refl _ _⟩
  | N + 1, K, R, w, hn, hK8, hR => by
    have IH := Lib.hid fun K2 R2 W hK2 hR2 => rrow_own N K2 R2 W (by omega) hK2 hR2
    have HRC := Lib.hid hR
    have hR9 : R ≤ 100000 := by have := Ph.cnt_le (N + 1) K hn hK8; omega
    have hN5 : N ≤ 5 := by omega
    rw [show ((N + 1 : Nat) : Int) = (N : Int) + 1 from by simp]
    have hn1 : ((N : Int) + 1 == 0) = false := by simp; omega
    have HCT : Hid (∀ (G : Nat), G ≤ K → ∀ W, Calls Tryz.prog 18 #[.int .i64 N, .int .i64 ((K : Int) - (G : Int))] W fun e w' => e = .returned (.int .i64 (Ph.cnt N (K - G) : Nat)) ∧ Below W.heap.size W w') := Lib.hid fun G hG W => by
      have := rcount_any N (K - G) W (by omega) (by omega)
      rw [show ((K - G : Nat) : Int) = (K : Int) - (G : Int) by omega] at this
      exact this
    have HFR : Hid (∀ j : Nat, j ≤ 2 * K → ∀ W, Calls Tryz.prog 36 #[.int .i64 (-(K : Int) + (j : Int))] W fun e w' => e = .returned (.int .i64 (Ph.farN ((j : Int) - K) : Nat)) ∧ W = w') := Lib.hid fun j hj W => by
      rw [show (Ph.farN ((j : Int) - K) : Int) = Ph.far (-(K : Int) + (j : Int)) by rw [Ph.farN_far]; congr 1; omega]
      exact rfar_any _ W (by omega)
    clear hR
    have hF0 := HFR.out 0 (by omega)
    rw [show (-(K : Int) + ((0 : Nat) : Int)) = -(K : Int) by omega] at hF0
    have hG0 : Ph.farN (((0 : Nat) : Int) - K) ≤ K := by unfold Ph.farN; omega
    have hA0 := HCT.out _ hG0
    obtain ⟨G0, hGe⟩ : ∃ G, G = Ph.farN (((0 : Nat) : Int) - K) := ⟨_, rfl⟩
    rw [← hGe] at hF0 hG0 hA0
    have HF0 := Lib.hid hF0
    have HA0 := Lib.hid hA0
    obtain ⟨C0, hC0⟩ : ∃ C, C = Ph.cnt N (K - G0) := ⟨_, rfl⟩
    rw [← hC0] at HA0
    have HC0 : Hid (C0 = Ph.cnt N (K - Ph.farN (((0 : Nat) : Int) - K))) := Lib.hid (by rw [hC0, hGe])
    clear hF0 hA0 hGe hC0
    go_enter Tryz.func21, Tryz.ntmps21
    go_wp2_with fail
    refine (HF0.out _).mono ?_
    rintro e wk ⟨rfl, rfl⟩
    go_wp2_with fail
    refine (HA0.out _).mono ?_
    rintro e w1 ⟨rfl, hb1⟩
    have HB1 := Lib.hid hb1
    clear hb1 HF0 HA0
    go_wp2_with fail
    go_loopw [2, 7, 8] (fun r x c wr => ∃ (j C D : Nat), j ≤ 2 * K ∧ x = .int .i64 (-(K : Int) + (j : Int)) ∧ c = .int .i64 C ∧ r = .int .i64 D ∧ Hid (C = Ph.cnt N (K - Ph.farN ((j : Int) - K)) ∧ Ph.upto N K j ≤ R ∧ D = R - Ph.upto N K j) ∧ D ≤ 100000 ∧ C ≤ 100000 ∧ Below w.heap.size w wr) (fun _ x _ _ => (2 * (K : Int) - (intOf x + K)).toNat)
    case atStart => exact ⟨0, C0, R, by omega, by simp, rfl, rfl, Lib.hid ⟨HC0.out, by simp [Ph.upto], by simp [Ph.upto]⟩, hR9, by rw [HC0.out]; exact Ph.cnt_le _ _ (by omega) (by omega), HB1.out⟩
    case round =>
      obtain ⟨j, C, D, hj, rfl, rfl, rfl, HI, hD9, hC9, hbw⟩ := hrel
      rename World => wr
      have HBW := Lib.hid hbw
      clear hbw HB1
      have hu1 : Hid (Ph.upto N K (j + 1) = Ph.upto N K j + Ph.cnt N (K - Ph.farN ((j : Int) - K))) := Lib.hid rfl
      rcases Nat.lt_or_ge D C with hDC | hDC
      · have hI := HI.out
        have hst := rowOf_step (N := N) (K := K) (R := R) (j := j) hI.2.1 (by rw [hu1.out, ← hI.1]; omega) HRC.out
        have hrk : D < Ph.cnt N (K - Ph.farN ((j : Int) - K)) := by rw [← hI.1]; exact hDC
        rw [← hI.2.2] at hst
        have HF := Lib.hid (HFR.out j hj)
        have hG : Ph.farN ((j : Int) - K) ≤ K := by unfold Ph.farN; omega
        have HIH := Lib.hid fun W => IH.out (K - Ph.farN ((j : Int) - K)) D W (by omega) hrk
        obtain ⟨G, hGe⟩ : ∃ G, G = Ph.farN ((j : Int) - K) := ⟨_, rfl⟩
        rw [← hGe] at HF HIH hst hG
        have hkg : ((K - G : Nat) : Int) = (K : Int) - (G : Int) := by omega
        rw [hkg] at HIH
        have HST := Lib.hid hst
        have hge : ¬ (C : Int) ≤ (D : Int) := by omega
        obtain ⟨Y, hY⟩ : ∃ Y, Y = Ph.rowOf N (K - G) D := ⟨_, rfl⟩
        rw [← hY] at HIH HST
        clear hI hst hrk hGe hkg hY
        go_wp2_with (at_builtin; refine wpList_push _ (by rfl) _ _ (by rfl) w w.heap.size none 0 0 [] (-(K : Int) + (j : Int)) (own_nil _ _ _) HBW.out HBW.out.size (by omega) (by rfl) (by rfl) ?_; intro g cap w5 ho5 hb5; rw [List.nil_append] at ho5; have HO5 := Lib.hid ho5; have HB5 := Lib.hid hb5; clear ho5 hb5)
        refine (HF.out _).mono ?_
        rintro e wk ⟨rfl, rfl⟩
        go_wp2_with fail
        refine (HIH.out _).mono ?_
        rintro e w6 ⟨A6, c6, rfl, ho6, hb6⟩
        have HR6 := Lib.hid (RdI.own ho6)
        have HN6 := Lib.hid (own_none ho6)
        have HO6 := Lib.hid (own_below' HO5.out hb6)
        have HB6 := Lib.hid (below_on HB5.out hb6)
        clear ho6 hb6 HO5 HB5
        go_wp2_with (at_builtin; refine wpList_join _ (by rfl) _ _ (by rfl) w w.heap.size _ 1 _ _ A6 N c6 _ w6.heap.size HO6.out HB6.out HB6.out.size HR6.out HN6.out (by omega) (by rfl) (by rfl) ?_; intro A7 c7 w7 ho7 hb7)
        have HO7 := Lib.hid ho7
        have HB7 := Lib.hid hb7
        clear ho7 hb7
        go_wp2_with fail
        go_ret
        have e1 : 1 + N = N + 1 := by omega
        refine ⟨A7, c7, by rw [← e1]; rfl, ?_, HB7.out⟩
        have := HO7.out
        rw [HST.out, ← e1]
        have e2 : (j : Int) - (K : Int) = -(K : Int) + (j : Int) := by omega
        rw [e2]
        exact this
      · have hI := HI.out
        have hj1 : j + 1 ≤ 2 * K := by
          rcases Nat.lt_or_ge (2 * K) (j + 1) with h1 | h1
          · have h2 : j = 2 * K := by omega
            have h3 := hu1.out
            rw [← hI.1, h2, Ph.upto_all] at h3
            have := HRC.out
            have h4 := hI.2.1
            have h5 := hI.2.2
            rw [h2] at h4 h5
            omega
          · exact h1
        have HF := Lib.hid (HFR.out (j + 1) hj1)
        rw [show (-(K : Int) + ((j + 1 : Nat) : Int)) = -(K : Int) + (j : Int) + 1 by omega] at HF
        have hG : Ph.farN (((j + 1 : Nat) : Int) - K) ≤ K := by unfold Ph.farN; omega
        have HA := Lib.hid (HCT.out _ hG)
        have hC2 := Ph.cnt_le N (K - Ph.farN (((j + 1 : Nat) : Int) - K)) (by omega) (by omega)
        have HI2 : Hid (Ph.upto N K (j + 1) ≤ R ∧ D - C = R - Ph.upto N K (j + 1)) := Lib.hid (by rw [hu1.out, ← hI.1]; omega)
        obtain ⟨G, hGe⟩ : ∃ G, G = Ph.farN (((j + 1 : Nat) : Int) - K) := ⟨_, rfl⟩
        rw [← hGe] at HF HA hG hC2
        have HGe := Lib.hid hGe
        obtain ⟨C2, hC2e⟩ : ∃ C, C = Ph.cnt N (K - G) := ⟨_, rfl⟩
        rw [← hC2e] at HA hC2
        have HC2 := Lib.hid hC2e
        have hge : (C : Int) ≤ (D : Int) := by omega
        have hdc : (D : Int) - (C : Int) = ((D - C : Nat) : Int) := by omega
        have HDC := Lib.hid hdc
        clear hI hGe hC2e hdc
        go_wp2_with fail
        refine (HF.out _).mono ?_
        rintro e wk ⟨rfl, rfl⟩
        go_wp2_with fail
        refine (HA.out _).mono ?_
        rintro e w4 ⟨rfl, hb4⟩
        have HB4 := Lib.hid (below_on HBW.out hb4)
        clear hb4 HA HF
        go_wp2_with fail
        go_roundw
        case rel => exact ⟨j + 1, C2, D - C, hj1, by go_num, rfl, congrArg (Value.int .i64) HDC.out, Lib.hid ⟨by rw [HC2.out, HGe.out], HI2.out.1, HI2.out.2⟩, by omega, hC2, HB4.out⟩
        case measure => simp [intOf]; omega
theorem rrow_any (n K R : Nat) (w : World) (hn : n ≤ 6) (hK : K ≤ 8) (hR : R < Ph.cnt n K) :
    Calls Tryz.prog 21 #[.int .i64 n, .int .i64 K, .int .i64 R] w fun e w' => ∃ A c, e = .returned (.slice A n c) ∧ (A = none → c = 0) ∧ RdI w' w'.heap.size A n (Ph.rowOf n K R) ∧ Below w.heap.size w w' := by
  refine (rrow_own n K R w hn hK hR).mono ?_
  rintro e w' ⟨A, c, rfl, ho, hb⟩
  exact ⟨A, c, rfl, own_none ho, RdI.own ho, hb⟩
end Go.Proofs.YtjdpgakkphdjlaaGreatDoor
