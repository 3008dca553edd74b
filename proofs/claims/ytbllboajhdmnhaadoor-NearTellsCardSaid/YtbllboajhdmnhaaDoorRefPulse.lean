/- The document's answers, walked (chapter 6): of how many pulses a row is, its rank. -/
import Derived.Test.YtbllboajhdmnhaaDoorPulse3
import Derived.Test.YtbllboajhdmnhaaDoorRef1
import Derived.Test.YtbllboajhdmnhaaDoorRefCount
namespace Go.Proofs.YtbllboajhdmnhaaDoor
open Go.RowKit

theorem rloud_any (A : Option Addr) (n c : Nat) (v : List Int) (w : World) (B : Nat) (h : RdI w B A n v) (hb : Ph.allIn v 8000 = true) (hn : n ≤ 1000) :
    Calls Tryd.prog 65 #[.slice A n c] w fun e w' => e = .returned (.int .i64 (Ph.loud v)) ∧ w = w' := by
  have HL := Lib.hid h.len
  have H := Lib.hid h
  have HA := Lib.hid hb
  clear h hb
  go_enter Tryd.func65, Tryd.ntmps65
  go_wp2_with fail
  go_loop [3, 4] (fun s i => ∃ k : Nat, k ≤ n ∧ i = .int .i64 k ∧ s = .int .i64 (Ph.loud (v.take k))) (fun _ i => n - (intOf i).toNat)
  case atStart => exact ⟨0, Nat.zero_le _, rfl, rfl⟩
  case round =>
    obtain ⟨k, hk, rfl, rfl⟩ := hrel
    by_cases hlt : k < n
    · obtain ⟨b, off, rfl, _, hc⟩ := H.out.at_ hlt
      have hbd := Ph.allIn_getD HA.out (by omega) k
      have hal : Ph.allIn (v.take k) 8000 = true := by
        rw [Ph.allIn_iff]; intro x hx; exact Ph.allIn_iff.1 HA.out x (List.mem_of_mem_take hx)
      have hl1 := Ph.loud_le hal
      have hl0 := Ph.loud_nonneg (v.take k)
      have hlen : (v.take k).length ≤ 1000 := by rw [List.length_take, HL.out]; omega
      obtain ⟨x, hx⟩ : ∃ x, x = v.getD k 0 := ⟨_, rfl⟩
      rw [← hx] at hc hbd
      have HE2 := Lib.hid (Ph.loud_snoc (v.take k) x)
      have HTS := Lib.hid (Ph.take_snoc v k (by rw [HL.out]; exact hlt))
      have hf0 := Ph.far_nonneg x
      have hf1 : Ph.far x ≤ 8000 := Ph.far_le.2 hbd
      have HF := Lib.hid fun W => rfar_any x W (by omega)
      obtain ⟨S, hS⟩ : ∃ S, S = Ph.loud (v.take k) := ⟨_, rfl⟩
      have hS2 : 0 ≤ S ∧ S ≤ 8000000 := by rw [hS]; omega
      obtain ⟨F, hF⟩ : ∃ F, F = Ph.far x := ⟨_, rfl⟩
      have HSS : Hid (Ph.loud (v.take (k + 1)) = S + F) := Lib.hid (by rw [HTS.out, ← hx, HE2.out, hS, hF])
      rw [← hS]
      rw [← hF] at HF hf0 hf1
      have k1 : IntKind.i64.wrap (S + F) = S + F := IntWalk.i64_in _ (by omega)
      have hlt' : (k : Int) < (n : Int) := by omega
      clear hl1 hl0 hx hS hF hal hlen
      go_wp2_with fail
      refine (HF.out _).mono ?_
      rintro e wk ⟨rfl, rfl⟩
      go_wp2_with fail
      go_round
      case rel => exact ⟨k + 1, by omega, by go_num, by rw [HSS.out]⟩
      case measure => simp [intOf]; omega
    · obtain rfl : k = n := by omega
      have hall : Hid (v.take k = v) := Lib.hid (List.take_of_length_le (by rw [HL.out]; omega))
      rw [hall.out]
      go_wp2_with fail
      go_ret
      exact ⟨rfl, rfl⟩
theorem rpulses_any (A : Option Addr) (n c : Nat) (v : List Int) (w : World) (B : Nat) (h : RdI w B A n v) (hn : n ≤ 100000000000000) :
    Calls Tryd.prog 15 #[.slice A n c] w fun e w' => e = .returned (.tuple #[.int .i64 (if Ph.pulsesErr v = 0 then Ph.loud v else 0), .int .i64 (Ph.pulsesErr v)]) ∧ w = w' := by
  have hl := h.len
  have H := Lib.hid h
  by_cases h6 : 6 < n
  · have e : Ph.pulsesErr v = 4 := by unfold Ph.pulsesErr; rw [if_pos (by omega)]
    rw [e, if_neg (by omega)]
    clear h e hl
    go_enter Tryd.func15, Tryd.ntmps15
    go_wp2_with fail
    go_ret2
    exact ⟨rfl, rfl⟩
  · have HA := Lib.hid fun W hW => rall_any A n c v 8 W B hW hn (by omega)
    cases ha : Ph.allIn v 8 with
    | false =>
      have e : Ph.pulsesErr v = 1 := by unfold Ph.pulsesErr; rw [if_neg (by omega), if_neg (by rw [ha]; simp)]
      rw [e, if_neg (by omega)]
      rw [ha] at HA
      clear h e hl ha
      go_enter Tryd.func15, Tryd.ntmps15
      go_wp2_with fail
      refine (HA.out _ H.out).mono ?_
      rintro e wk ⟨rfl, rfl⟩
      go_wp2_with fail
      go_ret2
      exact ⟨rfl, rfl⟩
    | true =>
      have HS := Lib.hid fun W hW => rloud_any A n c v W B hW (Ph.allIn_mono ha (by omega)) (by omega)
      have hE : Ph.pulsesErr v = if 8 < Ph.loud v then 4 else 0 := by unfold Ph.pulsesErr; rw [if_neg (by omega), if_pos ha]
      rw [hE]
      rw [ha] at HA
      obtain ⟨K, hK⟩ : ∃ K, K = Ph.loud v := ⟨_, rfl⟩
      rw [← hK] at HS ⊢
      clear h hl ha hE hK
      by_cases h8 : 8 < K
      · rw [if_pos h8, if_neg (by omega)]
        go_enter Tryd.func15, Tryd.ntmps15
        go_wp2_with fail
        refine (HA.out _ H.out).mono ?_
        rintro e wk ⟨rfl, rfl⟩
        go_wp2_with fail
        refine (HS.out _ H.out).mono ?_
        rintro e wk ⟨rfl, rfl⟩
        go_wp2_with fail
        go_ret2
        exact ⟨rfl, rfl⟩
      · rw [if_neg h8, if_pos rfl]
        go_enter Tryd.func15, Tryd.ntmps15
        go_wp2_with fail
        refine (HA.out _ H.out).mono ?_
        rintro e wk ⟨rfl, rfl⟩
        go_wp2_with fail
        refine (HS.out _ H.out).mono ?_
        rintro e wk ⟨rfl, rfl⟩
        go_wp2_with fail
        go_ret2
        exact ⟨rfl, rfl⟩
set_option maxHeartbeats 2000000 in
set_option maxRecDepth 100000 in
theorem rrank_any : ∀ (v : List Int) (A : Option Addr) (n c : Nat) (w : World) (B : Nat), RdI w B A n v → B ≤ w.heap.size → n ≤ c → Ph.pulsesErr v = 0 →
    Calls Tryd.prog 18 #[.slice A n c] w fun e w' => e = .returned (.int .i64 (Ph.rank v : Nat)) ∧ Below w.heap.size w w'
  | [], A, n, c, w, B, h, _, _, _ => by
    have hn : n = 0 := by have := h.len; simpa using this.symm
    subst hn
    have e : Ph.rank [] = 0 := rfl
    rw [e]
    clear h e
    go_enter Tryd.func18, Tryd.ntmps18
    go_wp2_with fail
    go_ret
    exact ⟨rfl, Below.refl _ _⟩
  | x :: v, A, n, c, w, B, h, hB, hc, h0 => by
    have hs := Ph.pulsesErr_zero.1 h0
    have hl := h.len
    obtain ⟨N, rfl⟩ : ∃ N, n = N + 1 := ⟨v.length, by rw [← hl]; rfl⟩
    have hvl : v.length = N := by simpa using hl
    have hcons := Ph.loudN_cons x v
    have hin := hs.2.1
    rw [Ph.allIn_cons, Bool.and_eq_true] at hin
    have hx8 := Ph.within_iff.1 hin.1
    have hK8 : Ph.loudN (x :: v) ≤ 8 := by have := Ph.loudN_int (x :: v); omega
    have hv0 : Ph.pulsesErr v = 0 := Ph.pulsesErr_zero.2 ⟨by have := hs.1; simp at this; omega, hin.2, by have := Ph.loudN_int v; have := Ph.loudN_int (x :: v); omega⟩
    have IH := Lib.hid fun A2 c2 W hW hBW hc2 => rrank_any v A2 N c2 W B hW hBW hc2 hv0
    have HS := Lib.hid fun W hW => rloud_any A (N + 1) c (x :: v) W B hW (Ph.allIn_mono hs.2.1 (by omega)) (by have := hs.1; omega)
    rw [← Ph.loudN_int] at HS
    have hr1 := Ph.rank_lt (x :: v)
    have hr2 := Ph.cnt_le (x :: v).length (Ph.loudN (x :: v)) hs.1 hK8
    have hrk : Ph.rank (x :: v) = Ph.upto v.length (Ph.farN x + Ph.loudN v) (x + (Ph.farN x + Ph.loudN v : Nat)).toNat + Ph.rank v := rfl
    rw [← hcons, hvl] at hrk
    have hN5 : N ≤ 5 := by have := hs.1; omega
    obtain ⟨b, off, rfl, hbb, hc1⟩ := h.at_ (k := 0) (by omega)
    have hc0 : w.cell? ⟨b, off, none⟩ = some (.int .i64 x) := hc1
    have hbl := Nat.lt_of_lt_of_le hbb hB
    have K1 := Lib.hid (And.intro hbl hc0)
    have H := Lib.hid h
    have hfx : Ph.farN x ≤ Ph.loudN (x :: v) := by omega
    obtain ⟨K, hK⟩ : ∃ K, K = Ph.loudN (x :: v) := ⟨_, rfl⟩
    rw [← hK] at HS hrk hr1 hr2 hK8 hfx
    obtain ⟨J, hJ⟩ : ∃ J, J = (x + (K : Nat)).toNat := ⟨_, rfl⟩
    rw [← hJ] at hrk
    obtain ⟨R, hR⟩ : ∃ R, R = Ph.rank (x :: v) := ⟨_, rfl⟩
    rw [← hR] at hrk hr1 ⊢
    have hJi : (J : Int) = x + K := by unfold Ph.farN at hfx; omega
    have hJ2 : J ≤ 2 * K := by unfold Ph.farN at hfx; omega
    obtain ⟨T, hT⟩ : ∃ T, T = Ph.rank v := ⟨_, rfl⟩
    rw [← hT] at IH hrk
    have hR5 : R ≤ 100000 := by omega
    have HRK := Lib.hid hrk
    have HUB := Lib.hid (Ph.upto_mono N K)
    clear h h0 hs hl hvl hcons hin hv0 hr1 hr2 hrk hc1 hc0 hbb hbl hfx hK hJ hR hT
    go_enter Tryd.func18, Tryd.ntmps18
    go_wp2_with fail
    refine (HS.out _ H.out).mono ?_
    rintro e wk ⟨rfl, rfl⟩
    go_wp2_with fail
    go_loopw [4, 5, 6] (fun r y _ wr => ∃ j : Nat, j ≤ J ∧ y = .int .i64 (-(K : Int) + (j : Int)) ∧ r = .int .i64 ((Ph.upto N K j : Nat) : Int) ∧ Below w.heap.size w wr) (fun _ y _ _ => (x - intOf y).toNat)
    case atStart => exact ⟨0, Nat.zero_le _, by simp, by simp [Ph.upto], Below.refl _ _⟩
    case round =>
      obtain ⟨j, hj, rfl, rfl, hbw⟩ := hrel
      rename World => wr
      have HBW := Lib.hid hbw
      have hc0 := (hbw.cell (p := ⟨b, off, none⟩) K1.out.1).trans K1.out.2
      clear hbw
      by_cases hjl : j < J
      · have hlt2 : -(K : Int) + (j : Int) < x := by omega
        have hF2 : (Ph.farN ((j : Int) - K) : Int) = Ph.far (-(K : Int) + (j : Int)) := by rw [Ph.farN_far]; congr 1; omega
        have HF2 : Hid (∀ W, Calls Tryd.prog 68 #[.int .i64 (-(K : Int) + (j : Int))] W fun e w' => e = .returned (.int .i64 (Ph.farN ((j : Int) - K) : Nat)) ∧ W = w') := Lib.hid fun W => by rw [hF2]; exact rfar_any _ W (by omega)
        have hG : Ph.farN ((j : Int) - K) ≤ K := by unfold Ph.farN; omega
        have hu1 : Ph.upto N K (j + 1) = Ph.upto N K j + Ph.cnt N (K - Ph.farN ((j : Int) - K)) := rfl
        have hu2 := HUB.out (j + 1) J (by omega)
        have hu3 := HRK.out
        obtain ⟨G, hGe⟩ : ∃ G, G = Ph.farN ((j : Int) - K) := ⟨_, rfl⟩
        rw [← hGe] at HF2 hG hu1
        have HA : Hid (∀ W, Calls Tryd.prog 20 #[.int .i64 N, .int .i64 ((K : Int) - (G : Int))] W fun e w' => e = .returned (.int .i64 (Ph.cnt N (K - G) : Nat)) ∧ Below W.heap.size W w') := Lib.hid fun W => by
          have := rcount_any N (K - G) W (by omega) (by omega)
          rw [show ((K - G : Nat) : Int) = (K : Int) - (G : Int) by omega] at this
          exact this
        obtain ⟨C, hC⟩ : ∃ C, C = Ph.cnt N (K - G) := ⟨_, rfl⟩
        rw [← hC] at HA hu1
        obtain ⟨U, hU⟩ : ∃ U, U = Ph.upto N K j := ⟨_, rfl⟩
        rw [← hU] at hu1
        have hb9 : U + C ≤ 100000 := by omega
        have HU1 := Lib.hid hu1
        rw [← hU]
        clear hF2 hu1 hu2 hu3 hGe hC hU
        go_wp2_with fail
        refine (HF2.out _).mono ?_
        rintro e w3 ⟨rfl, rfl⟩
        go_wp2_with fail
        refine (HA.out _).mono ?_
        rintro e w4 ⟨rfl, hb4⟩
        have HB4 := Lib.hid (below_on HBW.out hb4)
        clear hb4 HF2 HA
        go_wp2_with fail
        go_roundw
        case rel => exact ⟨j + 1, by omega, by go_num, by rw [HU1.out]; go_num, HB4.out⟩
        case measure => simp [intOf]; omega
      · obtain rfl : j = J := by omega
        have hge : ¬ (-(K : Int) + (j : Int) < x) := by omega
        have hrk := HRK.out
        obtain ⟨U, hU⟩ : ∃ U, U = Ph.upto N K j := ⟨_, rfl⟩
        rw [← hU] at hrk ⊢
        have hUT : U + T ≤ 100000 := by omega
        have HRU := Lib.hid hrk
        have HD := Lib.hid ((H.out.below (HBW.out.mono hB)).drop_if (k := 1) (cap := c) (by omega) hc)
        have hBW := Nat.le_trans hB HBW.out.size
        have hc1 : (1 : Int) ≤ (c : Int) := by omega
        have hN1 : N + 1 - 1 = N := by omega
        clear hrk hU HUB HRK
        by_cases hcc : c = 1
        · rw [if_pos hcc] at HD
          have HD2 : Hid (RdI wr B (some ⟨b, off, none⟩) N v) := Lib.hid HD.out
          clear HD
          go_wp2_with fail
          refine (IH.out _ _ _ HD2.out hBW (by omega)).mono ?_
          rintro e w5 ⟨rfl, hb5⟩
          have HB5 := Lib.hid (below_on HBW.out hb5)
          clear hb5
          go_wp2_with fail
          go_ret
          exact ⟨ret_int (by rw [HRU.out]; go_num), HB5.out⟩
        · rw [if_neg hcc] at HD
          have HD2 : Hid (RdI wr B (some ⟨b, off + 1, none⟩) N v) := Lib.hid (by simpa [Addr.add] using HD.out)
          clear HD
          go_wp2_with fail
          refine (IH.out _ _ _ HD2.out hBW (by omega)).mono ?_
          rintro e w5 ⟨rfl, hb5⟩
          have HB5 := Lib.hid (below_on HBW.out hb5)
          clear hb5
          go_wp2_with fail
          go_ret
          exact ⟨ret_int (by rw [HRU.out]; go_num), HB5.out⟩
end Go.Proofs.YtbllboajhdmnhaaDoor
