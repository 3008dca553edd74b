/- Walks: pulses, and their numbers (chapter 6). -/
import Derived.Test.YtjdpgakkphdjlaaGreatDoorCount
import Derived.Test.YtjdpgakkphdjlaaGreatDoorMem
namespace Go.Proofs.YtjdpgakkphdjlaaGreatDoor
open Go.RowKit

theorem pCheck_any (A : Option Addr) (n c : Nat) (v : List Int) (w : World) (B : Nat) (h : RdI w B A n v) (hB : B ≤ w.heap.size) (hn : n ≤ 100000000000000) :
    Calls Tryz.prog 65 #[.slice A n c] w fun e w' => e = .returned (.tuple #[.int .i64 (if Ph.pulsesErr v = 0 then Ph.loud v else 0), errV (Ph.pulsesErr v)]) ∧ Below w.heap.size w w' := by
  have hl := h.len
  have H := Lib.hid h
  clear h
  by_cases h6 : 6 < n
  · have e : Ph.pulsesErr v = 4 := by unfold Ph.pulsesErr; rw [if_pos (by omega)]
    rw [e, errV_ne (by omega), if_neg (by omega)]
    clear hl e
    go_enter Tryz.func65, Tryz.ntmps65
    go_wp2
    go_ret2
    exact ⟨rfl, Below.refl _ _⟩
  · cases ha : Ph.allIn v 8
    · have e : Ph.pulsesErr v = 1 := by unfold Ph.pulsesErr; rw [if_neg (by omega), if_neg (by simp [ha])]
      rw [e, errV_ne (by omega), if_neg (by omega)]
      have HA : Hid (∀ W, RdI W B A n v → B ≤ W.heap.size → Calls Tryz.prog 86 #[.slice A n c, .int .i64 8] W fun e w' => e = .returned (.bool false) ∧ Below W.heap.size W w') := Lib.hid fun W hW hBW => by rw [← ha]; exact all_any A n c v W B hW hBW 8 hn (by omega)
      clear hl e ha
      go_enter Tryz.func65, Tryz.ntmps65
      go_wp2_with fail
      refine (HA.out _ H.out hB).mono ?_
      rintro e w1 ⟨rfl, hb1⟩
      have HB1 := Lib.hid hb1
      clear hb1 HA
      go_wp2_with fail
      go_ret2
      exact ⟨rfl, HB1.out⟩
    · have HA : Hid (∀ W, RdI W B A n v → B ≤ W.heap.size → Calls Tryz.prog 86 #[.slice A n c, .int .i64 8] W fun e w' => e = .returned (.bool true) ∧ Below W.heap.size W w') := Lib.hid fun W hW hBW => by rw [← ha]; exact all_any A n c v W B hW hBW 8 hn (by omega)
      have hb := Ph.loud_le ha
      have h0 := Ph.loud_nonneg v
      have HS : Hid (∀ W, RdI W B A n v → Calls Tryz.prog 69 #[.slice A n c] W fun e w' => e = .returned (.int .i64 (Ph.loud v)) ∧ W = w') := Lib.hid fun W hW => sum_any A n c v W B hW (Ph.allIn_mono ha (by omega)) (by omega)
      have he : Ph.pulsesErr v = if 8 < Ph.loud v then 4 else 0 := by unfold Ph.pulsesErr; rw [if_neg (by omega), if_pos ha]
      rw [he]
      obtain ⟨L, hL⟩ : ∃ L, L = Ph.loud v := ⟨_, rfl⟩
      rw [← hL] at hb h0 HS ⊢
      rw [hl] at hb
      clear he hL ha hl
      by_cases h8 : 8 < L
      · rw [if_pos h8, errV_ne (by omega), if_neg (by omega)]
        go_enter Tryz.func65, Tryz.ntmps65
        go_wp2_with fail
        refine (HA.out _ H.out hB).mono ?_
        rintro e w1 ⟨rfl, hb1⟩
        have H1 := Lib.hid (H.out.below (hb1.mono hB))
        have HB1 := Lib.hid hb1
        clear hb1 HA
        go_wp2_with fail
        refine (HS.out _ H1.out).mono ?_
        rintro e w2 ⟨rfl, rfl⟩
        clear HS
        go_wp2_with fail
        go_ret2
        exact ⟨rfl, HB1.out⟩
      · rw [if_neg h8, errV_zero, if_pos rfl]
        go_enter Tryz.func65, Tryz.ntmps65
        go_wp2_with fail
        refine (HA.out _ H.out hB).mono ?_
        rintro e w1 ⟨rfl, hb1⟩
        have H1 := Lib.hid (H.out.below (hb1.mono hB))
        have HB1 := Lib.hid hb1
        clear hb1 HA
        go_wp2_with fail
        refine (HS.out _ H1.out).mono ?_
        rintro e w2 ⟨rfl, rfl⟩
        clear HS
        go_wp2_with fail
        go_ret2
        exact ⟨rfl, HB1.out⟩
end Go.Proofs.YtjdpgakkphdjlaaGreatDoor
/- Walks: pulses, their rank, and the row of a rank (chapter 6). -/
namespace Go.Proofs.YtjdpgakkphdjlaaGreatDoor
open Go.RowKit

theorem loudN_drop (v : List Int) (m : Nat) (h : m < v.length) : Ph.loudN (v.drop m) = Ph.farN (v.getD m 0) + Ph.loudN (v.drop (m + 1)) := by
  have e : v.drop m = v.getD m 0 :: v.drop (m + 1) := by
    rw [List.getD_eq_getElem?_getD, List.getElem?_eq_getElem h]; exact List.drop_eq_getElem_cons h
  rw [e, Ph.loudN_cons]
theorem rank_drop (v : List Int) (m : Nat) (h : m < v.length) : Ph.rank (v.drop m) = Ph.upto (v.length - m - 1) (Ph.loudN (v.drop m)) (v.getD m 0 + (Ph.loudN (v.drop m) : Nat)).toNat + Ph.rank (v.drop (m + 1)) := by
  have hl := loudN_drop v m h
  have e : v.drop m = v.getD m 0 :: v.drop (m + 1) := by
    rw [List.getD_eq_getElem?_getD, List.getElem?_eq_getElem h]; exact List.drop_eq_getElem_cons h
  rw [hl]
  conv => lhs; rw [e]
  simp only [Ph.rank, List.length_drop]
  rw [show v.length - (m + 1) = v.length - m - 1 by omega]
theorem loudN_drop_le (v : List Int) : ∀ m : Nat, Ph.loudN (v.drop m) ≤ Ph.loudN v
  | 0 => by simp
  | m + 1 => by
    rcases Nat.lt_or_ge m v.length with h | h
    · have := loudN_drop v m h
      have := loudN_drop_le v m
      omega
    · rw [List.drop_of_length_le (by omega)]; simp [Ph.loudN, Ph.loud]
theorem farN_le_drop (v : List Int) (m : Nat) (h : m < v.length) : Ph.farN (v.getD m 0) ≤ Ph.loudN (v.drop m) := by
  rw [loudN_drop v m h]; omega
set_option maxHeartbeats 1000000 in
theorem place_any (A : Option Addr) (n c : Nat) (v : List Int) (w : World) (B : Nat) (h : RdI w B A n v) (hB : B ≤ w.heap.size) (h0 : Ph.pulsesErr v = 0) :
    Calls Tryz.prog 66 #[.slice A n c] w fun e w' => e = .returned (.int .i64 (Ph.rank v : Nat)) ∧ Below w.heap.size w w' := by
  have hs := Ph.pulsesErr_zero.1 h0
  have hl := h.len
  have hL8 : Ph.loudN v ≤ 8 := by have := Ph.loudN_int v; omega
  have hr1 := Ph.rank_lt v
  have hr2 := Ph.cnt_le v.length (Ph.loudN v) hs.1 hL8
  have hrb : Ph.rank v ≤ 100000 := by omega
  have HS : Hid (∀ W, RdI W B A n v → Calls Tryz.prog 69 #[.slice A n c] W fun e w' => e = .returned (.int .i64 (Ph.loudN v : Nat)) ∧ W = w') := Lib.hid fun W hW => by
    have := sum_any A n c v W B hW (Ph.allIn_mono hs.2.1 (by omega)) (by omega)
    rw [← Ph.loudN_int] at this
    exact this
  have hn6 : n ≤ 6 := by omega
  have HL := Lib.hid hl
  have HS1 := Lib.hid hs
  have HL8 := Lib.hid hL8
  have HRB := Lib.hid hrb
  have H := Lib.hid h
  clear h h0 hs hl hL8 hr1 hr2 hrb
  go_enter Tryz.func66, Tryz.ntmps66
  go_wp2_with fail
  refine (HS.out _ H.out).mono ?_
  rintro e w1 ⟨rfl, rfl⟩
  clear HS
  go_wp2_with fail
  go_loopw [3, 4, 12] (fun k r i wr => ∃ m R : Nat, m ≤ n ∧ i = .int .i64 m ∧ k = .int .i64 (Ph.loudN (v.drop m) : Nat) ∧ r = .int .i64 R ∧ Hid (R + Ph.rank (v.drop m) = Ph.rank v) ∧ Below w.heap.size w wr) (fun _ _ i _ => n - (intOf i).toNat)
  case atStart => exact ⟨0, 0, Nat.zero_le _, rfl, rfl, rfl, Lib.hid (by simp), Below.refl _ _⟩
  case round =>
    obtain ⟨m, R, hm, rfl, rfl, rfl, HR, hbw⟩ := hrel
    by_cases hlt : m < n
    · obtain ⟨b, off, rfl, _, hc⟩ := (H.out.below (hbw.mono hB)).at_ hlt
      have hvl : m < v.length := by rw [HL.out]; exact hlt
      have hld := loudN_drop v m hvl
      have hrd := rank_drop v m hvl
      have hK8 : Ph.loudN (v.drop m) ≤ 8 := Nat.le_trans (loudN_drop_le v m) HL8.out
      have hRk := HR.out
      have hRb := HRB.out
      have hx8 := Ph.allIn_getD HS1.out.2.1 (by omega) m
      obtain ⟨x, hx⟩ : ∃ x, x = v.getD m 0 := ⟨_, rfl⟩
      obtain ⟨K, hK⟩ : ∃ K, K = Ph.loudN (v.drop m) := ⟨_, rfl⟩
      obtain ⟨K', hK'⟩ : ∃ K, K = Ph.loudN (v.drop (m + 1)) := ⟨_, rfl⟩
      obtain ⟨J, hJ⟩ : ∃ J, J = (x + (K : Nat)).toNat := ⟨_, rfl⟩
      obtain ⟨N, hN⟩ : ∃ N, N = n - m - 1 := ⟨_, rfl⟩
      rw [HL.out] at hrd
      rw [← hx, ← hK, ← hJ, ← hN] at hrd
      rw [← hx, ← hK, ← hK'] at hld
      rw [← hx] at hc hx8
      rw [← hK] at hK8 ⊢
      have hfx : (Ph.farN x : Int) = Ph.far x := Ph.farN_far x
      have hJi : (J : Int) = x + K := by unfold Ph.farN at hld; omega
      have HFx : Hid (∀ W, Calls Tryz.prog 87 #[.int .i64 x] W fun e w' => e = .returned (.int .i64 (Ph.farN x : Nat)) ∧ W = w') := Lib.hid fun W => by rw [hfx]; exact far_any x W (by omega)
      have hFK : Ph.farN x ≤ K := by omega
      have hKK : ((K : Int) - (Ph.farN x : Nat)) = (K' : Int) := by omega
      have HKK := Lib.hid hKK
      obtain ⟨F, hF⟩ : ∃ F, F = Ph.farN x := ⟨_, rfl⟩
      rw [← hF] at HFx hFK HKK
      have HRD := Lib.hid hrd
      have hub := Ph.upto_mono N K
      have HUB := Lib.hid hub
      have hup : R + Ph.upto N K J ≤ 100000 := by omega
      have HUP := Lib.hid hup
      have HK' := Lib.hid hK'
      have hN1 : (N : Int) = (n : Int) - (m : Int) - 1 := by omega
      have HN1 := Lib.hid hN1
      have hR5 : R ≤ 100000 := by omega
      have hxK : -(K : Int) ≤ x ∧ x ≤ K := by simp only [Ph.farN] at hF; omega
      have hJ2 : J ≤ 2 * K := by omega
      clear hld hrd hRk hRb hx hK hK' hJ hN hfx hKK hF hub hN1 hup
      go_wp2_with fail
      go_loopw [4, 7] (fun r y wr2 => ∃ j : Nat, j ≤ J ∧ y = .int .i64 (-(K : Int) + (j : Int)) ∧ r = .int .i64 ((R + Ph.upto N K j : Nat) : Int) ∧ Below w.heap.size w wr2) (fun _ y _ => (x - intOf y).toNat)
      case atStart => exact ⟨0, Nat.zero_le _, by simp, by simp [Ph.upto], hbw⟩
      case round =>
        obtain ⟨j, hj, rfl, rfl, hbw2⟩ := hrel
        have HBW2 := Lib.hid hbw2
        clear hbw2
        by_cases hjl : j < J
        · have hlt2 : -(K : Int) + (j : Int) < x := by omega
          have hF2 : (Ph.farN ((j : Int) - K) : Int) = Ph.far (-(K : Int) + (j : Int)) := by rw [Ph.farN_far]; congr 1; omega
          have HF2 : Hid (∀ W, Calls Tryz.prog 87 #[.int .i64 (-(K : Int) + (j : Int))] W fun e w' => e = .returned (.int .i64 (Ph.farN ((j : Int) - K) : Nat)) ∧ W = w') := Lib.hid fun W => by rw [hF2]; exact far_any _ W (by omega)
          have hG : Ph.farN ((j : Int) - K) ≤ K := by unfold Ph.farN; omega
          have hu1 : Ph.upto N K (j + 1) = Ph.upto N K j + Ph.cnt N (K - Ph.farN ((j : Int) - K)) := rfl
          have hu2 := HUB.out (j + 1) J (by omega)
          have hu3 := HUP.out
          obtain ⟨G, hGe⟩ : ∃ G, G = Ph.farN ((j : Int) - K) := ⟨_, rfl⟩
          rw [← hGe] at HF2 hG hu1
          have HA : Hid (∀ W, Calls Tryz.prog 62 #[.int .i64 ((n : Int) - (m : Int) - 1), .int .i64 ((K : Int) - (G : Int))] W fun e w' => e = .returned (.int .i64 (Ph.cnt N (K - G) : Nat)) ∧ Below W.heap.size W w') := Lib.hid fun W => by
            have := cAll_any N (K - G) W (by have := HN1.out; omega) (by omega)
            rw [show ((K - G : Nat) : Int) = (K : Int) - (G : Int) by omega, HN1.out] at this
            exact this
          obtain ⟨C, hC⟩ : ∃ C, C = Ph.cnt N (K - G) := ⟨_, rfl⟩
          rw [← hC] at HA hu1
          obtain ⟨U, hU⟩ : ∃ U, U = Ph.upto N K j := ⟨_, rfl⟩
          rw [← hU] at hu1
          have hb9 : R + U + C ≤ 100000 := by omega
          have HU1 := Lib.hid hu1
          rw [← hU]
          clear hF2 hu1 hu2 hu3 hGe hC hU
          go_wp2_with fail
          refine (HF2.out _).mono ?_
          rintro e w3 ⟨rfl, rfl⟩
          go_wp2_with fail
          refine (HA.out _).mono ?_
          rintro e w4 ⟨rfl, hb4⟩
          have HB4 := Lib.hid (below_on HBW2.out hb4)
          clear hb4 HF2 HA
          go_wp2_with fail
          go_roundw
          case rel => exact ⟨j + 1, by omega, by go_num, by rw [HU1.out]; go_num, HB4.out⟩
          case measure => simp [intOf]; omega
        · have hjJ : j = J := by omega
          have HJJ := Lib.hid hjJ
          have hge : ¬ (-(K : Int) + (j : Int) < x) := by omega
          clear hjJ
          have hrb : R + Ph.upto N K j ≤ 100000 := by rw [HJJ.out]; exact HUP.out
          obtain ⟨U, hU⟩ : ∃ U, U = Ph.upto N K j := ⟨_, rfl⟩
          rw [← hU] at hrb ⊢
          have HU := Lib.hid hU
          clear hU
          go_wp2_with fail
          refine (HFx.out _).mono ?_
          rintro e w3 ⟨rfl, rfl⟩
          go_wp2_with fail
          go_roundw
          case rel => exact ⟨m + 1, R + U, by omega, by go_num, by rw [← HK'.out]; exact congrArg (Value.int .i64) HKK.out, by go_num, Lib.hid (by have := HR.out; have := HRD.out; rw [HU.out, HJJ.out]; omega), HBW2.out⟩
          case measure => simp [intOf]; omega
    · have hmn : m = n := by omega
      have hd : v.drop m = [] := List.drop_of_length_le (by rw [HL.out]; omega)
      have hfin : R = Ph.rank v := by have := HR.out; rw [hd] at this; simpa [Ph.rank] using this
      have HFI := Lib.hid hfin
      clear hmn hd hfin
      go_wp2_with fail
      go_ret
      exact ⟨ret_int (by rw [HFI.out]), hbw⟩
theorem rank_told (A : Option Addr) (n c : Nat) (v : List Int) (w : World) (B : Nat) (h : RdI w B A n v) (hB : B ≤ w.heap.size) (hn : n ≤ 100000000000000) :
    Calls Tryz.prog 46 #[.slice A n c] w fun e w' => e = .returned (.tuple #[.int .i64 (if Ph.pulsesErr v = 0 then (Ph.rank v : Nat) else 0), errV (Ph.pulsesErr v)]) ∧ Below w.heap.size w w' := by
  have HC := Lib.hid fun W hW hBW => pCheck_any A n c v W B hW hBW hn
  have H := Lib.hid h
  by_cases h0 : Ph.pulsesErr v = 0
  · rw [h0, errV_zero, if_pos rfl]
    rw [h0, errV_zero, if_pos rfl] at HC
    have HP := Lib.hid fun W hW hBW => place_any A n c v W B hW hBW h0
    clear h h0
    go_enter Tryz.func46, Tryz.ntmps46
    go_wp2_with fail
    refine (HC.out _ H.out hB).mono ?_
    rintro e w1 ⟨rfl, hb1⟩
    have HB1 := Lib.hid hb1
    clear hb1 HC
    go_wp2_with fail
    refine (HP.out _ (H.out.below (HB1.out.mono hB)) (Nat.le_trans hB HB1.out.size)).mono ?_
    rintro e w2 ⟨rfl, hb2⟩
    have HB2 := Lib.hid (below_on HB1.out hb2)
    clear hb2
    go_wp2_with fail
    go_ret2
    exact ⟨rfl, HB2.out⟩
  · have he := errV_ne h0
    rw [if_neg h0]
    rw [if_neg h0] at HC
    clear h h0
    go_enter Tryz.func46, Tryz.ntmps46
    go_wp2_with fail
    refine (HC.out _ H.out hB).mono ?_
    rintro e w1 ⟨rfl, hb1⟩
    have HB1 := Lib.hid hb1
    clear hb1 HC
    go_wp2_with fail
    go_ret2
    exact ⟨ret_two rfl he.symm, HB1.out⟩
/-- The next step of a row of a rank. -/
theorem rowOf_step {N K R j : Nat} (h1 : Ph.upto N K j ≤ R) (h2 : R < Ph.upto N K (j + 1)) (hR : R < Ph.cnt (N + 1) K) : Ph.rowOf (N + 1) K R = ((j : Int) - K) :: Ph.rowOf N (K - Ph.farN ((j : Int) - K)) (R - Ph.upto N K j) := by
  have hf := Ph.find_spec N K (2 * K + 1) 0 R (by simp [Ph.upto]) (by rw [Nat.zero_add, Ph.upto_all]; exact hR)
  have hj := Ph.find_unique hf.1 hf.2.1 h1 h2
  simp only [Ph.rowOf, hj]
set_option maxHeartbeats 1000000 in
theorem at_any (n k r0 : Nat) (w : World) (hn : n ≤ 6) (hk : k ≤ 8) (hr0 : r0 < Ph.cnt n k) :
    Calls Tryz.prog 67 #[.int .i64 n, .int .i64 k, .int .i64 r0] w fun e w' => ∃ A c, e = .returned (.slice A n c) ∧ w'.ownsRow w.heap.size 3 1 (.slice A n c) n (ivals (Ph.rowOf n k r0)) ∧ Below w.heap.size w w' := by
  have HC0 := Lib.hid hr0
  clear hr0
  go_enter Tryz.func67, Tryz.ntmps67
  go_wp2_with fail
  go_loopw [1, 2, 7, 12] (fun ks r o i wr => ∃ (m K R : Nat) (A : Option Addr) (c : Nat) (p : List Int), m ≤ n ∧ i = .int .i64 m ∧ ks = .int .i64 K ∧ r = .int .i64 R ∧ o = .slice A m c ∧ wr.ownsRow w.heap.size 3 1 (.slice A m c) m (ivals p) ∧ Hid (p ++ Ph.rowOf (n - m) K R = Ph.rowOf n k r0 ∧ R < Ph.cnt (n - m) K) ∧ K ≤ 8 ∧ Below w.heap.size w wr) (fun _ _ _ i _ => n - (intOf i).toNat)
  case atStart => exact ⟨0, k, r0, none, 0, [], Nat.zero_le _, rfl, rfl, rfl, rfl, own_nil _ _ _, Lib.hid ⟨by simp, HC0.out⟩, hk, Below.refl _ _⟩
  case round =>
    obtain ⟨m, K, R, A, c, p, hm, rfl, rfl, rfl, rfl, hown, HI, hK8, hbw⟩ := hrel
    have HO := Lib.hid hown
    have HBW := Lib.hid hbw
    clear hown hbw
    by_cases hlt : m < n
    · obtain ⟨N, hN⟩ : ∃ N, N = n - m - 1 := ⟨_, rfl⟩
      have hnm : n - m = N + 1 := by omega
      have HIN := Lib.hid (And.intro (hnm ▸ HI.out.1) (hnm ▸ HI.out.2))
      have hN5 : N ≤ 5 := by omega
      have hN1 : (N : Int) = (n : Int) - (m : Int) - 1 := by omega
      have HN1 := Lib.hid hN1
      have hR9 : R ≤ 100000 := by have := HIN.out.2; have := Ph.cnt_le (N + 1) K (by omega) hK8; omega
      have HNM := Lib.hid hnm
      clear hN hnm hN1 HI
      go_wp2_with fail
      go_loopw [2, 9] (fun r x wr2 => ∃ j : Nat, j ≤ 2 * K ∧ x = .int .i64 (-(K : Int) + (j : Int)) ∧ r = .int .i64 ((R - Ph.upto N K j : Nat) : Int) ∧ Hid (Ph.upto N K j ≤ R) ∧ wr2.ownsRow w.heap.size 3 1 (.slice A m c) m (ivals p) ∧ Below w.heap.size w wr2) (fun _ x _ => (2 * (K : Int) - (intOf x + K)).toNat)
      case atStart => exact ⟨0, Nat.zero_le _, by simp, by simp [Ph.upto], Lib.hid (by simp [Ph.upto]), HO.out, HBW.out⟩
      case round =>
        obtain ⟨j, hj, rfl, rfl, HU, hown2, hbw2⟩ := hrel
        have HO2 := Lib.hid hown2
        have HBW2 := Lib.hid hbw2
        clear hown2 hbw2
        have hF2 : (Ph.farN ((j : Int) - K) : Int) = Ph.far (-(K : Int) + (j : Int)) := by rw [Ph.farN_far]; congr 1; omega
        have HF2 : Hid (∀ W, Calls Tryz.prog 87 #[.int .i64 (-(K : Int) + (j : Int))] W fun e w' => e = .returned (.int .i64 (Ph.farN ((j : Int) - K) : Nat)) ∧ W = w') := Lib.hid fun W => by rw [hF2]; exact far_any _ W (by omega)
        have hG : Ph.farN ((j : Int) - K) ≤ K := by unfold Ph.farN; omega
        have hu1 : Ph.upto N K (j + 1) = Ph.upto N K j + Ph.cnt N (K - Ph.farN ((j : Int) - K)) := rfl
        obtain ⟨G, hGe⟩ : ∃ G, G = Ph.farN ((j : Int) - K) := ⟨_, rfl⟩
        rw [← hGe] at HF2 hG hu1
        have HA : Hid (∀ W, Calls Tryz.prog 62 #[.int .i64 ((n : Int) - (m : Int) - 1), .int .i64 ((K : Int) - (G : Int))] W fun e w' => e = .returned (.int .i64 (Ph.cnt N (K - G) : Nat)) ∧ Below W.heap.size W w') := Lib.hid fun W => by
          have := cAll_any N (K - G) W (by omega) (by omega)
          rw [show ((K - G : Nat) : Int) = (K : Int) - (G : Int) by omega, HN1.out] at this
          exact this
        have hC9 := Ph.cnt_le N (K - G) (by omega) (by omega)
        obtain ⟨C, hC⟩ : ∃ C, C = Ph.cnt N (K - G) := ⟨_, rfl⟩
        rw [← hC] at HA hu1 hC9
        obtain ⟨U, hU⟩ : ∃ U, U = Ph.upto N K j := ⟨_, rfl⟩
        rw [← hU] at hu1 ⊢
        have hUR : U ≤ R := by rw [hU]; exact HU.out
        have HU1 := Lib.hid hu1
        have HUe := Lib.hid hU
        have HGe := Lib.hid hGe
        obtain ⟨D, hD⟩ : ∃ D, D = R - U := ⟨_, rfl⟩
        rw [← hD]
        have hD1 : D ≤ 100000 := by omega
        have HD := Lib.hid hD
        clear hF2 hu1 hGe hC hU
        rcases Nat.lt_or_ge D C with hDC | hDC
        · have hst := rowOf_step (N := N) (K := K) (R := R) (j := j) (by rw [← HUe.out]; exact hUR) (by rw [HU1.out]; omega) HIN.out.2
          have hrk : R - Ph.upto N K j < Ph.cnt N (K - Ph.farN ((j : Int) - K)) := by
            have h1 : Ph.upto N K (j + 1) = Ph.upto N K j + Ph.cnt N (K - Ph.farN ((j : Int) - K)) := rfl
            have h2 := HU1.out; have h3 := HUe.out; omega
          rw [← HUe.out, ← HGe.out, ← hD] at hst hrk
          have HST := Lib.hid hst
          have HRK := Lib.hid hrk
          clear hst hrk hD
          go_wp2_with fail
          refine (HF2.out _).mono ?_
          rintro e w3 ⟨rfl, rfl⟩
          go_wp2_with fail
          refine (HA.out _).mono ?_
          rintro e w4 ⟨rfl, hb4⟩
          have HB4 := Lib.hid (below_on HBW2.out hb4)
          have HO4 := Lib.hid (own_below' HO2.out hb4)
          clear hb4 HA HO2 HBW2 HO HBW
          go_wp2_with (at_builtin; refine wpList_push _ (by rfl) _ _ (by rfl) w w.heap.size A m c _ (-(K : Int) + (j : Int)) HO4.out HB4.out (by have := HB4.out.size; omega) (by omega) (by rfl) (by rfl) ?_; intro g cap w5 ho5 hb5)
          have HO5 := Lib.hid ho5
          have HB5 := Lib.hid hb5
          clear ho5 hb5 HO4 HB4
          go_wp2_with fail
          refine (HF2.out _).mono ?_
          rintro e w6 ⟨rfl, rfl⟩
          clear HF2
          have hkg : (K : Int) - (G : Int) = ((K - G : Nat) : Int) := by omega
          have HKG := Lib.hid hkg
          clear hkg
          go_wp2_with fail
          go_roundw
          case rel =>
            refine ⟨m + 1, K - G, D, some ⟨g, 0, none⟩, cap, p ++ [-(K : Int) + (j : Int)], by omega, by go_num, congrArg (Value.int .i64) HKG.out, rfl, rfl, HO5.out, Lib.hid ?_, by omega, HB5.out⟩
            have h1 := HIN.out.1
            rw [HST.out] at h1
            have h2 : n - (m + 1) = N := by have := HNM.out; omega
            rw [h2]
            refine ⟨?_, HRK.out⟩
            rw [← h1, List.append_assoc]
            congr 2
            simp only [List.singleton_append, List.cons.injEq, and_true]
            omega
          case measure => simp [intOf]; omega
        · have hj1 : j + 1 ≤ 2 * K := by
            rcases Nat.lt_or_ge (2 * K) (j + 1) with h1 | h1
            · have h2 : j = 2 * K := by omega
              have h3 := HU1.out
              rw [h2, Ph.upto_all] at h3
              have := HIN.out.2
              omega
            · exact h1
          clear hD
          go_wp2_with fail
          refine (HF2.out _).mono ?_
          rintro e w3 ⟨rfl, rfl⟩
          go_wp2_with fail
          refine (HA.out _).mono ?_
          rintro e w4 ⟨rfl, hb4⟩
          have HB4 := Lib.hid (below_on HBW2.out hb4)
          have HO4 := Lib.hid (own_below' HO2.out hb4)
          clear hb4 HA HO2 HBW2 HF2
          have hDC2 : (D : Int) - (C : Int) = ((R - Ph.upto N K (j + 1) : Nat) : Int) := by rw [HU1.out]; have := HD.out; omega
          have HDC := Lib.hid hDC2
          clear hDC2
          go_wp2_with fail
          go_roundw
          case rel => exact ⟨j + 1, hj1, by go_num, congrArg (Value.int .i64) HDC.out, Lib.hid (by rw [HU1.out]; have := HD.out; omega), HO4.out, HB4.out⟩
          case measure => simp [intOf]; omega
    · have hmn : m = n := by omega
      have h1 := HI.out.1
      rw [show n - m = 0 by omega] at h1
      simp only [Ph.rowOf, List.append_nil] at h1
      have HE := Lib.hid h1
      have HMN := Lib.hid hmn
      clear h1 hmn
      go_wp2_with fail
      go_ret
      exact ⟨A, c, by rw [HMN.out]; rfl, by rw [← HE.out, ← HMN.out]; exact HO.out, HBW.out⟩
end Go.Proofs.YtjdpgakkphdjlaaGreatDoor
/- Walks: the row of a rank, asked (chapter 6). -/
namespace Go.Proofs.YtjdpgakkphdjlaaGreatDoor
open Go.RowKit

/-- Is there such a rank? -/
def ofOk (n k r : Int) : Bool := cntOk n k && (decide (0 ≤ r) && decide (r < (Ph.cnt n.toNat k.toNat : Nat)))
theorem ofOk_iff {n k r : Int} : ofOk n k r = true ↔ ((0 ≤ n ∧ n ≤ 6) ∧ (0 ≤ k ∧ k ≤ 8)) ∧ 0 ≤ r ∧ r < (Ph.cnt n.toNat k.toNat : Nat) := by unfold ofOk cntOk; simp
theorem pOf_ok (n k r : Nat) (w : World) (hn : n ≤ 6) (hk : k ≤ 8) (hr : r < Ph.cnt n k) :
    Calls Tryz.prog 47 #[.int .i64 n, .int .i64 k, .int .i64 r] w fun e w' => ∃ A c, e = .returned (.tuple #[.slice A n c, .nilIface]) ∧ w'.ownsRow w.heap.size 3 1 (.slice A n c) n (ivals (Ph.rowOf n k r)) ∧ Below w.heap.size w w' := by
  have b1 : (decide ((0 : Int) ≤ (n : Int)) && decide ((n : Int) ≤ 6)) = true := by simp; omega
  have b2 : (decide ((0 : Int) ≤ (k : Int)) && decide ((k : Int) ≤ 8)) = true := by simp; omega
  have c1 : ∀ W, Calls Tryz.prog 60 #[.int .i64 n] W fun e w' => e = .returned (.bool true) ∧ W = w' := fun W => by rw [← b1]; exact numbers_any _ W
  have c2 : ∀ W, Calls Tryz.prog 61 #[.int .i64 k] W fun e w' => e = .returned (.bool true) ∧ W = w' := fun W => by rw [← b2]; exact pulses_any _ W
  have C1 := Lib.hid c1
  have C2 := Lib.hid c2
  have C3 := Lib.hid fun W => cAll_any n k W hn hk
  have C4 := Lib.hid fun W => at_any n k r W hn hk hr
  obtain ⟨C, hC⟩ : ∃ C, C = Ph.cnt n k := ⟨_, rfl⟩
  rw [← hC] at hr C3
  have hr' : (r : Int) < (C : Int) := by omega
  clear b1 b2 c1 c2 hC
  go_enter Tryz.func47, Tryz.ntmps47
  go_wp2_with fail
  refine (C1.out _).mono ?_
  rintro e w1 ⟨rfl, rfl⟩
  go_wp2_with fail
  refine (C2.out _).mono ?_
  rintro e w1 ⟨rfl, rfl⟩
  go_wp2_with fail
  refine (C3.out _).mono ?_
  rintro e w1 ⟨rfl, hb1⟩
  have HB1 := Lib.hid hb1
  clear hb1
  go_wp2_with fail
  refine (C4.out _).mono ?_
  rintro e w2 ⟨A, c, rfl, ho, hb2⟩
  have HO := Lib.hid ho
  have HB2 := Lib.hid (below_on HB1.out hb2)
  clear ho hb2
  go_wp2_with fail
  go_ret2
  exact ⟨A, c, rfl, own_more HO.out HB1.out.size, HB2.out⟩
theorem pOf_no (n k r : Int) (w : World) (h : ofOk n k r = false) :
    Calls Tryz.prog 47 #[.int .i64 n, .int .i64 k, .int .i64 r] w fun e w' => e = .returned (.tuple #[.slice none 0 0, errV 1]) ∧ Below w.heap.size w w' := by
  have he : errV 1 = .iface 69 (.int .i64 1) := errV_ne (by omega)
  rw [he]
  clear he
  unfold ofOk cntOk at h
  cases b1 : (decide (0 ≤ n) && decide (n ≤ 6))
  · have c1 : ∀ W, Calls Tryz.prog 60 #[.int .i64 n] W fun e w' => e = .returned (.bool false) ∧ W = w' := fun W => by rw [← b1]; exact numbers_any _ W
    have C1 := Lib.hid c1
    clear b1 c1 h
    go_enter Tryz.func47, Tryz.ntmps47
    go_wp2_with fail
    refine (C1.out _).mono ?_
    rintro e w1 ⟨rfl, rfl⟩
    go_wp2_with fail
    go_ret2
    exact ⟨rfl, Below.refl _ _⟩
  · have c1 : ∀ W, Calls Tryz.prog 60 #[.int .i64 n] W fun e w' => e = .returned (.bool true) ∧ W = w' := fun W => by rw [← b1]; exact numbers_any _ W
    have C1 := Lib.hid c1
    cases b2 : (decide (0 ≤ k) && decide (k ≤ 8))
    · have c2 : ∀ W, Calls Tryz.prog 61 #[.int .i64 k] W fun e w' => e = .returned (.bool false) ∧ W = w' := fun W => by rw [← b2]; exact pulses_any _ W
      have C2 := Lib.hid c2
      clear b1 b2 c1 c2 h
      go_enter Tryz.func47, Tryz.ntmps47
      go_wp2_with fail
      refine (C1.out _).mono ?_
      rintro e w1 ⟨rfl, rfl⟩
      go_wp2_with fail
      refine (C2.out _).mono ?_
      rintro e w1 ⟨rfl, rfl⟩
      go_wp2_with fail
      go_ret2
      exact ⟨rfl, Below.refl _ _⟩
    · have c2 : ∀ W, Calls Tryz.prog 61 #[.int .i64 k] W fun e w' => e = .returned (.bool true) ∧ W = w' := fun W => by rw [← b2]; exact pulses_any _ W
      have C2 := Lib.hid c2
      have q1 : (0 ≤ n ∧ n ≤ 6) ∧ (0 ≤ k ∧ k ≤ 8) := by simp at b1 b2; omega
      have hr : r < 0 ∨ (¬ r < 0 ∧ (Ph.cnt n.toNat k.toNat : Int) ≤ r) := by
        rw [b1, b2] at h
        simp at h
        omega
      have C3 : Hid (∀ W, Calls Tryz.prog 62 #[.int .i64 n, .int .i64 k] W fun e w' => e = .returned (.int .i64 (Ph.cnt n.toNat k.toNat : Nat)) ∧ Below W.heap.size W w') := Lib.hid fun W => by
        have := cAll_any n.toNat k.toNat W (by omega) (by omega)
        rw [Int.toNat_of_nonneg q1.1.1, Int.toNat_of_nonneg q1.2.1] at this
        exact this
      obtain ⟨C, hC⟩ : ∃ C, C = Ph.cnt n.toNat k.toNat := ⟨_, rfl⟩
      rw [← hC] at hr C3
      clear b1 b2 c1 c2 h hC
      rcases hr with hr | ⟨hr, hr2⟩
      · go_enter Tryz.func47, Tryz.ntmps47
        go_wp2_with fail
        refine (C1.out _).mono ?_
        rintro e w1 ⟨rfl, rfl⟩
        go_wp2_with fail
        refine (C2.out _).mono ?_
        rintro e w1 ⟨rfl, rfl⟩
        go_wp2_with fail
        go_ret2
        exact ⟨rfl, Below.refl _ _⟩
      · go_enter Tryz.func47, Tryz.ntmps47
        go_wp2_with fail
        refine (C1.out _).mono ?_
        rintro e w1 ⟨rfl, rfl⟩
        go_wp2_with fail
        refine (C2.out _).mono ?_
        rintro e w1 ⟨rfl, rfl⟩
        go_wp2_with fail
        refine (C3.out _).mono ?_
        rintro e w1 ⟨rfl, hb1⟩
        have HB1 := Lib.hid hb1
        clear hb1
        go_wp2_with fail
        go_ret2
        exact ⟨rfl, HB1.out⟩
end Go.Proofs.YtjdpgakkphdjlaaGreatDoor
