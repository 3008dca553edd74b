/- Walks: how far pulses are from numbers (chapter 7). -/
import Derived.Test.YtbllboajhdmnhaaDoorNear
namespace Go.Proofs.YtbllboajhdmnhaaDoor
open Go.RowKit

/-- What is wrong with numbers, and pulses. -/
def farErr (v p : List Int) : Int := if nearErr v ≠ 0 then nearErr v else if Ph.pulsesErr p ≠ 0 then Ph.pulsesErr p else if v.length ≠ p.length then 3 else 0
theorem farErr_zero {v p : List Int} : farErr v p = 0 ↔ nearErr v = 0 ∧ Ph.pulsesErr p = 0 ∧ v.length = p.length := by
  unfold farErr
  by_cases h1 : nearErr v = 0
  · rw [if_neg (by omega)]
    by_cases h2 : Ph.pulsesErr p = 0
    · rw [if_neg (by omega)]
      by_cases h3 : v.length = p.length
      · rw [if_neg (by omega)]; exact ⟨fun _ => ⟨h1, h2, h3⟩, fun _ => rfl⟩
      · rw [if_pos h3]; constructor
        · intro h; omega
        · intro h; exact absurd h.2.2 h3
    · rw [if_pos h2]; constructor
      · intro h; exact absurd h h2
      · intro h; exact absurd h.2.1 h2
  · rw [if_pos h1]; constructor
    · intro h; exact absurd h h1
    · intro h; exact absurd h.1 h1
theorem far_sum_bd {f : Nat → Int} {M : Int} (h : ∀ i, 0 ≤ f i ∧ f i ≤ M) : ∀ n : Nat, 0 ≤ Ph.sumTo n f ∧ Ph.sumTo n f ≤ n * M
  | 0 => by simp [Ph.sumTo]
  | n + 1 => by
    have h1 := far_sum_bd h n
    have h2 := h n
    have e : Ph.sumTo (n + 1) f = Ph.sumTo n f + f n := rfl
    have e2 : ((n + 1 : Nat) : Int) * M = n * M + M := by rw [Int.natCast_succ, Int.add_mul, Int.one_mul]
    rw [e, e2]; omega
theorem mul_abs {a b M N : Int} (ha : 0 ≤ a ∧ a ≤ M) (hb : -N ≤ b ∧ b ≤ N) : -(M * N) ≤ a * b ∧ a * b ≤ M * N := by
  have hN : 0 ≤ N := by omega
  have h1 : a * b ≤ a * N := Int.mul_le_mul_of_nonneg_left hb.2 ha.1
  have h2 : a * (-N) ≤ a * b := Int.mul_le_mul_of_nonneg_left hb.1 ha.1
  have h3 : a * N ≤ M * N := Int.mul_le_mul_of_nonneg_right ha.2 hN
  rw [Int.mul_neg] at h2
  omega
set_option maxHeartbeats 2000000 in
theorem nfar_ok (A : Option Addr) (n c : Nat) (v : List Int) (A2 : Option Addr) (n2 c2 : Nat) (p : List Int) (w : World) (B B2 : Nat) (h : RdI w B A n v) (h2 : RdI w B2 A2 n2 p) (hB : B ≤ w.heap.size) (hB2 : B2 ≤ w.heap.size) (h0 : farErr v p = 0) :
    Calls Tryd.prog 69 #[.slice A n c, .slice A2 n2 c2] w fun e w' => e = .returned (.tuple #[.int .i64 (Ph.farFrom v p), .nilIface]) ∧ Below w.heap.size w w' := by
  obtain ⟨hv, hp, hvp⟩ := farErr_zero.1 h0
  have hv2 := nearErr_zero.1 hv
  have hp2 := Ph.pulsesErr_zero.1 hp
  have hl := h.len
  have hl2 := h2.len
  obtain rfl : n2 = n := by omega
  have HC := Lib.hid (ncheck_any A n2 c v w B h hB (by omega))
  rw [hv, errV_zero] at HC
  have HP := Lib.hid fun W hW hBW => pCheck_any A2 n2 c2 p W B2 hW hBW (by omega)
  rw [hp, errV_zero, if_pos rfl] at HP
  have HS := Lib.hid fun W hW => sum_any A n2 c v W B hW (Ph.allIn_mono hv2.2 (by omega)) (by omega)
  have hb : ∀ i, 0 ≤ Ph.far (Ph.loud p * v.getD i 0 - Ph.loud v * p.getD i 0) ∧ Ph.far (Ph.loud p * v.getD i 0 - Ph.loud v * p.getD i 0) ≤ 100000 := fun i => by
    refine ⟨Ph.far_nonneg _, Ph.far_le.2 ?_⟩
    have a1 := mul_abs (a := Ph.loud p) (b := v.getD i 0) (M := 8) (N := 1000) ⟨Ph.loud_nonneg p, hp2.2.2⟩ (Ph.allIn_getD hv2.2 (by omega) i)
    have lv := Ph.loud_le hv2.2
    have a2 := mul_abs (a := Ph.loud v) (b := p.getD i 0) (M := 6000) (N := 8) ⟨Ph.loud_nonneg v, by omega⟩ (Ph.allIn_getD hp2.2.1 (by omega) i)
    omega
  have HBD := Lib.hid hb
  have HPR : Hid (∀ i, (-8000 ≤ Ph.loud p * v.getD i 0 ∧ Ph.loud p * v.getD i 0 ≤ 8000) ∧ (-48000 ≤ Ph.loud v * p.getD i 0 ∧ Ph.loud v * p.getD i 0 ≤ 48000)) := Lib.hid fun i => by
    have a1 := mul_abs (a := Ph.loud p) (b := v.getD i 0) (M := 8) (N := 1000) ⟨Ph.loud_nonneg p, hp2.2.2⟩ (Ph.allIn_getD hv2.2 (by omega) i)
    have lv := Ph.loud_le hv2.2
    have a2 := mul_abs (a := Ph.loud v) (b := p.getD i 0) (M := 6000) (N := 8) ⟨Ph.loud_nonneg v, by omega⟩ (Ph.allIn_getD hp2.2.1 (by omega) i)
    omega
  have HFF : Hid (Ph.farFrom v p = Ph.sumTo n2 (fun i => Ph.far (Ph.loud p * v.getD i 0 - Ph.loud v * p.getD i 0))) := Lib.hid (by unfold Ph.farFrom; rw [hl])
  obtain ⟨K, hK⟩ : ∃ K, K = Ph.loud p := ⟨_, rfl⟩
  obtain ⟨L, hL⟩ : ∃ L, L = Ph.loud v := ⟨_, rfl⟩
  rw [← hK] at HP HBD HPR HFF
  rw [← hL] at HS HBD HPR HFF
  have H1 := Lib.hid h
  have H2 := Lib.hid h2
  have hn6 : n2 ≤ 6 := by omega
  have hnn : ((n2 : Int) != (n2 : Int)) = false := by simp
  clear h h2 h0 hv hp hvp hv2 hp2 hl hl2 hb hK hL
  go_enter Tryd.func69, Tryd.ntmps69
  go_wp2_with fail
  refine HC.out.mono ?_
  rintro e w1 ⟨rfl, hb⟩
  have K1 := Lib.hid (H1.out.below (hb.mono hB))
  have K2 := Lib.hid (H2.out.below (hb.mono hB2))
  have KB := Lib.hid hb
  have hB21 := Nat.le_trans hB2 hb.size
  have hB11 := Nat.le_trans hB hb.size
  clear hb HC H1 H2
  go_wp2_with fail
  refine (HP.out _ K2.out hB21).mono ?_
  rintro e w2 ⟨rfl, hb⟩
  have L1 := Lib.hid (K1.out.below (hb.mono hB11))
  have L2 := Lib.hid (K2.out.below (hb.mono hB21))
  have LB := Lib.hid (below_on KB.out hb)
  clear hb HP K1 K2 KB
  go_wp2_with fail
  refine (HS.out _ L1.out).mono ?_
  rintro e wk ⟨rfl, rfl⟩
  go_wp2_with fail
  go_loop [10, 36] (fun s i => ∃ q : Nat, q ≤ n2 ∧ i = .int .i64 q ∧ s = .int .i64 (Ph.sumTo q (fun i => Ph.far (K * v.getD i 0 - L * p.getD i 0)))) (fun _ i => n2 - (intOf i).toNat)
  case atStart => exact ⟨0, Nat.zero_le _, rfl, rfl⟩
  case round =>
    obtain ⟨q, hq, rfl, rfl⟩ := hrel
    have hsb := far_sum_bd HBD.out q
    by_cases hlt : q < n2
    · obtain ⟨b1, o1, rfl, _, c1⟩ := L1.out.at_ hlt
      obtain ⟨b2, o2, rfl, _, c2⟩ := L2.out.at_ hlt
      have hstep : Hid (Ph.sumTo (q + 1) (fun i => Ph.far (K * v.getD i 0 - L * p.getD i 0)) = Ph.sumTo q (fun i => Ph.far (K * v.getD i 0 - L * p.getD i 0)) + Ph.far (K * v.getD q 0 - L * p.getD q 0)) := Lib.hid rfl
      have hp1 := HPR.out q
      have hp2 := HBD.out q
      obtain ⟨S, hS⟩ : ∃ S, S = Ph.sumTo q (fun i => Ph.far (K * v.getD i 0 - L * p.getD i 0)) := ⟨_, rfl⟩
      rw [← hS] at hsb hstep ⊢
      obtain ⟨X, hX⟩ : ∃ X, X = v.getD q 0 := ⟨_, rfl⟩
      obtain ⟨Y, hY⟩ : ∃ Y, Y = p.getD q 0 := ⟨_, rfl⟩
      rw [← hX] at c1 hp1 hp2 hstep
      rw [← hY] at c2 hp1 hp2 hstep
      obtain ⟨P, hP⟩ : ∃ P, P = K * X := ⟨_, rfl⟩
      obtain ⟨Q, hQ⟩ : ∃ Q, Q = L * Y := ⟨_, rfl⟩
      rw [← hP] at hp1 hp2 hstep
      rw [← hQ] at hp1 hp2 hstep
      have k1 : IntKind.i64.wrap (K * X) = P := by rw [← hP]; exact IntWalk.i64_in _ (by omega)
      have k2 : IntKind.i64.wrap (L * Y) = Q := by rw [← hQ]; exact IntWalk.i64_in _ (by omega)
      have k3 : IntKind.i64.wrap (P - Q) = P - Q := IntWalk.i64_in _ (by omega)
      have HFA := Lib.hid fun W => far_any (P - Q) W (by omega)
      obtain ⟨F, hF⟩ : ∃ F, F = Ph.far (P - Q) := ⟨_, rfl⟩
      rw [← hF] at HFA hp2 hstep
      have hsb2 : (q : Int) * 100000 ≤ 600000 := by omega
      have k4 : IntKind.i64.wrap (S + F) = S + F := IntWalk.i64_in _ (by omega)
      have hlt' : (q : Int) < (n2 : Int) := by omega
      clear hS hX hY hP hQ hF
      go_wp2_with fail
      refine (HFA.out _).mono ?_
      rintro e w' ⟨rfl, rfl⟩
      go_wp2_with fail
      go_round
      case rel => exact ⟨q + 1, by omega, by go_num, by rw [hstep.out]⟩
      case measure => simp [intOf]; omega
    · obtain rfl : q = n2 := by omega
      rw [← HFF.out]
      go_wp2_with fail
      go_ret2
      exact ⟨rfl, LB.out⟩
theorem nfar_no (A : Option Addr) (n c : Nat) (v : List Int) (A2 : Option Addr) (n2 c2 : Nat) (p : List Int) (w : World) (B B2 : Nat) (h : RdI w B A n v) (h2 : RdI w B2 A2 n2 p) (hB : B ≤ w.heap.size) (hB2 : B2 ≤ w.heap.size) (hn : n ≤ 100000000000000) (hn2 : n2 ≤ 100000000000000) (h0 : farErr v p ≠ 0) :
    Calls Tryd.prog 69 #[.slice A n c, .slice A2 n2 c2] w fun e w' => e = .returned (.tuple #[.int .i64 0, errV (farErr v p)]) ∧ Below w.heap.size w w' := by
  have hl := h.len
  have hl2 := h2.len
  have HC := Lib.hid (ncheck_any A n c v w B h hB hn)
  have HP := Lib.hid fun W hW hBW => pCheck_any A2 n2 c2 p W B2 hW hBW hn2
  have H2 := Lib.hid h2
  unfold farErr at h0 ⊢
  by_cases hv : nearErr v = 0
  · rw [if_neg (by omega)] at h0 ⊢
    rw [hv, errV_zero] at HC
    by_cases hp : Ph.pulsesErr p = 0
    · rw [if_neg (by omega)] at h0 ⊢
      rw [hp, errV_zero, if_pos rfl] at HP
      by_cases h3 : v.length = p.length
      · rw [if_neg (by omega)] at h0; exact absurd rfl h0
      · rw [if_pos h3, errV_ne (by decide)]
        have hne : ((n : Int) != (n2 : Int)) = true := by simp; omega
        obtain ⟨K, hK⟩ : ∃ K, K = Ph.loud p := ⟨_, rfl⟩
        rw [← hK] at HP
        clear h h2 h0 hv hp h3 hl hl2 hK
        go_enter Tryd.func69, Tryd.ntmps69
        go_wp2_with fail
        refine HC.out.mono ?_
        rintro e w1 ⟨rfl, hb⟩
        have K2 := Lib.hid (H2.out.below (hb.mono hB2))
        have KB := Lib.hid hb
        have hB21 := Nat.le_trans hB2 hb.size
        clear hb HC H2
        go_wp2_with fail
        refine (HP.out _ K2.out hB21).mono ?_
        rintro e w2 ⟨rfl, hb⟩
        have LB := Lib.hid (below_on KB.out hb)
        clear hb HP
        go_wp2_with fail
        go_ret2
        exact ⟨rfl, LB.out⟩
    · rw [if_pos hp]
      rw [if_neg hp] at HP
      have hev := errV_ne hp
      obtain ⟨E, hE⟩ : ∃ E, E = Ph.pulsesErr p := ⟨_, rfl⟩
      rw [← hE] at HP hev ⊢
      clear h h2 h0 hv hp hl hl2 hE
      go_enter Tryd.func69, Tryd.ntmps69
      go_wp2_with fail
      refine HC.out.mono ?_
      rintro e w1 ⟨rfl, hb⟩
      have K2 := Lib.hid (H2.out.below (hb.mono hB2))
      have KB := Lib.hid hb
      have hB21 := Nat.le_trans hB2 hb.size
      clear hb HC H2
      go_wp2_with fail
      refine (HP.out _ K2.out hB21).mono ?_
      rintro e w2 ⟨rfl, hb⟩
      have LB := Lib.hid (below_on KB.out hb)
      clear hb HP
      go_wp2_with fail
      go_ret2
      exact ⟨ret_two rfl hev.symm, LB.out⟩
  · rw [if_pos hv] at h0 ⊢
    have hev := errV_ne hv
    obtain ⟨E, hE⟩ : ∃ E, E = nearErr v := ⟨_, rfl⟩
    rw [← hE] at HC hev ⊢
    clear h h2 h0 hv hl hl2 hE HP H2
    go_enter Tryd.func69, Tryd.ntmps69
    go_wp2_with fail
    refine HC.out.mono ?_
    rintro e w1 ⟨rfl, hb⟩
    have KB := Lib.hid hb
    clear hb HC
    go_wp2_with fail
    go_ret2
    exact ⟨ret_two rfl hev.symm, KB.out⟩
end Go.Proofs.YtbllboajhdmnhaaDoor
