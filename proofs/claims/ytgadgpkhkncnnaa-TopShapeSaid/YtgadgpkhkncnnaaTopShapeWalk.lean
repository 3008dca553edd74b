/- The walk of the law TopShape. -/
import Derived.Test.YtgadgpkhkncnnaaNear3
import Derived.Test.YtgadgpkhkncnnaaGain
import Derived.Test.YtgadgpkhkncnnaaOne
import Derived.Test.YtgadgpkhkncnnaaOpen
namespace Go.Proofs.Ytgadgpkhkncnnaa
open Go.RowKit

set_option maxHeartbeats 4000000 in
set_option maxRecDepth 1000000 in
theorem topShape_walk (w : World) (A : Option Addr) (n c : Nat) (v : List Int) (h : RdI w w.heap.size A n v) (hb : n ≤ c ∧ c ≤ 17592186044415) (_ : ∀ x ∈ v, Is64 x) (k r : Int) :
    Calls Try.prog 11 #[.slice A n c, .int .i64 k, .int .i64 r] w fun e w' => e = .returned (.bool true) ∧ Below w.heap.size w w' := by
  have H := Lib.hid h
  have HL := Lib.hid h.len
  have HN := Lib.hid fun W hW => nearOf_no A n c v k W W.heap.size hW (Nat.le_refl _) (by omega)
  clear h
  go_enter Try.func11, Try.ntmps11
  go_wp2_with fail
  refine (one_any _).mono ?_
  rintro e w1 ⟨rfl, hbw⟩
  have H1 := Lib.hid (H.out.on hbw)
  have HB1 := Lib.hid hbw
  clear hbw H
  by_cases hE : nearOfErr v k = 0
  · obtain ⟨hv, hk, hL⟩ := nearOfErr_zero.1 hE
    have hv2 := nearErr_zero.1 hv
    have hf := near_facts hE
    have hl := HL.out
    have HO := Lib.hid fun W hW => nearOf_ok A n c v k W W.heap.size hW (Nat.le_refl _) hE
    have HBT := Lib.hid fun (p : List Int) h1 h2 => Ph.near_best (v := v) (p := p) hk.1 hL h1 h2
    have hfl := Ph.near_far_le (v := v) (k := k) hk.1 hL
    obtain ⟨p, hp⟩ : ∃ p, p = Ph.near v k := ⟨_, rfl⟩
    rw [← hp] at hf HO HBT hfl
    have hpl : p.length = n := by omega
    obtain ⟨K, rfl⟩ := Int.eq_ofNat_of_zero_le hk.1
    have hK8 : K ≤ 8 := by omega
    have hn6 : n ≤ 6 := by omega
    have hln : Ph.loudN p = K := by have := Ph.loudN_int p; omega
    have HRK := Lib.hid fun W A2 c2 (hW : RdI W W.heap.size A2 n p) => rank_told A2 n c2 p W W.heap.size hW (Nat.le_refl _) (by omega)
    rw [hf.1, if_pos rfl, errV_zero] at HRK
    have hrl := Ph.rank_lt p
    rw [hpl, hln] at hrl
    have HRO := Lib.hid fun W => pOf_ok n K (Ph.rank p) W hn6 hK8 hrl
    have hro : Ph.rowOf n K (Ph.rank p) = p := by have := Ph.rowOf_rank p; rwa [hpl, hln] at this
    rw [hro] at HRO
    have HFA := Lib.hid fun W A2 c2 (h1 : RdI W W.heap.size A n v) (h2 : RdI W W.heap.size A2 n p) => nfar_ok A n c v A2 n c2 p W W.heap.size W.heap.size h1 h2 (Nat.le_refl _) (Nat.le_refl _) hf.2.2.2
    have hlo := Ph.loud_le hv2.2
    have hlo0 := Ph.loud_nonneg v
    obtain ⟨N, hN⟩ : ∃ N : Nat, Ph.loud v = N := ⟨(Ph.loud v).toNat, by omega⟩
    rw [hN, hl] at hfl
    have hN6 : N ≤ 6000 := by omega
    obtain ⟨R, hR⟩ : ∃ R, R = Ph.rank p := ⟨_, rfl⟩
    rw [← hR] at HRK HRO
    have HV := Lib.hid hv
    have HVB := Lib.hid hv2.2
    have HPL := Lib.hid hpl
    have HNN := Lib.hid hN
    obtain ⟨D, hD⟩ : ∃ D, D = Ph.farFrom v p := ⟨_, rfl⟩
    rw [← hD] at HFA HBT hfl
    obtain ⟨PP, hPP⟩ : ∃ PP : Int, PP = (N : Int) * (n : Int) := ⟨_, rfl⟩
    have hPb : 0 ≤ PP ∧ PP ≤ 36000 := by
      rw [hPP]
      refine ⟨Int.mul_nonneg (by omega) (by omega), ?_⟩
      have := Int.mul_le_mul (a := (N : Int)) (b := (n : Int)) (c := 6000) (d := 6) (by omega) (by omega) (by omega) (by omega)
      omega
    rw [← hPP] at hfl
    have kP : IntKind.i64.wrap ((N : Int) * (n : Int)) = PP := by rw [← hPP]; exact IntWalk.i64_in _ (by omega)
    have HKP := Lib.hid kP
    have HFL := Lib.hid hfl
    clear hE hv hv2 hf hp hpl hD hrl hro hlo hlo0 hN hR hln hPP HN kP hfl
    go_wp2_with fail
    refine (HO.out _ H1.out).mono ?_
    rintro e w2 ⟨A2, c2, rfl, ho, hbw⟩
    rw [HPL.out] at ho ⊢
    have K1 := Lib.hid (H1.out.on hbw)
    have KP := Lib.hid (RdI.own ho)
    have KB := Lib.hid (below_on HB1.out hbw)
    clear ho hbw H1 HB1 HO
    go_wp2_with fail
    refine (HRK.out _ _ _ KP.out).mono ?_
    rintro e w3 ⟨rfl, hbw⟩
    have L1 := Lib.hid (K1.out.on hbw)
    have LP := Lib.hid (KP.out.on hbw)
    have LB := Lib.hid (below_on KB.out hbw)
    clear hbw K1 KP KB HRK
    go_wp2_with fail
    refine (HRO.out _).mono ?_
    rintro e w4 ⟨A4, c4, rfl, ho, hbw⟩
    have M1 := Lib.hid (L1.out.on hbw)
    have MP := Lib.hid (LP.out.on hbw)
    have MQ := Lib.hid (RdI.own ho)
    have MB := Lib.hid (below_on LB.out hbw)
    clear ho hbw L1 LP LB HRO
    go_wp2_with fail
    refine (HFA.out _ _ _ M1.out MP.out).mono ?_
    rintro e w5 ⟨rfl, hbw⟩
    have N1 := Lib.hid (M1.out.on hbw)
    have NP := Lib.hid (MP.out.on hbw)
    have NQ := Lib.hid (MQ.out.on hbw)
    have NB := Lib.hid (below_on MB.out hbw)
    clear hbw M1 MP MQ MB HFA
    go_wp2_with fail
    refine (ints_any A4 A2 n c4 n c2 p p _ _ _ NQ.out NP.out (Nat.le_refl _) (Nat.le_refl _) (by omega)).mono ?_
    rintro e w6 ⟨rfl, hbw⟩
    rw [sameI_true.2 (rfl : p = p)]
    have P1 := Lib.hid (N1.out.on hbw)
    have PB := Lib.hid (below_on NB.out hbw)
    clear hbw N1 NP NQ NB
    go_wp2_with fail
    go_loop [16, 17] (fun s i => ∃ q : Nat, q ≤ n ∧ i = .int .i64 q ∧ s = .int .i64 (Ph.loud (v.take q))) (fun _ i => n - (intOf i).toNat)
    case atStart => exact ⟨0, Nat.zero_le _, rfl, rfl⟩
    case round =>
      obtain ⟨q, hq, rfl, rfl⟩ := hrel
      by_cases hlt : q < n
      · obtain ⟨b1, o1, rfl, _, c1⟩ := P1.out.at_ hlt
        have hsn : Ph.loud (v.take (q + 1)) = Ph.loud (v.take q) + Ph.far (v.getD q 0) := by rw [Ph.take_snoc v q (by rw [hl]; exact hlt), Ph.loud_snoc]
        have hb1 := Ph.loud_take_le v q
        have hb2 := Ph.loud_nonneg (v.take q)
        rw [HNN.out] at hb1
        have hx := Ph.allIn_getD HVB.out (by omega) q
        obtain ⟨x, hxe⟩ : ∃ x, x = v.getD q 0 := ⟨_, rfl⟩
        obtain ⟨S, hS⟩ : ∃ S, S = Ph.loud (v.take q) := ⟨_, rfl⟩
        rw [← hxe] at c1 hx hsn
        rw [← hS] at hsn hb1 hb2 ⊢
        rw [Ph.far_eq] at hsn
        have HSN := Lib.hid hsn
        have hlt' : (q : Int) < (n : Int) := by omega
        clear hxe hS hsn
        by_cases hx0 : x < 0
        · go_wp2_with fail
          go_round
          case rel => exact ⟨q + 1, by omega, by go_num, by rw [HSN.out, if_pos hx0]; congr 1⟩
          case measure => simp [intOf]; omega
        · go_wp2_with fail
          go_round
          case rel => exact ⟨q + 1, by omega, by go_num, by rw [HSN.out, if_neg hx0]⟩
          case measure => simp [intOf]; omega
      · obtain rfl : q = n := by omega
        have hall : v.take q = v := List.take_of_length_le (by rw [hl]; exact Nat.le_refl _)
        rw [hall, HNN.out]
        have HVL := Lib.hid fun W => value_ok (Ph.step N) W (Ph.valued_step (by omega))
        have hml := Ph.mean_le (n := N) (by omega)
        have HIX := Lib.hid fun W => index_ok N W (by omega)
        obtain ⟨G, hG⟩ : ∃ G, G = Ph.step N := ⟨_, rfl⟩
        obtain ⟨M, hM⟩ : ∃ M, M = Ph.mean (Ph.step N) := ⟨_, rfl⟩
        rw [← hM, ← hG] at HVL
        rw [← hM] at hml
        rw [← hG] at HIX
        clear hall hG hM
        have hkP := HKP.out
        have hfl := HFL.out
        have hfl2 : ¬ PP < D := by omega
        have hml2 : ¬ 2 * (N : Int) < (M : Int) := by omega
        go_wp2_with fail
        refine (HIX.out _).mono ?_
        rintro e w' ⟨rfl, rfl⟩
        go_wp2_with fail
        refine (HVL.out _).mono ?_
        rintro e w7 ⟨rfl, dq, rfl⟩
        have Q1 := Lib.hid (RdI.drewN P1.out dq)
        have QB := Lib.hid (below_drewN' PB.out dq)
        clear P1 PB HVL HIX
        cases hok : ofOk (q : Int) (K : Int) r
        · have HNO := Lib.hid fun W => pOf_no (q : Int) (K : Int) r W hok
          have he1 : errV 1 = .iface 73 (.int .i64 1) := errV_ne (by decide)
          rw [he1] at HNO
          clear hok he1
          go_wp2_with fail
          refine (HNO.out _).mono ?_
          rintro e w8 ⟨rfl, hbw⟩
          have RB := Lib.hid (below_on QB.out hbw)
          clear hbw
          go_wp2_with fail
          go_ret
          exact ⟨rfl, RB.out⟩
        · have hofs := ofOk_iff.1 hok
          obtain ⟨R2, rfl⟩ := Int.eq_ofNat_of_zero_le hofs.2.1
          have hR2 : R2 < Ph.cnt q K := by have := hofs.2.2; rw [Int.toNat_natCast, Int.toNat_natCast] at this; omega
          have hrf := row_facts hn6 hK8 hR2
          have HOF := Lib.hid fun W => pOf_ok q K R2 W hn6 hK8 hR2
          obtain ⟨z, hz⟩ : ∃ z, z = Ph.rowOf q K R2 := ⟨_, rfl⟩
          rw [← hz] at hrf HOF
          have hfz : farErr v z = 0 := farErr_zero.2 ⟨HV.out, hrf.1, by rw [HL.out, hrf.2.2.2]⟩
          have HFZ := Lib.hid fun W A2 c2 (h1 : RdI W W.heap.size A q v) (h2 : RdI W W.heap.size A2 q z) => nfar_ok A q c v A2 q c2 z W W.heap.size W.heap.size h1 h2 (Nat.le_refl _) (Nat.le_refl _) hfz
          have hbest : D ≤ Ph.farFrom v z := HBT.out z (by rw [HL.out, hrf.2.2.2]) hrf.2.2.1
          obtain ⟨E, hE⟩ : ∃ E, E = Ph.farFrom v z := ⟨_, rfl⟩
          rw [← hE] at HFZ hbest
          clear hok hofs hR2 hrf hz hfz hE
          go_wp2_with fail
          refine (HOF.out _).mono ?_
          rintro e w8 ⟨A5, c5, rfl, ho, hbw⟩
          have R1 := Lib.hid (Q1.out.on hbw)
          have RZ := Lib.hid (RdI.own ho)
          have RB := Lib.hid (below_on QB.out hbw)
          clear ho hbw Q1 QB HOF
          go_wp2_with fail
          refine (HFZ.out _ _ _ R1.out RZ.out).mono ?_
          rintro e w9 ⟨rfl, hbw⟩
          have SB := Lib.hid (below_on RB.out hbw)
          clear hbw
          go_wp2_with fail
          go_ret
          exact ⟨ret_true (by simp), SB.out⟩
  · have hev := errV_ne hE
    have HX := Lib.hid (HN.out _ H1.out hE)
    rw [hev] at HX
    clear hE hev HN
    go_wp2_with fail
    refine HX.out.mono ?_
    rintro e w2 ⟨rfl, hbw⟩
    have KB := Lib.hid (below_on HB1.out hbw)
    clear hbw HX
    go_wp2_with fail
    go_ret
    exact ⟨rfl, KB.out⟩
end Go.Proofs.Ytgadgpkhkncnnaa
