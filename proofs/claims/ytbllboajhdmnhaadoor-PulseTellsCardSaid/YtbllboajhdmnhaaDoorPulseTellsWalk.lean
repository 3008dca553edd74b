/- The walk of the law PulseTells. -/
import Derived.Test.YtbllboajhdmnhaaDoorTold
import Derived.Test.YtbllboajhdmnhaaDoorRefPulse2
import Derived.Test.YtbllboajhdmnhaaDoorOpen
import Derived.Deep.DeepCutAuto
import Derived.Deep.CutBlock
import Derived.Deep.Cut
namespace Go.Proofs.YtbllboajhdmnhaaDoor
open Go.RowKit

/-- What is wrong with so many numbers, pulses, and a rank; the row. -/
def ofErr (n k r : Int) : Int := if ofOk n k r = true then 0 else 1
def ofRow (n k r : Int) : List Int := if ofOk n k r = true then Ph.rowOf n.toNat k.toNat r.toNat else []
theorem pOf_told (n k r : Int) (w : World) :
    Calls Tryd.prog 22 #[.int .i64 n, .int .i64 k, .int .i64 r] w fun e w' => ∃ A m c, e = .returned (.tuple #[.slice A m c, errV (ofErr n k r)]) ∧ m ≤ 6 ∧ RdI w' w'.heap.size A m (ofRow n k r) ∧ Below w.heap.size w w' := by
  unfold ofErr ofRow
  cases hok : ofOk n k r with
  | true =>
    have h := ofOk_iff.1 hok
    rw [if_pos rfl, if_pos rfl]
    obtain ⟨N, rfl⟩ := Int.eq_ofNat_of_zero_le h.1.1.1
    obtain ⟨K, rfl⟩ := Int.eq_ofNat_of_zero_le h.1.2.1
    obtain ⟨R, rfl⟩ := Int.eq_ofNat_of_zero_le h.2.1
    have h2 := h.2.2
    rw [Int.toNat_natCast, Int.toNat_natCast] at h2
    refine (pOf_ok N K R w (by omega) (by omega) (by omega)).mono ?_
    rintro e w' ⟨A, c, rfl, ho, hb⟩
    exact ⟨A, N, c, rfl, by omega, by rw [Int.toNat_natCast, Int.toNat_natCast, Int.toNat_natCast]; exact RdI.own ho, hb⟩
  | false =>
    rw [if_neg (by simp), if_neg (by simp)]
    refine (pOf_no n k r w hok).mono ?_
    rintro e w' ⟨rfl, hb⟩
    exact ⟨none, 0, 0, rfl, by omega, RdI.nil, hb⟩
theorem cnt_five (n k : Int) : (cntOk n k = false ∧ (n < 0 ∨ (¬ n < 0 ∧ 6 < n) ∨ (¬ n < 0 ∧ ¬ 6 < n ∧ k < 0) ∨ (¬ n < 0 ∧ ¬ 6 < n ∧ ¬ k < 0 ∧ 8 < k))) ∨ (cntOk n k = true ∧ ¬ n < 0 ∧ ¬ 6 < n ∧ ¬ k < 0 ∧ ¬ 8 < k) := by
  cases h : cntOk n k with
  | true => have := cntOk_iff.1 h; right; exact ⟨rfl, by omega⟩
  | false =>
    left
    refine ⟨rfl, ?_⟩
    by_cases hx : (0 ≤ n ∧ n ≤ 6) ∧ 0 ≤ k ∧ k ≤ 8
    · rw [cntOk_iff.2 hx] at h; cases h
    · omega
set_option maxHeartbeats 4000000 in
set_option maxRecDepth 1000000 in
theorem pulseTells_walk (w : World) (A : Option Addr) (n0 c : Nat) (v : List Int) (h : RdI w w.heap.size A n0 v) (hb : n0 ≤ c ∧ c ≤ 17592186044415) (_ : ∀ x ∈ v, Is64 x) (n k r : Int) (hg : Laid w) :
    Calls Tryd.prog 3 #[.slice A n0 c, .int .i64 n, .int .i64 k, .int .i64 r] w fun e w' => e = .returned (.bool true) ∧ Below w.heap.size w w' := by
  have HG := Lib.hid hg
  have H := Lib.hid h
  have hn0 : n0 ≤ 100000000000000 := by omega
  have hc := hb.1
  have HRP := Lib.hid fun W hW => rpulses_any A n0 c v W w.heap.size hW hn0
  have HPC := Lib.hid fun W hW hBW => pCheck_any A n0 c v W w.heap.size hW hBW hn0
  have HRR := Lib.hid fun W hW hBW h0 => rrank_any v A n0 c W w.heap.size hW hBW hc h0
  have HPR := Lib.hid fun W hW hBW => rank_told A n0 c v W w.heap.size hW hBW hn0
  have HEB : Hid (-100 ≤ Ph.pulsesErr v ∧ Ph.pulsesErr v ≤ 100) := Lib.hid (by unfold Ph.pulsesErr; split <;> (try split) <;> (try split) <;> omega)
  have HOB : Hid (-100 ≤ ofErr n k r ∧ ofErr n k r ≤ 100) := Lib.hid (by unfold ofErr; split <;> omega)
  obtain ⟨W2, hW2⟩ : ∃ W, W = (if Ph.pulsesErr v = 0 then ((Ph.rank v : Nat) : Int) else 0) := ⟨_, rfl⟩
  rw [← hW2] at HPR
  obtain ⟨M, hM⟩ : ∃ M, M = (if Ph.pulsesErr v = 0 then Ph.loud v else 0) := ⟨_, rfl⟩
  rw [← hM] at HRP HPC
  obtain ⟨E, hE⟩ : ∃ E, E = Ph.pulsesErr v := ⟨_, rfl⟩
  rw [← hE] at HRP HPC HRR HPR HEB hW2
  have HW2 := Lib.hid hW2
  have HOF := Lib.hid fun W => pOf_told n k r W
  obtain ⟨F, hF⟩ : ∃ F, F = ofErr n k r := ⟨_, rfl⟩
  obtain ⟨Y, hY⟩ : ∃ Y, Y = ofRow n k r := ⟨_, rfl⟩
  rw [← hF] at HOF HOB
  rw [← hY] at HOF
  have HF := Lib.hid hF
  have HY := Lib.hid hY
  clear h hb hg hW2 hM hE hF hY
  go_enter Tryd.func3, Tryd.ntmps3
  go_wp2_with fail
  refine (HRP.out _ H.out).mono ?_
  rintro e wk ⟨rfl, rfl⟩
  go_wp2_with fail
  refine (HPC.out _ H.out (Nat.le_refl _)).mono ?_
  rintro e w1 ⟨rfl, hb1⟩
  have HB1 := Lib.hid hb1
  clear hb1
  go_wp2_with fail
  refine (herr_yes E _ (HG.out.below HB1.out) HEB.out).mono ?_
  rintro e w2 ⟨rfl, hb2⟩
  have HB2 := Lib.hid (below_on HB1.out hb2)
  clear hb2
  go_upto_if 38 with (fail)
  go_cut [14] (fun s14 wx => s14 = .int .i64 W2 ∧ Hid (Below w.heap.size w wx))
  case first =>
    by_cases hE : E = 0
    · have hEb : (E == 0) = true := by simp [hE]
      have HE := Lib.hid hE
      have HW : Hid (W2 = ((Ph.rank v : Nat) : Int)) := Lib.hid (by rw [HW2.out, if_pos hE])
      clear hE
      go_wp2_with fail
      refine (HRR.out _ (H.out.below HB2.out) HB2.out.size HE.out).mono ?_
      rintro e w3 ⟨rfl, hb3⟩
      have HB3 := Lib.hid (below_on HB2.out hb3)
      clear hb3
      go_wp2_with fail
      go_meet
      case rel => exact ⟨by rw [HW.out], HB3⟩
    · have hEb : (E == 0) = false := by simp [hE]
      have HW : Hid (W2 = 0) := Lib.hid (by rw [HW2.out, if_neg hE])
      clear hE
      go_wp2_with fail
      go_meet
      case rel => exact ⟨by rw [HW.out], HB2⟩
  case rest =>
    obtain ⟨rfl, HB3⟩ := hcut
    clear HB1 HB2 HRP HPC HRR HW2
    go_wp2_with fail
    refine (HPR.out _ (H.out.below HB3.out) HB3.out.size).mono ?_
    rintro e w4 ⟨rfl, hb4⟩
    have HB4 := Lib.hid (below_on HB3.out hb4)
    clear hb4
    go_wp2_with fail
    refine (herr_yes E _ (HG.out.below HB4.out) HEB.out).mono ?_
    rintro e w5 ⟨rfl, hb5⟩
    have HB5 := Lib.hid (below_on HB4.out hb5)
    clear hb5
    clear HPR H
    go_upto_region 11 with (fail)
    go_cut [67] (fun s67 wx => s67 = .bool (!cntOk n k) ∧ Hid (Below w.heap.size w wx))
    case first =>
      rcases cnt_five n k with ⟨ho, a1 | ⟨a1, a2⟩ | ⟨a1, a2, a3⟩ | ⟨a1, a2, a3, a4⟩⟩ | ⟨ho, a1, a2, a3, a4⟩
      all_goals
        have HO := Lib.hid ho
        clear ho
        go_wp2_with fail
        go_meet
      all_goals exact ⟨by rw [HO.out]; rfl, HB5⟩
    case rest =>
      obtain ⟨rfl, HB6⟩ := hcut
      clear HB3 HB4 HB5
      go_upto_if 67 with (fail)
      go_cut [10, 16] (fun s10 s16 wx => s10 = .int .i64 F ∧ (∃ A m c, s16 = .slice A m c ∧ m ≤ 6 ∧ Hid (RdI wx wx.heap.size A m Y)) ∧ Hid (Below w.heap.size w wx))
      case first =>
        cases hok : cntOk n k with
        | false =>
          have hof : ofOk n k r = false := by unfold ofOk; rw [hok]; rfl
          have HFY : Hid (F = 1 ∧ Y = []) := Lib.hid (by rw [HF.out, HY.out]; unfold ofErr ofRow; rw [hof]; exact ⟨if_neg (by simp), if_neg (by simp)⟩)
          clear hok hof
          simp only [Bool.not_false]
          go_wp2_with fail
          go_meet
          case rel => exact ⟨by rw [HFY.out.1], ⟨none, 0, 0, rfl, by omega, Lib.hid (by rw [HFY.out.2]; exact RdI.nil)⟩, HB6⟩
        | true =>
          have h := cntOk_iff.1 hok
          obtain ⟨N, rfl⟩ := Int.eq_ofNat_of_zero_le h.1.1
          obtain ⟨K, rfl⟩ := Int.eq_ofNat_of_zero_le h.2.1
          have hN : N ≤ 6 := by omega
          have hK : K ≤ 8 := by omega
          have hofI : ofOk N K r = true ↔ 0 ≤ r ∧ r < (Ph.cnt N K : Nat) := by
            rw [ofOk_iff, Int.toNat_natCast, Int.toNat_natCast]
            exact ⟨fun q => q.2, fun q => ⟨h, q⟩⟩
          have HRC := Lib.hid fun W => rcount_any N K W hN hK
          have HRW := Lib.hid fun R W hR => rrow_any N K R W hN hK hR
          have HFI := Lib.hid hofI
          have hc9 := Ph.cnt_le N K hN hK
          obtain ⟨C, hC⟩ : ∃ C, C = Ph.cnt N K := ⟨_, rfl⟩
          rw [← hC] at HRC HRW HFI hc9
          simp only [Bool.not_true]
          clear h hok hofI hC
          rcases Int.lt_or_le r 0 with hr | hr
          · have HFY : Hid (F = 1 ∧ Y = []) := Lib.hid (by
              have hof : ¬ ofOk N K r = true := by rw [HFI.out]; omega
              rw [HF.out, HY.out]; unfold ofErr ofRow; exact ⟨if_neg hof, if_neg hof⟩)
            go_wp2_with fail
            go_meet
            case rel => exact ⟨by rw [HFY.out.1], ⟨none, 0, 0, rfl, by omega, Lib.hid (by rw [HFY.out.2]; exact RdI.nil)⟩, HB6⟩
          · obtain ⟨R, rfl⟩ := Int.eq_ofNat_of_zero_le hr
            have hr0 : ¬ (R : Int) < 0 := by omega
            rcases Nat.lt_or_ge R C with hRC | hRC
            · have HFY : Hid (F = 0 ∧ Y = Ph.rowOf N K R) := Lib.hid (by
                have hof : ofOk N K R = true := by rw [HFI.out]; omega
                rw [HF.out, HY.out]; unfold ofErr ofRow; rw [if_pos hof, if_pos hof, Int.toNat_natCast, Int.toNat_natCast, Int.toNat_natCast]; exact ⟨rfl, rfl⟩)
              have hge : ¬ (C : Int) ≤ (R : Int) := by omega
              go_wp2_with fail
              refine (HRC.out _).mono ?_
              rintro e w7 ⟨rfl, hb7⟩
              have HB7 := Lib.hid (below_on HB6.out hb7)
              clear hb7
              go_wp2_with fail
              refine (HRW.out R _ hRC).mono ?_
              rintro e w8 ⟨A8, c8, rfl, _, hr8, hb8⟩
              have HB8 := Lib.hid (below_on HB7.out hb8)
              have HR8 := Lib.hid hr8
              clear hb8 hr8
              go_wp2_with fail
              go_meet
              case rel => exact ⟨by rw [HFY.out.1], ⟨A8, N, c8, rfl, hN, Lib.hid (by rw [HFY.out.2]; exact HR8.out)⟩, HB8⟩
            · have HFY : Hid (F = 1 ∧ Y = []) := Lib.hid (by
                have hof : ¬ ofOk N K R = true := by rw [HFI.out]; omega
                rw [HF.out, HY.out]; unfold ofErr ofRow; exact ⟨if_neg hof, if_neg hof⟩)
              have hge : (C : Int) ≤ (R : Int) := by omega
              go_wp2_with fail
              refine (HRC.out _).mono ?_
              rintro e w7 ⟨rfl, hb7⟩
              have HB7 := Lib.hid (below_on HB6.out hb7)
              clear hb7
              go_wp2_with fail
              go_meet
              case rel => exact ⟨by rw [HFY.out.1], ⟨none, 0, 0, rfl, by omega, Lib.hid (by rw [HFY.out.2]; exact RdI.nil)⟩, HB7⟩
      case rest =>
        obtain ⟨rfl, ⟨A9, m9, c9, rfl, hm9, HW9⟩, HB9⟩ := hcut
        clear HB6 HF HY
        go_wp2_with fail
        refine (HOF.out _).mono ?_
        rintro e w4 ⟨A4, n4, c4, rfl, hn4, hr4, hb4⟩
        have HW4 := Lib.hid (HW9.out.on hb4)
        have HR4 := Lib.hid hr4
        have HB4 := Lib.hid (below_on HB9.out hb4)
        clear hr4 hb4 HW9 HB9 HOF
        go_wp2_with fail
        refine (herr_yes F _ (HG.out.below HB4.out) HOB.out).mono ?_
        rintro e w5 ⟨rfl, hb5⟩
        have HW5 := Lib.hid (HW4.out.on hb5)
        have HR5 := Lib.hid (HR4.out.on hb5)
        have HB5 := Lib.hid (below_on HB4.out hb5)
        clear hb5 HW4 HR4 HB4
        go_wp2_with fail
        refine (ints_any A4 A9 n4 c4 m9 c9 _ _ _ _ _ HR5.out HW5.out (Nat.le_refl _) (Nat.le_refl _) (by omega)).mono ?_
        rintro e w6 ⟨rfl, hb6⟩
        have HB10 := Lib.hid (below_on HB5.out hb6)
        rw [sameI_true.2 rfl]
        clear hb6 HW5 HR5 HB5
        go_wp2_with fail
        go_ret
        exact ⟨ret_true (by simp), HB10.out⟩
end Go.Proofs.YtbllboajhdmnhaaDoor
