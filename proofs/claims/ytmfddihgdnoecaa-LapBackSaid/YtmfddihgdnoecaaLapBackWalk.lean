/- The walk of the law LapBack. -/
import Derived.Test.YtmfddihgdnoecaaLap4
import Derived.Test.YtmfddihgdnoecaaOpen
import Derived.Outline
import Derived.Deep.DeepCutAuto
import Derived.Deep.Cut
namespace Go.Proofs.Ytmfddihgdnoecaa
open Go.RowKit

/-- What rises evenly. -/
def evenL (p q : Int) (k : Nat) : List Int := (List.range k).map fun (i : Nat) => p + (i : Int) * q
theorem evenL_length (p q : Int) (k : Nat) : (evenL p q k).length = k := by simp [evenL]
theorem evenL_getD (p q : Int) (k i : Nat) (h : i < k) : (evenL p q k).getD i 0 = p + (i : Int) * q := Ph.getD_map_range _ _ _ h
theorem evenL_snoc (p q : Int) (k : Nat) : evenL p q (k + 1) = evenL p q k ++ [p + (k : Int) * q] := by
  unfold evenL; rw [List.range_succ, List.map_append]; rfl
theorem mul_bd {q : Int} {k : Nat} (hk : k ≤ 32) (h1 : -10 ≤ q) (h2 : q ≤ 10) : -320 ≤ (k : Int) * q ∧ (k : Int) * q ≤ 320 := by
  have a := Int.mul_le_mul_of_nonneg_left h2 (show (0 : Int) ≤ (k : Int) by omega)
  have b := Int.mul_le_mul_of_nonneg_left h1 (show (0 : Int) ≤ (k : Int) by omega)
  omega
theorem evenL_allIn {p q : Int} {k : Nat} (hk : k ≤ 32) (p1 : -400 ≤ p) (p2 : p ≤ 400) (h1 : -10 ≤ q) (h2 : q ≤ 10) : Ph.allIn (evenL p q k) 1000 = true := by
  rw [Ph.allIn_iff]
  intro x hx
  unfold evenL at hx
  rw [List.mem_map] at hx
  obtain ⟨i, hi, rfl⟩ := hx
  have := mul_bd (q := q) (k := i) (by have := List.mem_range.1 hi; omega) h1 h2
  omega
theorem evenL_hi (p q : Int) (R i : Nat) (h : i < R) : (Ph.lapF (evenL p q (2 * R))).getD (R + i) 0 = if i + 1 < R then 0 else q := by
  have hl := evenL_length p q (2 * R)
  have h2 : (evenL p q (2 * R)).length / 2 = R := by omega
  have h3 := Ph.lapF_hi (evenL p q (2 * R)) i (by omega)
  have h4 := Ph.dif_even (l := evenL p q (2 * R)) (a := p) (b := q) (fun j hj => evenL_getD _ _ _ _ (by omega)) (by omega) i (by omega)
  rw [h2] at h3 h4
  rw [h3, h4]
set_option maxHeartbeats 2000000 in
set_option maxRecDepth 1000000 in
theorem lapBack_walk (w : World) (A1 : Option Addr) (n1 c1 : Nat) (a : List Int) (h1 : RdI w w.heap.size A1 n1 a) (hb1 : n1 ≤ c1 ∧ c1 ≤ 17592186044415) (_ : ∀ x ∈ a, Is64 x) (A2 : Option Addr) (n2 c2 : Nat) (b : List Int) (h2 : RdI w w.heap.size A2 n2 b) (hb2 : n2 ≤ c2 ∧ c2 ≤ 17592186044415) (_ : ∀ x ∈ b, Is64 x) (p q r : Int) :
    Calls Try.prog 3 #[.slice A1 n1 c1, .slice A2 n2 c2, .int .i64 p, .int .i64 q, .int .i64 r] w fun e w' => e = .returned (.bool true) ∧ Below w.heap.size w w' := by
  have H1 := Lib.hid (h1.onAlloc (.cells #[.int .i64 1, .int .i64 5, .int .i64 3, .int .i64 4] 3))
  have H2 := Lib.hid (h2.onAlloc (.cells #[.int .i64 1, .int .i64 5, .int .i64 3, .int .i64 4] 3))
  have HB := Lib.hid (below_alloc0 w (.cells #[.int .i64 1, .int .i64 5, .int .i64 3, .int .i64 4] 3))
  have HR1 := Lib.hid (RdI.lit' w [1, 5, 3, 4] 3 #[.int .i64 1, .int .i64 5, .int .i64 3, .int .i64 4] rfl)
  have HM : Hid (Ph.lapF [1, 5, 3, 4] = [3, 4, 3, 1]) := by unfold Hid; decide
  have HL1 := Lib.hid h1.len
  have HL2 := Lib.hid h2.len
  have H0 := Lib.hid h1
  clear h1 h2
  go_enter Try.func3, Try.ntmps3
  go_wp2_with fail
  have hm := lapF_ok _ 4 4 [1, 5, 3, 4] _ _ HR1.out (Nat.le_refl _) (by decide)
  rw [HM.out] at hm
  refine hm.mono ?_
  rintro e w1 ⟨A0, c0, rfl, hown, hbw⟩
  clear hm HR1 HM
  obtain ⟨g, rfl, hg0, hg1⟩ := own_form hown (by decide)
  have q0 := hown.cellAt 0 (by decide)
  have q1 := hown.cellAt 1 (by decide)
  have q2 := hown.cellAt 2 (by decide)
  have q3 := hown.cellAt 3 (by decide)
  have f0 : w1.cell? ⟨g, 0, none⟩ = some (.int .i64 3) := q0
  have f1 : w1.cell? ⟨g, 1, none⟩ = some (.int .i64 4) := q1
  have f2 : w1.cell? ⟨g, 2, none⟩ = some (.int .i64 3) := q2
  have f3 : w1.cell? ⟨g, 3, none⟩ = some (.int .i64 1) := q3
  have H1' := Lib.hid (H1.out.on hbw)
  have H2' := Lib.hid (H2.out.on hbw)
  have HB' := Lib.hid (below_on HB.out hbw)
  clear hown hbw q0 q1 q2 q3 H1 H2 HB hg0 hg1
  go_wp2_with fail
  refine (lapI_told A2 n2 c2 b w1 _ H2'.out (Nat.le_refl _) hb2.1 (by omega)).mono ?_
  rintro e w2 ⟨X, rfl, hX, hbw⟩
  have HX := Lib.hid hX
  have K1 := Lib.hid (H1'.out.on hbw)
  have K2 := Lib.hid (H2'.out.on hbw)
  have KB := Lib.hid (below_on HB'.out hbw)
  clear hX hbw H1' H2' HB' f0 f1 f2 f3
  go_upto_region 5 with (fail)
  go_cut [13, 14, 71] (fun s13 _ s71 wx => ∃ B : Bool, s71 = .bool B ∧ Hid (B = true → Ph.lapErr b 4000 = 0 ∧ Ph.soundErr (Ph.lapI b) = 0 ∧ ∃ A c, s13 = .slice A n2 c ∧ n2 ≤ c ∧ RdI wx wx.heap.size A n2 (Ph.lapI b)) ∧ Hid (RdI wx wx.heap.size A1 n1 a) ∧ Hid (RdI wx wx.heap.size A2 n2 b) ∧ Hid (Below w.heap.size w wx))
  case first =>
    by_cases hI : Ph.lapErr b 4000 = 0
    · have he := errV_of hI
      obtain ⟨AX, cx, rfl, hcx, hrx⟩ := HX.out hI
      have X2 := Lib.hid hrx
      have hn2 : n2 ≤ 32 := by have := (Ph.lapErr_zero.1 hI).1; have := HL2.out; omega
      have hIh := Lib.hid hI
      clear hrx HX hI
      go_wp2_with fail
      refine (check_any AX n2 cx (Ph.lapI b) w2 _ X2.out (Nat.le_refl _) (by omega)).mono ?_
      rintro e w3 ⟨rfl, hbw⟩
      have Y2 := Lib.hid (X2.out.on hbw)
      have L1 := Lib.hid (K1.out.on hbw)
      have L2 := Lib.hid (K2.out.on hbw)
      have LB := Lib.hid (below_on KB.out hbw)
      clear hbw X2 K1 K2 KB
      by_cases hC : Ph.soundErr (Ph.lapI b) = 0
      · rw [hC, errV_zero]
        have hCh := Lib.hid hC
        clear hC
        go_wp2_with fail
        go_meet
        case rel => exact ⟨true, rfl, Lib.hid (fun _ => ⟨hIh.out, hCh.out, AX, cx, rfl, hcx, Y2.out⟩), L1, L2, LB⟩
      · rw [errV_ne hC]
        go_wp2_with fail
        go_meet
        case rel => exact ⟨false, rfl, Lib.hid (fun h => by cases h), L1, L2, LB⟩
    · have he := errV_ne hI
      clear hI HX
      go_wp2_with fail
      go_meet
      case rel => exact ⟨false, rfl, Lib.hid (fun h => by cases h), K1, K2, KB⟩
  case rest =>
    obtain ⟨B, rfl, HBB, N1, N2, NB⟩ := hcut
    clear K1 K2 KB HX
    rename World => wc
    go_upto_if 71 with (fail)
    go_cut [13, 14] (fun _ _ wx => Hid (RdI wx wx.heap.size A1 n1 a) ∧ Hid (Below w.heap.size w wx))
    case first =>
      cases B
      · go_wp2_with fail
        go_meet
        case rel => exact ⟨N1, NB⟩
      · obtain ⟨hI, hC, AX, cx, rfl, hcx, hrx⟩ := HBB.out rfl
        have hI2 := Ph.lapErr_zero.1 hI
        have hC1 := Ph.soundErr_zero.1 hC
        have hbl := HL2.out
        have hli : (Ph.lapI b).length = n2 := by rw [Ph.lapI_length, hbl]; omega
        have hF0 : Ph.lapErr (Ph.lapI b) 1000 = 0 := Ph.lapErr_zero.2 ⟨hC1.1, by rw [hli]; omega, hC1.2⟩
        have hm := lapF_ok AX n2 cx (Ph.lapI b) wc _ hrx (Nat.le_refl _) hF0
        rw [Ph.lapF_lapI b hI2.2.1] at hm
        have HMM := Lib.hid hm
        have hn2 : n2 ≤ 32 := by omega
        clear hI hC hrx hI2 hC1 hli hF0 hm hbl HBB
        go_wp2_with fail
        refine HMM.out.mono ?_
        rintro e w4 ⟨AY, cy, rfl, hown, hbw⟩
        have Z2 := Lib.hid (RdI.own hown)
        have M1 := Lib.hid (N1.out.on hbw)
        have M2 := Lib.hid (N2.out.on hbw)
        have MB := Lib.hid (below_on NB.out hbw)
        clear hown hbw N1 N2 NB HMM
        go_wp2_with fail
        have hbl := HL2.out
        refine (ints_any AY A2 _ cy n2 c2 b b _ _ _ Z2.out M2.out (Nat.le_refl _) (Nat.le_refl _) (by omega)).mono ?_
        rintro e wz ⟨rfl, hbw⟩
        have P1 := Lib.hid (M1.out.on hbw)
        have PB := Lib.hid (below_on MB.out hbw)
        rw [sameI_true.2 (rfl : b = b)]
        clear hbw M1 M2 MB Z2 hbl
        go_wp2_with fail
        go_meet
        case rel => exact ⟨P1, PB⟩
    case rest =>
      obtain ⟨N1', NB'⟩ := hcut
      clear N1 NB HBB N2
      go_wp2_with fail
      refine (lapF_told A1 n1 c1 a _ _ N1'.out (Nat.le_refl _) (by omega)).mono ?_
      rintro e w5 ⟨Y, rfl, hY, hbw⟩
      have HY := Lib.hid hY
      have R1 := Lib.hid (N1'.out.on hbw)
      have RB := Lib.hid (below_on NB'.out hbw)
      clear hY hbw N1' NB'
      go_upto_region 10 with (fail)
      go_cut [14, 17, 91] (fun _ s17 s91 wx => ∃ B : Bool, s91 = .bool B ∧ Hid (B = true → Ph.lapErr a 1000 = 0 ∧ ∃ A c, s17 = .slice A n1 c ∧ n1 ≤ c ∧ RdI wx wx.heap.size A n1 (Ph.lapF a)) ∧ Hid (RdI wx wx.heap.size A1 n1 a) ∧ Hid (Below w.heap.size w wx))
      case first =>
        by_cases hI : Ph.lapErr a 1000 = 0
        · have he := errV_of hI
          have hyh := HY.out hI
          have HYH := Lib.hid hyh
          have hIh := Lib.hid hI
          clear HY hI hyh
          go_wp2_with fail
          go_meet
          case rel => exact ⟨true, rfl, Lib.hid (fun _ => ⟨hIh.out, HYH.out⟩), R1, RB⟩
        · have he := errV_ne hI
          clear hI HY
          go_wp2_with fail
          go_meet
          case rel => exact ⟨false, rfl, Lib.hid (fun h => by cases h), R1, RB⟩
      case rest =>
        obtain ⟨B2, rfl, HBB2, T1, TB⟩ := hcut
        clear R1 RB HY
        go_upto_if 91 with (fail)
        go_cut [14, 17] (fun _ _ wx => Hid (Below w.heap.size w wx))
        case first =>
          cases B2
          · go_wp2_with fail
            go_meet
            case rel => exact TB
          · obtain ⟨hI, AX, cx, rfl, hcx, hrx⟩ := HBB2.out rfl
            have hI2 := Ph.lapErr_zero.1 hI
            have hbl := HL1.out
            have hli : (Ph.lapF a).length = n1 := by rw [Ph.lapF_length a hI2.2.1, hbl]
            have hF0 : Ph.lapErr (Ph.lapF a) 4000 = 0 := Ph.lapErr_zero.2 ⟨by omega, by rw [hli]; omega, Ph.allIn_mono (Ph.lapF_allIn hI2.2.2) (by omega)⟩
            have HMM := Lib.hid fun W hW => lapI_ok AX n1 cx (Ph.lapF a) W _ hW (Nat.le_refl _) hcx hF0
            rw [Ph.lapI_lapF a hI2.2.1] at HMM
            have hn2 : n1 ≤ 32 := by omega
            have HX := Lib.hid hrx
            clear hI hrx hI2 hli hF0 hbl HBB2
            go_wp2_with fail
            refine (HMM.out _ HX.out).mono ?_
            rintro e w6 ⟨AY, cy, rfl, hown, hbw⟩
            have Z2 := Lib.hid (RdI.own hown)
            have M1 := Lib.hid (T1.out.on hbw)
            have MB := Lib.hid (below_on TB.out hbw)
            clear hown hbw T1 TB HMM HX
            go_wp2_with fail
            have hbl := HL1.out
            refine (ints_any AY A1 _ cy n1 c1 a a _ _ _ Z2.out M1.out (Nat.le_refl _) (Nat.le_refl _) (by omega)).mono ?_
            rintro e wz ⟨rfl, hbw⟩
            have PB := Lib.hid (below_on MB.out hbw)
            rw [sameI_true.2 (rfl : a = a)]
            clear hbw M1 MB Z2 hbl
            go_wp2_with fail
            go_meet
            case rel => exact PB
        case rest =>
          have UB := hcut
          clear TB T1 HBB2 hcut
          by_cases hr : -400 ≤ p ∧ p ≤ 400 ∧ -10 ≤ q ∧ q ≤ 10 ∧ 1 ≤ r ∧ r ≤ 16
          · obtain ⟨p1, p2, q1, q2, r1, r2⟩ := hr
            obtain ⟨R, hR⟩ : ∃ R : Nat, r = R := ⟨r.toNat, by omega⟩
            have hR1 : r ≤ R := by omega
            have hR2 : (R : Int) ≤ r := by omega
            have hRh := Lib.hid hR
            have hR16 : R ≤ 16 := by omega
            have hR0 : 0 < R := by omega
            clear hR
            go_wp2_with fail
            rename World => w8
            go_loopw [20, 21] (fun v i wr => ∃ (k : Nat) (A : Option Addr) (c : Nat), k ≤ 2 * R ∧ i = .int .i64 k ∧ v = .slice A k c ∧ wr.ownsRow w8.heap.size 3 1 (.slice A k c) k (ivals (evenL p q k)) ∧ Below w8.heap.size w8 wr) (fun _ i _ => 2 * R - (intOf i).toNat)
            case atStart => exact ⟨0, none, 0, Nat.zero_le _, rfl, rfl, own_nil _ _ _, Below.refl _ _⟩
            case round =>
              obtain ⟨k, A, c, hk, rfl, rfl, hown, hbw⟩ := hrel
              have HO := Lib.hid hown
              have HBW := Lib.hid hbw
              clear hown hbw
              by_cases hlt : k < 2 * R
              · have hm := mul_bd (q := q) (k := k) (by omega) q1 q2
                go_wp2_with (at_builtin; refine wpList_push _ (by rfl) _ _ (by rfl) w8 w8.heap.size A k c _ (p + (k : Int) * q) HO.out HBW.out (by have := HBW.out.size; omega) (by omega) (by rfl) (by rfl) ?_; intro g2 cap w9 ho2 hb2)
                have HO2 := Lib.hid ho2
                have HB2 := Lib.hid hb2
                clear ho2 hb2
                go_wp2
                go_roundw
                case rel => exact ⟨k + 1, some ⟨g2, 0, none⟩, cap, by omega, by go_num, rfl, by rw [evenL_snoc]; exact HO2.out, HB2.out⟩
                case measure => simp [intOf]; omega
              · have hk2 : k = 2 * R := by omega
                have HK2 := Lib.hid hk2
                have HW := Lib.hid (RdI.own HO.out)
                have hF0 : Ph.lapErr (evenL p q k) 1000 = 0 := Ph.lapErr_zero.2 ⟨by rw [evenL_length]; omega, by rw [evenL_length]; omega, evenL_allIn (by omega) p1 p2 q1 q2⟩
                have hlen : (Ph.lapF (evenL p q k)).length = k := by rw [Ph.lapF_length _ (by rw [evenL_length]; omega), evenL_length]
                have HM := Lib.hid (lapF_ok A k c (evenL p q k) wr _ HW.out (Nat.le_refl _) hF0)
                have HLN := Lib.hid hlen
                clear hk2 hF0 hlen
                go_wp2_with fail
                refine HM.out.mono ?_
                rintro e w9 ⟨AY, cy, rfl, hown, hbw⟩
                rw [HLN.out] at hown ⊢
                obtain ⟨g9, rfl, _, _⟩ := own_form hown (by omega)
                have HO9 := Lib.hid hown
                have HB9 := Lib.hid (UB.out.trans ((HBW.out.trans (hbw.mono HBW.out.size)).mono UB.out.size))
                have hcell : Hid (∀ j, j < R → w9.cell? ⟨g9, R + j, none⟩ = some (.int .i64 (if j + 1 < R then 0 else q))) := Lib.hid fun j hj => by
                  have h2 := HK2.out
                  rw [HO9.out.cellAt (R + j) (by omega), ivals_get (by rw [HLN.out]; omega), h2, evenL_hi _ _ _ _ hj]
                have hne : ((k : Int) != 2 * r) = false := by simp; omega
                clear hown hbw HM HW HO
                go_wp2_with fail
                go_loop [23] (fun i => ∃ j : Nat, j + 1 ≤ R ∧ i = .int .i64 ((R : Int) + j)) (fun i => 2 * R - (intOf i).toNat)
                case atStart => exact ⟨0, by omega, by rw [hRh.out]; simp⟩
                case round =>
                  obtain ⟨j, hj, rfl⟩ := hrel
                  by_cases hlt2 : j + 1 < R
                  · have hc := hcell.out j (by omega)
                    rw [if_pos hlt2] at hc
                    have k1 : ((R : Int) + (j : Int)).toNat = R + j := by omega
                    have k2 : (R : Int) + (j : Int) < (k : Int) := by omega
                    go_wp2_with fail
                    go_round
                    case rel => exact ⟨j + 1, by omega, by go_num⟩
                    case measure => simp [intOf]; omega
                  · have hc := hcell.out j (by omega)
                    rw [if_neg hlt2] at hc
                    have k1 : (2 * r - 1).toNat = R + j := by omega
                    have k2 : 2 * r - 1 < (k : Int) := by omega
                    go_wp2_with fail
                    go_ret
                    exact ⟨ret_true (by simp), HB9.out⟩
          · have hrr : p < -400 ∨ (¬ p < -400 ∧ 400 < p) ∨ (¬ p < -400 ∧ ¬ 400 < p ∧ q < -10) ∨ (¬ p < -400 ∧ ¬ 400 < p ∧ ¬ q < -10 ∧ 10 < q) ∨ (¬ p < -400 ∧ ¬ 400 < p ∧ ¬ q < -10 ∧ ¬ 10 < q ∧ r < 1) ∨ (¬ p < -400 ∧ ¬ 400 < p ∧ ¬ q < -10 ∧ ¬ 10 < q ∧ ¬ r < 1 ∧ 16 < r) := by omega
            clear hr
            rcases hrr with a1 | ⟨a1, a2⟩ | ⟨a1, a2, a3⟩ | ⟨a1, a2, a3, a4⟩ | ⟨a1, a2, a3, a4, a5⟩ | ⟨a1, a2, a3, a4, a5, a6⟩
            all_goals
              go_wp2_with fail
              go_ret
              exact ⟨rfl, UB.out⟩
end Go.Proofs.Ytmfddihgdnoecaa
