/- The walk of the law TreeBack. -/
import Derived.Test.YtgadgpkhkncnnaaTreeT
import Derived.Test.YtgadgpkhkncnnaaOpen
import Derived.Outline
import Derived.Deep.DeepCutAuto
import Derived.Deep.Cut
namespace Go.Proofs.Ytgadgpkhkncnnaa
open Go.RowKit

theorem getD_replicate (n i : Nat) (x : Int) : (List.replicate n x).getD i 0 = if i < n then x else 0 := by
  rw [List.getD_eq_getElem?_getD, List.getElem?_replicate]; split <;> rfl
theorem all_alike {l : List Int} (h : ∀ j, j < l.length → l.getD j 0 = l.getD 0 0) : l = List.replicate l.length (l.getD 0 0) := by
  apply Ph.ext_getD (by simp)
  intro i hi
  rw [getD_replicate, if_pos hi, h i hi]
theorem div_pow_succ (n i : Nat) : n / 2 ^ (i + 1) = n / 2 ^ i / 2 := by rw [Nat.pow_succ, Nat.div_div_eq_div_mul]
set_option maxHeartbeats 4000000 in
set_option maxRecDepth 1000000 in
theorem treeBack_walk (w : World) (A1 : Option Addr) (n1 c1 : Nat) (a : List Int) (h1 : RdI w w.heap.size A1 n1 a) (hb1 : n1 ≤ c1 ∧ c1 ≤ 17592186044415) (_ : ∀ x ∈ a, Is64 x) (v : Int) (A2 : Option Addr) (n2 c2 : Nat) (b : List Int) (h2 : RdI w w.heap.size A2 n2 b) (hb2 : n2 ≤ c2 ∧ c2 ≤ 17592186044415) (_ : ∀ x ∈ b, Is64 x) :
    Calls Try.prog 3 #[.slice A1 n1 c1, .int .i64 v, .slice A2 n2 c2] w fun e w' => e = .returned (.bool true) ∧ Below w.heap.size w w' := by
  have H1 := Lib.hid (h1.onAlloc (.cells #[.int .i64 1, .int .i64 2, .int .i64 3, .int .i64 6] 3))
  have H2 := Lib.hid (h2.onAlloc (.cells #[.int .i64 1, .int .i64 2, .int .i64 3, .int .i64 6] 3))
  have HB := Lib.hid (below_alloc0 w (.cells #[.int .i64 1, .int .i64 2, .int .i64 3, .int .i64 6] 3))
  have HR1 := Lib.hid (RdI.lit' w [1, 2, 3, 6] 3 #[.int .i64 1, .int .i64 2, .int .i64 3, .int .i64 6] rfl)
  have HM : Hid (Ph.treeF 2 [1, 2, 3, 6] = [2, -3, -1, -3]) := by unfold Hid; decide
  have HL1 := Lib.hid h1.len
  have HL2 := Lib.hid h2.len
  clear h1 h2
  go_enter Try.func3, Try.ntmps3
  go_wp2_with fail
  have hm := tfwd_ok _ 4 4 2 [1, 2, 3, 6] _ _ HR1.out (Nat.le_refl _) (by decide)
  rw [HM.out] at hm
  refine hm.mono ?_
  rintro e w1 ⟨A0, c0, rfl, hown, hbw⟩
  clear hm HR1 HM
  obtain ⟨g, rfl, hg0, hg1⟩ := own_form hown (by decide)
  have q0 := hown.cellAt 0 (by decide)
  have q1 := hown.cellAt 1 (by decide)
  have q2 := hown.cellAt 2 (by decide)
  have q3 := hown.cellAt 3 (by decide)
  have f0 : w1.cell? ⟨g, 0, none⟩ = some (.int .i64 2) := q0
  have f1 : w1.cell? ⟨g, 1, none⟩ = some (.int .i64 (-3)) := q1
  have f2 : w1.cell? ⟨g, 2, none⟩ = some (.int .i64 (-1)) := q2
  have f3 : w1.cell? ⟨g, 3, none⟩ = some (.int .i64 (-3)) := q3
  have H1' := Lib.hid (H1.out.on hbw)
  have H2' := Lib.hid (H2.out.on hbw)
  have HB' := Lib.hid (below_on HB.out hbw)
  clear hown hbw q0 q1 q2 q3 H1 H2 HB hg0 hg1
  go_wp2_with fail
  refine (tinv_told A2 n2 c2 b v w1 _ H2'.out (Nat.le_refl _) (by omega)).mono ?_
  rintro e w2 ⟨X, rfl, hX, hbw⟩
  have HX := Lib.hid hX
  have K1 := Lib.hid (H1'.out.on hbw)
  have K2 := Lib.hid (H2'.out.on hbw)
  have KB := Lib.hid (below_on HB'.out hbw)
  clear hX hbw H1' H2' HB' f0 f1 f2 f3
  go_upto_region 5 with (fail)
  go_cut [9, 10, 69] (fun s9 _ s69 wx => ∃ B : Bool, s69 = .bool B ∧ Hid (B = true → tinvErr b v = 0 ∧ Ph.soundErr (tinvOut b v) = 0 ∧ ∃ A c, s9 = .slice A n2 c ∧ n2 ≤ c ∧ RdI wx wx.heap.size A n2 (tinvOut b v)) ∧ Hid (RdI wx wx.heap.size A1 n1 a) ∧ Hid (RdI wx wx.heap.size A2 n2 b) ∧ Hid (Below w.heap.size w wx))
  case first =>
    by_cases hI : tinvErr b v = 0
    · have he := errV_of hI
      obtain ⟨AX, cx, rfl, hcx, hrx⟩ := HX.out hI
      have X2 := Lib.hid hrx
      have hn2 : n2 ≤ 32 := by have := (treeErr_zero.1 (tinvErr_zero hI).1).1; have := HL2.out; omega
      have hIh := Lib.hid hI
      clear hrx HX hI
      go_wp2_with fail
      refine (check_any AX n2 cx (tinvOut b v) w2 _ X2.out (Nat.le_refl _) (by omega)).mono ?_
      rintro e w3 ⟨rfl, hbw⟩
      have Y2 := Lib.hid (X2.out.on hbw)
      have L1 := Lib.hid (K1.out.on hbw)
      have L2 := Lib.hid (K2.out.on hbw)
      have LB := Lib.hid (below_on KB.out hbw)
      clear hbw X2 K1 K2 KB
      by_cases hC : Ph.soundErr (tinvOut b v) = 0
      · rw [hC, errV_zero]
        have hCh := Lib.hid hC
        clear hC
        go_wp2_with fail
        go_meet
        case rel => exact ⟨true, rfl, Lib.hid (fun _ => ⟨hIh.out, hCh.out, AX, cx, rfl, hcx, Y2.out⟩), L1, L2, LB⟩
      · rw [errV_ne hC]
        go_wp2_with fail
        go_meet
        case rel => exact ⟨false, rfl, Lib.hid (fun h => by cases h), L1, L2, LB⟩
    · have he := errV_ne hI
      clear hI HX
      go_wp2_with fail
      go_meet
      case rel => exact ⟨false, rfl, Lib.hid (fun h => by cases h), K1, K2, KB⟩
  case rest =>
    obtain ⟨B, rfl, HBB, N1, N2, NB⟩ := hcut
    clear K1 K2 KB HX
    rename World => wc
    go_upto_if 69 with (fail)
    go_cut [9, 10] (fun _ _ wx => Hid (RdI wx wx.heap.size A1 n1 a) ∧ Hid (Below w.heap.size w wx))
    case first =>
      cases B
      · go_wp2_with fail
        go_meet
        case rel => exact ⟨N1, NB⟩
      · obtain ⟨hI, hC, AX, cx, rfl, hcx, hrx⟩ := HBB.out rfl
        obtain ⟨hI0, hI2⟩ := tinvErr_zero hI
        obtain ⟨V, rfl⟩ := treeErr_nat hI0
        have hI3 := treeErr_zero.1 hI0
        have hC1 := Ph.soundErr_zero.1 hC
        have hbl := HL2.out
        have hmd := treeErr_mod hI0
        rw [Int.toNat_natCast] at hI2
        have hli : (tinvOut b V).length = n2 := by rw [Ph.treeI_length V b _ hmd hI2, hbl]
        have hF0 : treeErr (tinvOut b V) V 1000 = 0 := treeErr_zero.2 ⟨hC1.1, hI3.2.1, hI3.2.2.1, by rw [hli, ← hbl]; exact hI3.2.2.2.1, hC1.2⟩
        have hm := tfwd_ok AX n2 cx V (tinvOut b V) wc _ hrx (Nat.le_refl _) hF0
        rw [Ph.treeF_treeI V b _ hmd hI2] at hm
        have HMM := Lib.hid hm
        have hn2 : n2 ≤ 32 := by omega
        clear hI hC hrx hI2 hI3 hC1 hli hF0 hm hbl HBB hI0 hmd
        go_wp2_with fail
        refine HMM.out.mono ?_
        rintro e w4 ⟨AY, cy, rfl, hown, hbw⟩
        have Z2 := Lib.hid (RdI.own hown)
        have M1 := Lib.hid (N1.out.on hbw)
        have M2 := Lib.hid (N2.out.on hbw)
        have MB := Lib.hid (below_on NB.out hbw)
        clear hown hbw N1 N2 NB HMM
        go_wp2_with fail
        have hbl := HL2.out
        refine (ints_any AY A2 _ cy n2 c2 b b _ _ _ Z2.out M2.out (Nat.le_refl _) (Nat.le_refl _) (by omega)).mono ?_
        rintro e wz ⟨rfl, hbw⟩
        have P1 := Lib.hid (M1.out.on hbw)
        have PB := Lib.hid (below_on MB.out hbw)
        rw [sameI_true.2 (rfl : b = b)]
        clear hbw M1 M2 MB Z2 hbl
        go_wp2_with fail
        go_meet
        case rel => exact ⟨P1, PB⟩
    case rest =>
      obtain ⟨N1', NB'⟩ := hcut
      clear N1 NB HBB N2
      by_cases hI : treeErr a v 1000 = 0
      · obtain ⟨V, rfl⟩ := treeErr_nat hI
        have hI3 := treeErr_zero.1 hI
        have hal := HL1.out
        have hmd := treeErr_mod hI
        have hn1 : n1 ≤ 32 := by omega
        have hFW := Lib.hid fun W hW => tfwd_ok A1 n1 c1 V a W W.heap.size hW (Nat.le_refl _) hI
        have hlF := Ph.treeF_length V a hmd
        have hF0 : treeErr (Ph.treeF V a) V 2000 = 0 := treeErr_zero.2 ⟨by omega, hI3.2.1, hI3.2.2.1, by rw [hlF]; exact hI3.2.2.2.1, Ph.treeF_allIn (M := 1000) (by omega) V a hI3.2.2.2.2⟩
        have hIN := Lib.hid fun W A c hW => tinv_ok A n1 c V (Ph.treeF V a) W W.heap.size hW (Nat.le_refl _) hF0
        rw [Ph.treeI_treeF V a hmd hI3.2.2.2.2] at hIN
        have hV5 : V ≤ 5 := by omega
        have HMD : Hid (n1 % 2 ^ V = 0) := Lib.hid (by rw [← hal]; exact hmd)
        obtain ⟨Y, hY⟩ : ∃ Y, Y = Ph.treeF V a := ⟨_, rfl⟩
        have HYL : Hid (Y.length = n1) := Lib.hid (by rw [hY, hlF, hal])
        rw [← hY] at hFW hIN
        have HY := Lib.hid hY
        clear hI hI3 hal hmd hlF hF0 hY
        go_wp2_with fail
        refine (hFW.out _ N1'.out).mono ?_
        rintro e w5 ⟨AY, cy, rfl, hown, hbw⟩
        have Z2 := Lib.hid (RdI.own hown)
        have M1 := Lib.hid (N1'.out.on hbw)
        have MB := Lib.hid (below_on NB'.out hbw)
        clear hown hbw N1' NB' hFW
        go_wp2_with fail
        refine (hIN.out _ _ _ Z2.out).mono ?_
        rintro e w6 ⟨AZ, cz, rfl, hown, hbw⟩
        have HZ := Lib.hid (RdI.own hown)
        have Z3 := Lib.hid (Z2.out.on hbw)
        have P1 := Lib.hid (M1.out.on hbw)
        have PB := Lib.hid (below_on MB.out hbw)
        clear hown hbw M1 MB Z2 hIN
        go_wp2_with fail
        have hbl := HL1.out
        refine (ints_any AZ A1 _ cz n1 c1 a a _ _ _ HZ.out P1.out (Nat.le_refl _) (Nat.le_refl _) (by omega)).mono ?_
        rintro e w7 ⟨rfl, hbw⟩
        have Z4 := Lib.hid (Z3.out.on hbw)
        have Q1 := Lib.hid (P1.out.on hbw)
        have QB := Lib.hid (below_on PB.out hbw)
        rw [sameI_true.2 (rfl : a = a)]
        have hv0 : ¬ ((V : Int) < 0) := by omega
        have hv5 : ¬ ((5 : Int) < (V : Int)) := by omega
        clear hbw P1 PB Z3 HZ hbl
        go_wp2_with fail
        rename World => w8
        go_loopw [16, 17] (fun al i wr => ∃ (k : Nat) (B : Bool), 1 ≤ k ∧ (k ≤ n1 ∨ k = 1) ∧ i = .int .i64 k ∧ al = .bool B ∧ Hid (B = true ↔ 0 < n1 ∧ ∀ j, j < k → j < n1 → a.getD j 0 = a.getD 0 0) ∧ Below w8.heap.size w8 wr) (fun _ i _ => n1 + 1 - (intOf i).toNat)
        case atStart => exact ⟨1, decide (0 < n1), Nat.le_refl _, .inr rfl, rfl, rfl, Lib.hid ⟨fun h => ⟨by simpa using h, fun j hj _ => by rw [show j = 0 by omega]⟩, fun h => by simpa using h.1⟩, Below.refl _ _⟩
        case round =>
          obtain ⟨k, B, hk1, hkn, rfl, rfl, HBI, hbw⟩ := hrel
          have HBW := Lib.hid hbw
          by_cases hlt : k < n1
          · obtain ⟨b1, o1, hA, _, hc1⟩ := (Q1.out.below hbw).at_ hlt
            obtain ⟨b0, o0, hA0, _, hc0⟩ := (Q1.out.below hbw).at_ (k := 0) (by omega)
            rw [hA] at hA0
            obtain ⟨rfl, rfl⟩ : b1 = b0 ∧ o1 = o0 := by simpa using hA0
            rw [Nat.add_zero] at hc0
            have hlt' : (k : Int) < (n1 : Int) := by omega
            have hn0 : (0 : Int) < (n1 : Int) := by omega
            have HSN : Hid (∀ B2 : Bool, (B2 = true ↔ B = true ∧ a.getD k 0 = a.getD 0 0) → (B2 = true ↔ 0 < n1 ∧ ∀ j, j < k + 1 → j < n1 → a.getD j 0 = a.getD 0 0)) := Lib.hid fun B2 h => by
              rw [h, HBI.out]
              constructor
              · rintro ⟨⟨h1, h2⟩, h3⟩
                refine ⟨h1, fun j hj hjn => ?_⟩
                rcases Nat.lt_or_ge j k with h4 | h4
                · exact h2 j h4 hjn
                · rw [show j = k by omega]; exact h3
              · rintro ⟨h1, h2⟩
                exact ⟨⟨h1, fun j hj hjn => h2 j (by omega) hjn⟩, h2 k (by omega) hlt⟩
            obtain ⟨X, hX⟩ : ∃ X, X = a.getD k 0 := ⟨_, rfl⟩
            obtain ⟨Y0, hY0⟩ : ∃ X, X = a.getD 0 0 := ⟨_, rfl⟩
            rw [← hX] at hc1 HSN
            rw [← hY0] at hc0 HSN HBI
            have HYe := Lib.hid hY0
            subst hA
            clear hX hY0 hA0 hbw
            cases B with
            | false =>
              go_wp2_with fail
              go_quiet (fail)
              go_wp2_with fail
              go_roundw
              case rel => exact ⟨k + 1, false, by omega, .inl (by omega), by go_num, rfl, Lib.hid (by rw [← HYe.out]; exact HSN.out false (by simp)), below_drewN' HBW.out _⟩
              case measure => simp [intOf]; omega
            | true =>
              by_cases he : X = Y0
              · have he2 : (X == Y0) = true := by simpa using he
                go_wp2_with fail
                go_quiet (fail)
                go_wp2_with fail
                go_roundw
                case rel => exact ⟨k + 1, true, by omega, .inl (by omega), by go_num, rfl, Lib.hid (by rw [← HYe.out]; exact HSN.out true (by simp [he])), below_drewN' HBW.out _⟩
                case measure => simp [intOf]; omega
              · have he2 : (X == Y0) = false := by simpa using he
                go_wp2_with fail
                go_quiet (fail)
                go_wp2_with fail
                go_roundw
                case rel => exact ⟨k + 1, false, by omega, .inl (by omega), by go_num, rfl, Lib.hid (by rw [← HYe.out]; exact HSN.out false (by simp [he])), below_drewN' HBW.out _⟩
                case measure => simp [intOf]; omega
          · have hge : (n1 : Int) ≤ (k : Int) := by omega
            have QB2 := Lib.hid (below_on QB.out hbw)
            cases B with
            | false =>
              go_wp2_with fail
              go_ret
              exact ⟨rfl, QB2.out⟩
            | true =>
              have hall := HBI.out.1 rfl
              have hrep := all_alike (l := a) (fun j hj => hall.2 j (by have := HL1.out; omega) (by have := HL1.out; omega))
              have hn0 : 0 < n1 := hall.1
              rw [HL1.out] at hrep
              have hYr : Y = List.replicate (n1 / 2 ^ V) (a.getD 0 0) ++ List.replicate (n1 - n1 / 2 ^ V) 0 := by
                rw [HY.out]
                conv => lhs; rw [hrep]
                exact Ph.treeF_alike _ _ _ HMD.out
              have hYat : ∀ j, j < n1 → Y.getD j 0 = if j < n1 / 2 ^ V then a.getD 0 0 else 0 := fun j hj => by
                rw [hYr]
                by_cases h : j < n1 / 2 ^ V
                · rw [Ph.getD_left _ _ _ (by simpa using h), getD_replicate, if_pos h]
                · rw [Ph.getD_right _ _ _ (by simp; omega), getD_replicate, if_neg h]; split <;> rfl
              have HYA := Lib.hid hYat
              have Q2 := Lib.hid (Q1.out.on hbw)
              have Z5 := Lib.hid (Z4.out.on hbw)
              clear hall hrep hYr hYat hbw Q1 Z4 HBI HBW
              rename World => w9
              go_wp2_with fail
              go_loop [18, 19] (fun mm i => ∃ k M : Nat, k ≤ V ∧ i = .int .i64 k ∧ mm = .int .i64 M ∧ Hid (M = n1 / 2 ^ k)) (fun _ i => V - (intOf i).toNat)
              case atStart => exact ⟨0, n1, Nat.zero_le _, rfl, rfl, Lib.hid (by simp)⟩
              case round =>
                obtain ⟨q, M, hq, rfl, rfl, HMq⟩ := hrel
                by_cases hlv : q < V
                · have hlv' : (q : Int) < (V : Int) := by omega
                  have hM32 : M ≤ 32 := by rw [HMq.out]; exact Nat.le_trans (Nat.div_le_self _ _) hn1
                  go_wp2_with fail
                  go_round
                  case rel => exact ⟨q + 1, M / 2, by omega, by go_num, by congr 1, Lib.hid (by rw [div_pow_succ, HMq.out])⟩
                  case measure => simp [intOf]; omega
                · obtain rfl : q = V := by omega
                  go_wp2_with fail
                  go_loopw [20] (fun i wr => ∃ j : Nat, j ≤ n1 ∧ i = .int .i64 j ∧ Below w9.heap.size w9 wr) (fun i _ => n1 - (intOf i).toNat)
                  case atStart => exact ⟨0, Nat.zero_le _, rfl, Below.refl _ _⟩
                  case round =>
                    obtain ⟨j, hj, rfl, hbw⟩ := hrel
                    have HBW := Lib.hid hbw
                    by_cases hjn : j < n1
                    · obtain ⟨b1, o1, hAy, _, hc1⟩ := (Z5.out.below hbw).at_ hjn
                      obtain ⟨b0, o0, hA0, _, hc0⟩ := (Q2.out.below hbw).at_ (k := 0) hn0
                      rw [HYA.out j hjn, ← HMq.out] at hc1
                      rw [Nat.add_zero] at hc0
                      obtain ⟨Y0, hY0⟩ : ∃ X, X = a.getD 0 0 := ⟨_, rfl⟩
                      rw [← hY0] at hc0 hc1
                      subst hAy
                      subst hA0
                      have hjn' : (j : Int) < (n1 : Int) := by omega
                      have hn0' : (0 : Int) < (n1 : Int) := by omega
                      clear hbw hY0
                      by_cases hjM : j < M
                      · rw [if_pos hjM] at hc1
                        have d1 : (j : Int) < (M : Int) := by omega
                        have d2 : ¬ (M : Int) ≤ (j : Int) := by omega
                        have d3 : decide (M ≤ j) = false := by simp; omega
                        have d4 : ¬ M ≤ j := by omega
                        go_wp2_with fail
                        go_quiet (fail)
                        go_wp2_with fail
                        go_roundw
                        case rel => exact ⟨j + 1, by omega, by go_num, below_drewN' HBW.out _⟩
                        case measure => simp [intOf]; omega
                      · rw [if_neg hjM] at hc1
                        have d1 : (M : Int) ≤ (j : Int) := by omega
                        have d2 : ¬ (j : Int) < (M : Int) := by omega
                        have d3 : decide (j < M) = false := by simp; omega
                        have d4 : M ≤ j := by omega
                        have d5 : decide (M ≤ j) = true := by simp; omega
                        go_wp2_with fail
                        go_quiet (fail)
                        go_wp2_with fail
                        go_roundw
                        case rel => exact ⟨j + 1, by omega, by go_num, below_drewN' HBW.out _⟩
                        case measure => simp [intOf]; omega
                    · have hjn' : (n1 : Int) ≤ (j : Int) := by omega
                      have RB := Lib.hid (below_on QB2.out hbw)
                      clear hbw
                      go_wp2_with fail
                      go_ret
                      exact ⟨rfl, RB.out⟩
      · have HF := Lib.hid (tfwd_no A1 n1 c1 a v _ _ N1'.out (Nat.le_refl _) (by omega) hI)
        have he := errV_ne hI
        clear hI
        go_wp2_with fail
        refine HF.out.mono ?_
        rintro e w5 ⟨rfl, hbw⟩
        have RB := Lib.hid (below_on NB'.out hbw)
        clear hbw HF
        go_wp2_with fail
        go_ret
        exact ⟨rfl, RB.out⟩
end Go.Proofs.Ytgadgpkhkncnnaa
