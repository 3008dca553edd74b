/- The walk of the law HornTells. -/
import Derived.Test.YtomaipmmjngdlaaDoorTold
import Derived.Test.YtomaipmmjngdlaaDoorRefHorn4
import Derived.Test.YtomaipmmjngdlaaDoorOpen
import Derived.Deep.DeepCutAuto
import Derived.Deep.CutBlock
import Derived.Deep.Cut
namespace Go.Proofs.YtomaipmmjngdlaaDoor
open Go.RowKit

theorem hornErr_bd (f l : List Int) : -100 ≤ hornErr f l ∧ hornErr f l ≤ 100 := by
  have hr : ∀ l : List Int, -100 ≤ Ph.rowErr f l ∧ Ph.rowErr f l ≤ 100 := by
    intro l
    induction l with
    | nil => simp [Ph.rowErr]
    | cons x l ih => rw [Ph.rowErr]; split; · omega
                     split <;> omega
  have := hr l
  unfold hornErr
  split
  · omega
  · split <;> omega
theorem decE_bd (f : List Int) (b : List Nat) (m : Int) : -100 ≤ decE f b m ∧ decE f b m ≤ 100 := by
  unfold decE
  split
  · omega
  · split
    · omega
    · split <;> omega
set_option maxHeartbeats 4000000 in
set_option maxRecDepth 1000000 in
theorem hornTells_walk (w : World) (A1 : Option Addr) (n1 c1 : Nat) (f : List Int) (h1 : RdI w w.heap.size A1 n1 f) (hb1 : n1 ≤ c1 ∧ c1 ≤ 17592186044415) (_ : ∀ x ∈ f, Is64 x) (A2 : Option Addr) (n2 c2 : Nat) (l : List Int) (h2 : RdI w w.heap.size A2 n2 l) (hb2 : n2 ≤ c2 ∧ c2 ≤ 17592186044415) (_ : ∀ x ∈ l, Is64 x) (s : ByteArray) (hs : s.size ≤ 140737488351232) (m : Int) (hg : Laid w) :
    Calls Tryd.prog 4 #[.slice A1 n1 c1, .slice A2 n2 c2, .string s, .int .i64 m] w fun e w' => e = .returned (.bool true) ∧ Below w.heap.size w w' := by
  have HG := Lib.hid hg
  have H1 := Lib.hid h1
  have H2 := Lib.hid h2
  have hn1 : n1 ≤ 100000000000000 := by omega
  have HRW := Lib.hid fun W hW1 hW2 => rhrow_any A1 n1 c1 f A2 n2 c2 l W w.heap.size hW1 hW2 hn1
  have HRN := Lib.hid fun W hW1 hW2 h0 => rneed_any A1 n1 c1 f A2 n2 c2 l W w.heap.size hW1 hW2 h0
  have HRH : Hid (hornErr f l = 0 → ∀ W, RdI W w.heap.size A1 n1 f → RdI W w.heap.size A2 n2 l → w.heap.size ≤ W.heap.size → Calls Tryd.prog 13 #[.slice A1 n1 c1, .slice A2 n2 c2] W fun e w' => e = .returned (.string (encS f l)) ∧ Below W.heap.size W w') := Lib.hid fun h W hW1 hW2 hBW => by
    have hz := hornErr_zero.1 h
    unfold encS
    rw [if_pos h]
    exact rhorn_ok A1 n1 c1 f A2 n2 c2 l W w.heap.size hW1 hW2 hBW hb1.1 hz.1 hz.2.1 hz.2.2
  have HE0 : Hid (hornErr f l ≠ 0 → encS f l = ByteArray.empty) := Lib.hid fun h => by unfold encS; rw [if_neg h]
  have HEN := Lib.hid fun W hW1 hW2 hBW => hencode_any A1 n1 c1 f A2 n2 c2 l W w.heap.size hW1 hW2 hBW hn1 hb2.1
  have HMO := Lib.hid fun W hW1 hW2 => hmost_told A1 n1 c1 f A2 n2 c2 l W w.heap.size hW1 hW2 hn1
  have HNL : Hid (0 ≤ (Ph.needs f l : Int) ∧ (hornErr f l = 0 → (Ph.needs f l : Int) ≤ 480)) := Lib.hid ⟨by omega, fun h => by
    have h1 := needs_le f l
    have h2 := (hornErr_zero.1 h).2.1
    omega⟩
  have HFB := Lib.hid (hornErr_bd f l)
  have HSH := Lib.hid fun W hW => rshares_any A1 n1 c1 f W w.heap.size hW hn1
  have HUN : Hid (shErr f = 0 → ∀ M : Nat, m = (M : Int) → M ≤ 60 → ∀ W, RdI W w.heap.size A1 n1 f → w.heap.size ≤ W.heap.size → Calls Tryd.prog 16 #[.slice A1 n1 c1, .string s, .int .i64 M] W (UnP (decR f (bytesOf s) M) W)) := Lib.hid fun h M hm hM W hW hBW => runhorn_any A1 n1 c1 f s M W w.heap.size hW hBW hb1.1 (shErr_zero.1 h) hM hs
  have HDE := Lib.hid fun W hW hBW => hdecode_any A1 n1 c1 f s m W w.heap.size hW hBW hn1
  have HDB := Lib.hid (decE_bd f (bytesOf s) m)
  have HD1 : Hid (shErr f ≠ 0 → decE f (bytesOf s) m = 3) := Lib.hid fun h => by unfold decE; rw [if_pos h]
  have HD2 : Hid (shErr f = 0 → (m < 0 ∨ 60 < m) → decE f (bytesOf s) m = 1) := Lib.hid fun h hm => by unfold decE; rw [if_neg (by omega), if_pos hm]
  have HD3 : Hid (shErr f = 0 → ∀ M : Nat, m = (M : Int) → M ≤ 60 → (∀ o, decR f (bytesOf s) M = some o → decE f (bytesOf s) m = 0 ∧ decL f (bytesOf s) m = o) ∧ (decR f (bytesOf s) M = none → decE f (bytesOf s) m = 2)) := Lib.hid fun h M hm hM => by
    subst hm
    constructor
    · intro o ho
      have hE : decE f (bytesOf s) M = 0 := by unfold decE; rw [if_neg (by omega), if_neg (by omega), Int.toNat_natCast, ho]; rfl
      exact ⟨hE, by unfold decL; rw [if_pos hE, Int.toNat_natCast, ho]; rfl⟩
    · intro ho
      unfold decE; rw [if_neg (by omega), if_neg (by omega), Int.toNat_natCast, ho]; rfl
  have HDL : Hid (decE f (bytesOf s) m ≠ 0 → decL f (bytesOf s) m = []) := Lib.hid fun h => by unfold decL; rw [if_neg h]
  obtain ⟨F, hF⟩ : ∃ F, F = hornErr f l := ⟨_, rfl⟩
  rw [← hF] at HRW HRN HRH HE0 HEN HMO HNL HFB
  obtain ⟨S, hS⟩ : ∃ S, S = encS f l := ⟨_, rfl⟩
  rw [← hS] at HRH HE0 HEN
  obtain ⟨D, hD⟩ : ∃ D : Int, D = (Ph.needs f l : Nat) := ⟨_, rfl⟩
  rw [← hD] at HRN HMO HNL
  obtain ⟨DE, hDE⟩ : ∃ E, E = decE f (bytesOf s) m := ⟨_, rfl⟩
  rw [← hDE] at HDE HDB HD1 HD2 HD3 HDL
  obtain ⟨DL, hDL⟩ : ∃ E, E = decL f (bytesOf s) m := ⟨_, rfl⟩
  rw [← hDL] at HDE HD3 HDL
  obtain ⟨O, hO⟩ : ∃ O, O = if F = 0 then 4 + D / 8 else 0 := ⟨_, rfl⟩
  rw [← hO] at HMO
  have HO := Lib.hid hO
  obtain ⟨SE, hSE⟩ : ∃ E, E = shErr f := ⟨_, rfl⟩
  rw [← hSE] at HSH HUN HD1 HD2 HD3
  obtain ⟨z, hz⟩ : ∃ z, z = decide (SE = 0) := ⟨_, rfl⟩
  rw [← hz] at HSH
  have HZ := Lib.hid hz
  obtain ⟨RR, hRR⟩ : ∃ R : Nat → Option (List Int), R = fun M => decR f (bytesOf s) M := ⟨_, rfl⟩
  have HUN2 : Hid (SE = 0 → ∀ M : Nat, m = (M : Int) → M ≤ 60 → ∀ W, RdI W w.heap.size A1 n1 f → w.heap.size ≤ W.heap.size → Calls Tryd.prog 16 #[.slice A1 n1 c1, .string s, .int .i64 M] W (UnP (RR M) W)) := by rw [hRR]; exact HUN
  have HD4 : Hid (SE = 0 → ∀ M : Nat, m = (M : Int) → M ≤ 60 → (∀ o, RR M = some o → DE = 0 ∧ DL = o) ∧ (RR M = none → DE = 2)) := by rw [hRR]; exact HD3
  clear h1 h2 hb1 hb2 hg hF hS hD hDE hDL hO hSE hRR HUN HD3 hs hz
  go_enter Tryd.func4, Tryd.ntmps4
  go_wp2_with fail
  refine (HRW.out _ H1.out H2.out).mono ?_
  rintro e wk ⟨rfl, rfl⟩
  go_upto_if 25 with (fail)
  go_cut [10, 11] (fun s10 s11 wx => s10 = .string S ∧ s11 = .int .i64 O ∧ Hid (Below w.heap.size w wx))
  case first =>
    by_cases hE : F = 0
    · have hEb : (F == 0) = true := by simp [hE]
      have HE := Lib.hid hE
      have hd0 := HNL.out.1
      have hd1 := HNL.out.2 hE
      have hq : D.tdiv 8 = D / 8 := Int.tdiv_eq_ediv_of_nonneg hd0
      have hO : Hid (O = 4 + D / 8) := Lib.hid (by rw [HO.out, if_pos hE])
      obtain ⟨K, hK⟩ : ∃ K, K = D / 8 := ⟨_, rfl⟩
      rw [← hK] at hq hO
      have hKb : 0 ≤ K ∧ K ≤ 60 := by omega
      have hKD : D / 8 = K := hK.symm
      clear hE hK
      go_wp2_with fail
      refine (HRH.out HE.out _ H1.out H2.out (Nat.le_refl _)).mono ?_
      rintro e w1 ⟨rfl, hb⟩
      have HB1 := Lib.hid hb
      clear hb
      go_wp2_with fail
      refine (HRN.out _ (H1.out.below HB1.out) (H2.out.below HB1.out) HE.out).mono ?_
      rintro e wk ⟨rfl, rfl⟩
      go_wp2_with fail
      go_meet
      case rel => exact ⟨rfl, by rw [hO.out], HB1⟩
    · have hEb : (F == 0) = false := by simp [hE]
      have hS : Hid (S = ByteArray.empty) := Lib.hid (HE0.out hE)
      have hO : Hid (O = 0) := Lib.hid (by rw [HO.out, if_neg hE])
      clear hE
      go_wp2_with fail
      go_meet
      case rel => exact ⟨by rw [hS.out]; rfl, by rw [hO.out], Lib.hid (Below.refl _ _)⟩
  case rest =>
    obtain ⟨rfl, rfl, HB1⟩ := hcut
    clear HRH HRN HE0 HO HNL HRW
    go_wp2_with fail
    refine (HEN.out _ (H1.out.below HB1.out) (H2.out.below HB1.out) HB1.out.size).mono ?_
    rintro e w2 ⟨rfl, hb⟩
    have HB2 := Lib.hid (below_on HB1.out hb)
    clear hb HB1 HEN
    go_wp2_with fail
    refine (herr_yes F _ (HG.out.below HB2.out) HFB.out).mono ?_
    rintro e w3 ⟨rfl, hb⟩
    have HB3 := Lib.hid (below_on HB2.out hb)
    clear hb HB2
    go_wp2_with fail
    refine (HMO.out _ (H1.out.below HB3.out) (H2.out.below HB3.out)).mono ?_
    rintro e wk ⟨rfl, rfl⟩
    go_wp2_with fail
    refine (herr_yes F _ (HG.out.below HB3.out) HFB.out).mono ?_
    rintro e w4 ⟨rfl, hb⟩
    have HB4 := Lib.hid (below_on HB3.out hb)
    clear hb HB3 HMO HFB H2
    go_wp2_with fail
    refine (HSH.out _ (H1.out.below HB4.out)).mono ?_
    rintro e wk ⟨rfl, rfl⟩
    go_upto_if 65 with (fail)
    go_cut [9, 17, 18] (fun s9 s17 _ wx => s9 = .int .i64 DE ∧ (∃ A n c, s17 = .slice A n c ∧ n ≤ 60 ∧ Hid (RdI wx wx.heap.size A n DL)) ∧ Hid (Below w.heap.size w wx))
    case first =>
      cases z with
      | true =>
        have HS0 : Hid (SE = 0) := Lib.hid (by have := HZ.out; simpa using this)
        clear HZ
        by_cases hm : m < 0 ∨ 60 < m
        · have HE : Hid (DE = 1) := Lib.hid (HD2.out HS0.out hm)
          have HL : Hid (DL = []) := Lib.hid (HDL.out (by rw [HE.out]; omega))
          have hc : m < 0 ∨ (¬ m < 0 ∧ 60 < m) := by omega
          clear hm HD4 HD2
          rcases hc with h1 | ⟨h1, h2⟩
          all_goals
            go_wp2_with fail
            go_meet
            case rel => exact ⟨by rw [HE.out], ⟨none, 0, 0, rfl, by omega, Lib.hid (by rw [HL.out]; exact RdI.nil)⟩, HB4⟩
        · obtain ⟨M, hMm⟩ := Int.eq_ofNat_of_zero_le (by omega : 0 ≤ m)
          have hM60 : M ≤ 60 := by omega
          have HU := Lib.hid (HUN2.out HS0.out M hMm hM60)
          have HDD := Lib.hid (HD4.out HS0.out M hMm hM60)
          have hm1 : ¬ m < 0 := by omega
          have hm2 : ¬ 60 < m := by omega
          rw [← hMm] at HU
          obtain ⟨R, hR⟩ : ∃ R, R = RR M := ⟨_, rfl⟩
          rw [← hR] at HU HDD
          clear hm hMm hR HD4 HD2
          cases R with
          | none =>
            have HE : Hid (DE = 2) := Lib.hid (HDD.out.2 rfl)
            have HL : Hid (DL = []) := Lib.hid (HDL.out (by rw [HE.out]; omega))
            clear HDD
            go_wp2_with fail
            refine (HU.out _ (H1.out.below HB4.out) HB4.out.size).mono ?_
            rintro e w5 ⟨A, n, c, rfl, hn, hr, hb⟩
            have HR5 := Lib.hid hr
            have HB5 := Lib.hid (below_on HB4.out hb)
            clear hb hr
            go_wp2_with fail
            go_meet
            case rel => exact ⟨by rw [HE.out], ⟨A, n, c, rfl, hn, Lib.hid (by rw [HL.out]; exact HR5.out)⟩, HB5⟩
          | some o =>
            have HE : Hid (DE = 0) := Lib.hid (HDD.out.1 o rfl).1
            have HL : Hid (DL = o) := Lib.hid (HDD.out.1 o rfl).2
            clear HDD
            go_wp2_with fail
            refine (HU.out _ (H1.out.below HB4.out) HB4.out.size).mono ?_
            rintro e w5 ⟨A, n, c, rfl, hn, hr, hb⟩
            have HR5 := Lib.hid hr
            have HB5 := Lib.hid (below_on HB4.out hb)
            clear hb hr
            go_wp2_with fail
            go_meet
            case rel => exact ⟨by rw [HE.out], ⟨A, n, c, rfl, hn, Lib.hid (by rw [HL.out]; exact HR5.out)⟩, HB5⟩
      | false =>
        have HE : Hid (DE = 3) := Lib.hid (HD1.out (by have := HZ.out; simpa using this))
        have HL : Hid (DL = []) := Lib.hid (HDL.out (by rw [HE.out]; omega))
        clear HZ
        go_wp2_with fail
        go_meet
        case rel => exact ⟨by rw [HE.out], ⟨none, 0, 0, rfl, by omega, Lib.hid (by rw [HL.out]; exact RdI.nil)⟩, HB4⟩
    case rest =>
      obtain ⟨rfl, ⟨A5, n5, c5, rfl, hn5, HR5⟩, HB5⟩ := hcut
      clear HB4 HUN2 HD1 HD2 HD4 HDL HSH HZ
      go_wp2_with fail
      refine (HDE.out _ (H1.out.below HB5.out) HB5.out.size).mono ?_
      rintro e w6 ⟨A6, n6, c6, rfl, hn6, _, hr, hb⟩
      have HB6 := Lib.hid (below_on HB5.out hb)
      have HR6 := Lib.hid hr
      have HQ6 := Lib.hid (HR5.out.on hb)
      clear hb hr HB5 HR5 HDE
      go_wp2_with fail
      refine (herr_yes DE _ (HG.out.below HB6.out) HDB.out).mono ?_
      rintro e w7 ⟨rfl, hb⟩
      have HB7 := Lib.hid (below_on HB6.out hb)
      have HR7 := Lib.hid (HR6.out.on hb)
      have HQ7 := Lib.hid (HQ6.out.on hb)
      clear hb HB6 HR6 HQ6
      go_wp2_with fail
      refine (ints_any A6 A5 n6 c6 n5 c5 _ _ _ _ _ HR7.out HQ7.out (Nat.le_refl _) (Nat.le_refl _) (by omega)).mono ?_
      rintro e w8 ⟨rfl, hb⟩
      have HB8 := Lib.hid (below_on HB7.out hb)
      rw [sameI_true.2 rfl]
      clear hb HB7 HR7 HQ7
      go_wp2_with fail
      go_ret
      exact ⟨ret_true (by simp), HB8.out⟩
end Go.Proofs.YtomaipmmjngdlaaDoor
