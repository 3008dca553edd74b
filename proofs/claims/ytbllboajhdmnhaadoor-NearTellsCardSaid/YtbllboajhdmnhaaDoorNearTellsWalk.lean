/- The walk of the law NearTells. -/
import Derived.Test.YtbllboajhdmnhaaDoorTold
import Derived.Test.YtbllboajhdmnhaaDoorRefNear
import Derived.Test.YtbllboajhdmnhaaDoorOpen
import Derived.Deep.DeepCutAuto
import Derived.Deep.CutBlock
import Derived.Deep.Cut
namespace Go.Proofs.YtbllboajhdmnhaaDoor
open Go.RowKit

/-- Pulses are told, and a fault: none of them, if there is one. -/
def TellN (E : Int) (l : List Int) (w : World) (e : Ending) (w' : World) : Prop :=
  ∃ A n c, e = .returned (.tuple #[.slice A n c, errV E]) ∧ n ≤ 100000 ∧ RdI w' w'.heap.size A n (if E = 0 then l else []) ∧ Below w.heap.size w w'
theorem nearOf_told (A : Option Addr) (n c : Nat) (v : List Int) (k : Int) (w : World) (B : Nat) (h : RdI w B A n v) (hB : B ≤ w.heap.size) (hn : n ≤ 100000000000000) :
    Calls Tryd.prog 67 #[.slice A n c, .int .i64 k] w (TellN (nearOfErr v k) (Ph.near v k) w) := by
  by_cases h0 : nearOfErr v k = 0
  · have hf := near_facts h0
    have hv := nearErr_zero.1 (nearOfErr_zero.1 h0).1
    refine (nearOf_ok A n c v k w B h hB h0).mono ?_
    rintro e w' ⟨A', c', rfl, ho, hb⟩
    exact ⟨A', _, c', by rw [h0]; rfl, by omega, by rw [if_pos h0]; exact RdI.own ho, hb⟩
  · refine (nearOf_no A n c v k w B h hB hn h0).mono ?_
    rintro e w' ⟨rfl, hb⟩
    exact ⟨none, 0, 0, rfl, by omega, by rw [if_neg h0]; exact RdI.nil, hb⟩
theorem nfar_told (A : Option Addr) (n c : Nat) (v : List Int) (A2 : Option Addr) (n2 c2 : Nat) (p : List Int) (w : World) (B B2 : Nat) (h : RdI w B A n v) (h2 : RdI w B2 A2 n2 p) (hB : B ≤ w.heap.size) (hB2 : B2 ≤ w.heap.size) (hn : n ≤ 100000000000000) (hn2 : n2 ≤ 100000000000000) :
    Calls Tryd.prog 69 #[.slice A n c, .slice A2 n2 c2] w fun e w' => e = .returned (.tuple #[.int .i64 (if farErr v p = 0 then Ph.farFrom v p else 0), errV (farErr v p)]) ∧ Below w.heap.size w w' := by
  by_cases h0 : farErr v p = 0
  · rw [if_pos h0, h0]
    exact nfar_ok A n c v A2 n2 c2 p w B B2 h h2 hB hB2 h0
  · rw [if_neg h0]
    exact nfar_no A n c v A2 n2 c2 p w B B2 h h2 hB hB2 hn hn2 h0
theorem nearErr_bd (v : List Int) : -100 ≤ nearErr v ∧ nearErr v ≤ 100 := by
  unfold nearErr Ph.soundErr
  split
  · omega
  · split
    · omega
    · split <;> omega
theorem pulsesErr_bd (v : List Int) : -100 ≤ Ph.pulsesErr v ∧ Ph.pulsesErr v ≤ 100 := by unfold Ph.pulsesErr; split <;> (try split) <;> (try split) <;> omega
theorem nearOfErr_bd (v : List Int) (k : Int) : -100 ≤ nearOfErr v k ∧ nearOfErr v k ≤ 100 := by
  have := nearErr_bd v
  unfold nearOfErr
  split
  · exact this
  · split
    · omega
    · split <;> omega
theorem farErr_bd (v p : List Int) : -100 ≤ farErr v p ∧ farErr v p ≤ 100 := by
  have := nearErr_bd v
  have := pulsesErr_bd p
  unfold farErr
  split
  · omega
  · split
    · omega
    · split <;> omega
set_option maxHeartbeats 4000000 in
set_option maxRecDepth 1000000 in
theorem nearTells_walk (w : World) (A : Option Addr) (n c : Nat) (v : List Int) (h : RdI w w.heap.size A n v) (hb : n ≤ c ∧ c ≤ 17592186044415) (_ : ∀ x ∈ v, Is64 x) (k : Int) (A2 : Option Addr) (n2 c2 : Nat) (p : List Int) (h2 : RdI w w.heap.size A2 n2 p) (hb2 : n2 ≤ c2 ∧ c2 ≤ 17592186044415) (_ : ∀ x ∈ p, Is64 x) (hg : Laid w) :
    Calls Tryd.prog 12 #[.slice A n c, .int .i64 k, .slice A2 n2 c2] w fun e w' => e = .returned (.bool true) ∧ Below w.heap.size w w' := by
  have HG := Lib.hid hg
  have H := Lib.hid h
  have H2 := Lib.hid h2
  have HL := Lib.hid h.len
  have HL2 := Lib.hid h2.len
  have hn : n ≤ 100000000000000 := by omega
  have hn2 : n2 ≤ 100000000000000 := by omega
  have HRS := Lib.hid fun W hW => rsound_any A n c v W w.heap.size hW hn
  have HNE : Hid (nearErr v = if 6 < n then 4 else Ph.soundErr v) := Lib.hid (by unfold nearErr; rw [h.len])
  have HRL : Hid (nearErr v = 0 → ∀ W, RdI W w.heap.size A n v → Calls Tryd.prog 65 #[.slice A n c] W fun e w' => e = .returned (.int .i64 (Ph.loud v)) ∧ W = w') := Lib.hid fun hz W hW => rloud_any A n c v W w.heap.size hW (Ph.allIn_mono (nearErr_zero.1 hz).2 (by omega)) (by have := (nearErr_zero.1 hz).1; rw [h.len] at this; omega)
  have HRN : Hid (nearOfErr v k = 0 → ∀ W, RdI W w.heap.size A n v → w.heap.size ≤ W.heap.size → Calls Tryd.prog 66 #[.slice A n c, .int .i64 k] W fun e w' => ∃ A' c', e = .returned (.slice A' n c') ∧ RdI w' w'.heap.size A' n (Ph.near v k) ∧ Below W.heap.size W w') := Lib.hid fun hz W hW hBW => by
    obtain ⟨hv, hk, hL⟩ := nearOfErr_zero.1 hz
    have hv2 := nearErr_zero.1 hv
    exact rnear_any A n c v k W w.heap.size hW hBW hv2.2 (by rw [← h.len]; exact hv2.1) hk hL
  have HNO := Lib.hid fun W hW hBW => nearOf_told A n c v k W w.heap.size hW hBW hn
  have HRP := Lib.hid fun W hW => rpulses_any A2 n2 c2 p W w.heap.size hW hn2
  have HNF := Lib.hid fun W hW hW2 hBW => nfar_told A n c v A2 n2 c2 p W w.heap.size w.heap.size hW hW2 hBW hBW hn hn2
  have HB1 := Lib.hid (nearOfErr_bd v k)
  have HB2 := Lib.hid (farErr_bd v p)
  have HOE : Hid (nearOfErr v k = if nearErr v ≠ 0 then nearErr v else if k < 0 ∨ 8 < k then 1 else if 0 < k ∧ Ph.loud v = 0 then 5 else 0) := Lib.hid rfl
  have HFE : Hid (farErr v p = if nearErr v ≠ 0 then nearErr v else if Ph.pulsesErr p ≠ 0 then Ph.pulsesErr p else if n ≠ n2 then 3 else 0) := Lib.hid (by unfold farErr; rw [h.len, h2.len])
  have hlv0 := Ph.loud_nonneg v
  have HN6 : Hid (nearErr v = 0 → n ≤ 6) := Lib.hid fun hz => by rw [← h.len]; exact (nearErr_zero.1 hz).1
  have HVB : Hid (nearErr v = 0 → (∀ i, -1000 ≤ v.getD i 0 ∧ v.getD i 0 ≤ 1000) ∧ Ph.loud v ≤ 6000) := Lib.hid fun hz => by
    have hz2 := nearErr_zero.1 hz
    exact ⟨Ph.allIn_getD hz2.2 (by omega), by have := Ph.loud_le hz2.2; omega⟩
  have HPB : Hid (Ph.pulsesErr p = 0 → (∀ i, -8 ≤ p.getD i 0 ∧ p.getD i 0 ≤ 8) ∧ 0 ≤ Ph.loud p ∧ Ph.loud p ≤ 8) := Lib.hid fun hz => by
    have hz2 := Ph.pulsesErr_zero.1 hz
    exact ⟨Ph.allIn_getD hz2.2.1 (by omega), Ph.loud_nonneg p, hz2.2.2⟩
  have HFF : Hid (Ph.farFrom v p = Ph.sumTo n (fun i => Ph.far (Ph.loud p * v.getD i 0 - Ph.loud v * p.getD i 0))) := Lib.hid (by unfold Ph.farFrom; rw [h.len])
  obtain ⟨D, hD⟩ : ∃ D, D = (if farErr v p = 0 then Ph.farFrom v p else 0) := ⟨_, rfl⟩
  rw [← hD] at HNF
  obtain ⟨E, hE⟩ : ∃ E, E = nearErr v := ⟨_, rfl⟩
  obtain ⟨NE, hNE⟩ : ∃ E, E = nearOfErr v k := ⟨_, rfl⟩
  obtain ⟨FE, hFE⟩ : ∃ E, E = farErr v p := ⟨_, rfl⟩
  obtain ⟨PE, hPE⟩ : ∃ E, E = Ph.pulsesErr p := ⟨_, rfl⟩
  obtain ⟨SE, hSE⟩ : ∃ E, E = Ph.soundErr v := ⟨_, rfl⟩
  obtain ⟨LV, hLV⟩ : ∃ E, E = Ph.loud v := ⟨_, rfl⟩
  obtain ⟨LP, hLP⟩ : ∃ E, E = Ph.loud p := ⟨_, rfl⟩
  obtain ⟨Y, hY⟩ : ∃ Y, Y = Ph.near v k := ⟨_, rfl⟩
  obtain ⟨FF, hFF⟩ : ∃ Y, Y = Ph.farFrom v p := ⟨_, rfl⟩
  rw [← hE] at HNE HRL HOE HFE HN6 HVB
  rw [← hNE] at HRN HNO HB1 HOE
  rw [← hFE] at HNF HB2 HFE hD
  rw [← hPE] at HRP HFE HPB
  rw [← hSE] at HRS HNE
  rw [← hLV] at HRL HOE HVB HFF hlv0
  rw [← hLP] at HRP HPB HFF
  rw [← hY] at HRN HNO
  rw [← hFF] at HFF hD
  have HD := Lib.hid hD
  clear h h2 hb hb2 hg hE hNE hFE hPE hSE hLV hLP hY hFF hD
  go_enter Tryd.func12, Tryd.ntmps12
  go_upto_if 20 with (fail)
  go_cut [7] (fun s7 wx => s7 = .int .i64 E ∧ Hid (Below w.heap.size w wx))
  case first =>
    by_cases h6 : 6 < n
    · have HE : Hid (E = 4) := Lib.hid (by rw [HNE.out, if_pos h6])
      go_wp2_with fail
      go_meet
      case rel => exact ⟨by rw [HE.out], Lib.hid (Below.refl _ _)⟩
    · have HE : Hid (E = SE) := Lib.hid (by rw [HNE.out, if_neg h6])
      go_wp2_with fail
      refine (HRS.out _ H.out).mono ?_
      rintro e wk ⟨rfl, rfl⟩
      go_wp2_with fail
      go_meet
      case rel => exact ⟨by rw [HE.out], Lib.hid (Below.refl _ _)⟩
  case rest =>
    obtain ⟨rfl, HB3⟩ := hcut
    clear HRS HNE
    go_upto_region 7 with (fail)
    go_cut [33] (fun s33 wx => s33 = .bool (decide (E = 0) && decide (k < 0 ∨ 8 < k)) ∧ Hid (Below w.heap.size w wx))
    case first =>
      by_cases hE : E = 0
      · have hEb : (E == 0) = true := by simp [hE]
        have HE := Lib.hid hE
        clear hE
        by_cases hk1 : k < 0
        · go_wp2_with fail
          go_meet
          case rel => exact ⟨by simp [HE.out, hk1], HB3⟩
        · by_cases hk2 : 8 < k
          · go_wp2_with fail
            go_meet
            case rel => exact ⟨by simp [HE.out, hk2], HB3⟩
          · go_wp2_with fail
            go_meet
            case rel => exact ⟨by simp [hk1, hk2], HB3⟩
      · have hEb : (E == 0) = false := by simp [hE]
        have HE := Lib.hid hE
        clear hE
        go_wp2_with fail
        go_meet
        case rel => exact ⟨by simp [HE.out], HB3⟩
    case rest =>
      obtain ⟨rfl, HB4⟩ := hcut
      clear HB3
      go_upto_if 33 with (fail)
      go_cut [7, 9] (fun s7 s9 wx => s7 = .int .i64 NE ∧ (∃ A3 m c3, s9 = .slice A3 m c3 ∧ m ≤ 100000 ∧ Hid (RdI wx wx.heap.size A3 m (if NE = 0 then Y else []))) ∧ Hid (Below w.heap.size w wx))
      case first =>
        by_cases hE : E = 0
        · have hEb : (E == 0) = true := by simp [hE]
          have HE := Lib.hid hE
          clear hE
          by_cases hkk : k < 0 ∨ 8 < k
          · have hdb : (decide (E = 0) && decide (k < 0 ∨ 8 < k)) = true := by rw [HE.out, decide_eq_true hkk]; rfl
            have HN : Hid (NE = 1) := Lib.hid (by rw [HOE.out, if_neg (by rw [HE.out]; omega), if_pos hkk])
            rw [hdb]
            clear hdb hkk
            go_wp2_with fail
            go_meet
            case rel => exact ⟨by rw [HN.out], ⟨none, 0, 0, rfl, by omega, Lib.hid (by rw [if_neg (by rw [HN.out]; omega)]; exact RdI.nil)⟩, HB4⟩
          · have hdb : (decide (E = 0) && decide (k < 0 ∨ 8 < k)) = false := by rw [decide_eq_false hkk]; simp
            have HLO := Lib.hid (HRL.out HE.out _ (H.out.below HB4.out))
            rw [hdb]
            by_cases hk0 : 0 < k
            · by_cases hl0 : LV = 0
              · have HN : Hid (NE = 5) := Lib.hid (by rw [HOE.out, if_neg (by rw [HE.out]; omega), if_neg hkk, if_pos ⟨hk0, hl0⟩])
                have hlb : (LV == 0) = true := by simp [hl0]
                clear hdb hkk hl0
                go_wp2_with fail
                refine HLO.out.mono ?_
                rintro e wk ⟨rfl, rfl⟩
                go_wp2_with fail
                go_meet
                case rel => exact ⟨by rw [HN.out], ⟨none, 0, 0, rfl, by omega, Lib.hid (by rw [if_neg (by rw [HN.out]; omega)]; exact RdI.nil)⟩, HB4⟩
              · have HN : Hid (NE = 0) := Lib.hid (by rw [HOE.out, if_neg (by rw [HE.out]; omega), if_neg hkk, if_neg (fun q => hl0 q.2)])
                have hlb : (LV == 0) = false := by simp [hl0]
                clear hdb hkk hl0
                go_wp2_with fail
                refine HLO.out.mono ?_
                rintro e wk ⟨rfl, rfl⟩
                go_wp2_with fail
                refine (HRN.out HN.out _ (H.out.below HB4.out) HB4.out.size).mono ?_
                rintro e w5 ⟨A5, c5, rfl, hr5, hb5⟩
                have HR5 := Lib.hid hr5
                have HB5 := Lib.hid (below_on HB4.out hb5)
                have hn6 := HN6.out HE.out
                clear hr5 hb5
                go_wp2_with fail
                go_meet
                case rel => exact ⟨by rw [HN.out, HE.out], ⟨A5, n, c5, rfl, by omega, Lib.hid (by rw [if_pos HN.out]; exact HR5.out)⟩, HB5⟩
            · have HN : Hid (NE = 0) := Lib.hid (by rw [HOE.out, if_neg (by rw [HE.out]; omega), if_neg hkk, if_neg (fun q => hk0 q.1)])
              clear hdb hkk
              go_wp2_with fail
              refine (HRN.out HN.out _ (H.out.below HB4.out) HB4.out.size).mono ?_
              rintro e w5 ⟨A5, c5, rfl, hr5, hb5⟩
              have HR5 := Lib.hid hr5
              have HB5 := Lib.hid (below_on HB4.out hb5)
              have hn6 := HN6.out HE.out
              clear hr5 hb5
              go_wp2_with fail
              go_meet
              case rel => exact ⟨by rw [HN.out, HE.out], ⟨A5, n, c5, rfl, by omega, Lib.hid (by rw [if_pos HN.out]; exact HR5.out)⟩, HB5⟩
        · have hEb : (E == 0) = false := by simp [hE]
          have hdb : (decide (E = 0) && decide (k < 0 ∨ 8 < k)) = false := by simp [hE]
          have HN : Hid (NE = E ∧ E ≠ 0) := Lib.hid ⟨by rw [HOE.out, if_pos hE], hE⟩
          rw [hdb]
          clear hE hdb
          go_wp2_with fail
          go_meet
          case rel => exact ⟨by rw [HN.out.1], ⟨none, 0, 0, rfl, by omega, Lib.hid (by rw [if_neg (by rw [HN.out.1]; exact HN.out.2)]; exact RdI.nil)⟩, HB4⟩
      case rest =>
        obtain ⟨rfl, ⟨A3, m3, c3, rfl, hm3, HW3⟩, HB5⟩ := hcut
        clear HB4 HRN
        go_wp2_with fail
        refine (HNO.out _ (H.out.below HB5.out) HB5.out.size).mono ?_
        rintro e w4 ⟨A4, n4, c4, rfl, hn4, hr4, hb4⟩
        have HW4 := Lib.hid (HW3.out.on hb4)
        have HR4 := Lib.hid hr4
        have HB6 := Lib.hid (below_on HB5.out hb4)
        clear hr4 hb4 HW3 HB5 HNO
        go_wp2_with fail
        refine (herr_yes NE _ (HG.out.below HB6.out) HB1.out).mono ?_
        rintro e w5 ⟨rfl, hb5⟩
        have HW5 := Lib.hid (HW4.out.on hb5)
        have HR5 := Lib.hid (HR4.out.on hb5)
        have HB7 := Lib.hid (below_on HB6.out hb5)
        clear hb5 HW4 HR4 HB6
        go_wp2_with fail
        refine (ints_any A4 A3 n4 c4 m3 c3 _ _ _ _ _ HR5.out HW5.out (Nat.le_refl _) (Nat.le_refl _) (by omega)).mono ?_
        rintro e w6 ⟨rfl, hb6⟩
        have HB8 := Lib.hid (below_on HB7.out hb6)
        rw [sameI_true.2 rfl]
        clear hb6 HW5 HR5 HB7
        go_upto_if 65 with (fail)
        go_cut [8, 13] (fun s8 s13 wx => (∃ F M, s8 = .int .i64 F ∧ s13 = .int .i64 M ∧ Hid ((F = 0 → E = 0 ∧ PE = 0 ∧ M = LP) ∧ (F ≠ 0 → FE = F))) ∧ Hid (Below w.heap.size w wx))
        case first =>
          by_cases hE : E = 0
          · have hEb : (E == 0) = true := by simp [hE]
            have HE := Lib.hid hE
            clear hE
            go_wp2_with fail
            refine (HRP.out _ (H2.out.below HB8.out)).mono ?_
            rintro e wk ⟨rfl, rfl⟩
            obtain ⟨M, hM⟩ : ∃ M, M = (if PE = 0 then LP else 0) := ⟨_, rfl⟩
            rw [← hM]
            have HM := Lib.hid hM
            clear hM
            go_wp2_with fail
            go_meet
            case rel => exact ⟨⟨PE, M, rfl, rfl, Lib.hid ⟨fun h => ⟨HE.out, h, by rw [HM.out, if_pos h]⟩, fun h => by rw [HFE.out, if_neg (by rw [HE.out]; omega), if_pos h]⟩⟩, HB8⟩
          · have hEb : (E == 0) = false := by simp [hE]
            have HE := Lib.hid hE
            clear hE
            go_wp2_with fail
            go_meet
            case rel => exact ⟨⟨E, 0, rfl, rfl, Lib.hid ⟨fun h => absurd h HE.out, fun h => by rw [HFE.out, if_pos h]⟩⟩, HB8⟩
        case rest =>
          obtain ⟨⟨F, M, rfl, rfl, HF⟩, HB9⟩ := hcut
          clear HB8 HRP
          go_upto_region 18 with (fail)
          go_cut [79] (fun s79 wx => s79 = .bool (decide (F = 0) && decide (n ≠ n2)) ∧ Hid (Below w.heap.size w wx))
          case first =>
            by_cases hF : F = 0
            · have hFb : (F == 0) = true := by simp [hF]
              have HF0 := Lib.hid hF
              clear hF
              by_cases hN : n = n2
              · have hNb : ((n : Int) != (n2 : Int)) = false := by simp [hN]
                have HN := Lib.hid hN
                clear hN
                go_wp2_with fail
                go_meet
                case rel => exact ⟨by simp [HN.out], HB9⟩
              · have hNb : ((n : Int) != (n2 : Int)) = true := by simp; omega
                have HN := Lib.hid hN
                clear hN
                go_wp2_with fail
                go_meet
                case rel => exact ⟨by simp [HN.out, HF0.out], HB9⟩
            · have hFb : (F == 0) = false := by simp [hF]
              have HF0 := Lib.hid hF
              clear hF
              go_wp2_with fail
              go_meet
              case rel => exact ⟨by simp [HF0.out], HB9⟩
          case rest =>
            obtain ⟨rfl, HB10⟩ := hcut
            clear HB9
            go_upto_if 79 with (fail)
            go_cut [8] (fun s8 wx => s8 = .int .i64 FE ∧ Hid (FE = 0 → E = 0 ∧ PE = 0 ∧ M = LP ∧ n = n2) ∧ Hid (Below w.heap.size w wx))
            case first =>
              by_cases hF : F = 0
              · have hH := HF.out.1 hF
                by_cases hN : n = n2
                · have hdb : (decide (F = 0) && decide (n ≠ n2)) = false := by simp [hN]
                  have HFF0 : Hid (FE = F) := Lib.hid (by rw [HFE.out, if_neg (by omega), if_neg (by omega), if_neg (by omega), hF])
                  have HH := Lib.hid hH
                  have HN := Lib.hid hN
                  rw [hdb]
                  clear hF hH hN hdb
                  go_wp2_with fail
                  go_meet
                  case rel => exact ⟨by rw [HFF0.out], Lib.hid fun _ => ⟨HH.out.1, HH.out.2.1, HH.out.2.2, HN.out⟩, HB10⟩
                · have hdb : (decide (F = 0) && decide (n ≠ n2)) = true := by simp [hN, hF]
                  have HFF0 : Hid (FE = 3) := Lib.hid (by rw [HFE.out, if_neg (by omega), if_neg (by omega), if_pos hN])
                  rw [hdb]
                  clear hF hH hN hdb
                  go_wp2_with fail
                  go_meet
                  case rel => exact ⟨by rw [HFF0.out], Lib.hid fun h => by rw [HFF0.out] at h; omega, HB10⟩
              · have hdb : (decide (F = 0) && decide (n ≠ n2)) = false := by simp [hF]
                have HFF0 : Hid (FE = F ∧ F ≠ 0) := Lib.hid ⟨HF.out.2 hF, hF⟩
                rw [hdb]
                clear hF hdb
                go_wp2_with fail
                go_meet
                case rel => exact ⟨by rw [HFF0.out.1], Lib.hid fun h => absurd (HFF0.out.1.symm.trans h) HFF0.out.2, HB10⟩
            case rest =>
              obtain ⟨rfl, HZ, HB11⟩ := hcut
              rename World => w8
              clear HB10 HF HFE
              go_upto_block 0 with (fail)
              go_cut [14, 15] (fun s14 _ wx => s14 = .int .i64 D ∧ Hid (Below w.heap.size w wx))
              case first =>
                by_cases hF : FE = 0
                · obtain ⟨hE0, hP0, rfl, rfl⟩ := HZ.out hF
                  have hFb : (FE == 0) = true := by simp [hF]
                  have HDF : Hid (D = FF) := Lib.hid (by rw [HD.out, if_pos hF])
                  have hn6 := HN6.out hE0
                  have HV := Lib.hid (HVB.out hE0)
                  have HP := Lib.hid (HPB.out hP0)
                  have HLO := Lib.hid (HRL.out hE0)
                  have hbb : ∀ i, (0 ≤ Ph.far (M * v.getD i 0 - LV * p.getD i 0) ∧ Ph.far (M * v.getD i 0 - LV * p.getD i 0) ≤ 100000) ∧ (-8000 ≤ M * v.getD i 0 ∧ M * v.getD i 0 ≤ 8000) ∧ (-48000 ≤ LV * p.getD i 0 ∧ LV * p.getD i 0 ≤ 48000) := fun i => by
                    have a1 := mul_abs (a := M) (b := v.getD i 0) (M := 8) (N := 1000) HP.out.2 (HV.out.1 i)
                    have a2 := mul_abs (a := LV) (b := p.getD i 0) (M := 6000) (N := 8) ⟨hlv0, HV.out.2⟩ (HP.out.1 i)
                    exact ⟨⟨Ph.far_nonneg _, Ph.far_le.2 (by omega)⟩, by omega, by omega⟩
                  have HBB := Lib.hid hbb
                  clear hF HZ hE0 hP0 hbb
                  go_wp2_with fail
                  go_loopw [14, 15] (fun s i wr => ∃ q : Nat, q ≤ n ∧ i = .int .i64 q ∧ s = .int .i64 (Ph.sumTo q (fun i => Ph.far (M * v.getD i 0 - LV * p.getD i 0))) ∧ Hid (Below w.heap.size w wr)) (fun _ i _ => n - (intOf i).toNat)
                  case atStart => exact ⟨0, Nat.zero_le _, rfl, rfl, HB11⟩
                  case round =>
                    obtain ⟨q, hq, rfl, rfl, HBR⟩ := hrel
                    rename World => wr
                    by_cases hlt : q < n
                    · have hsb := far_sum_bd (fun i => (HBB.out i).1) q
                      obtain ⟨b1, o1, rfl, _, d1⟩ := (H.out.below HBR.out).at_ hlt
                      obtain ⟨b2, o2, rfl, _, d2⟩ := (H2.out.below HBR.out).at_ hlt
                      have hstep : Hid (Ph.sumTo (q + 1) (fun i => Ph.far (M * v.getD i 0 - LV * p.getD i 0)) = Ph.sumTo q (fun i => Ph.far (M * v.getD i 0 - LV * p.getD i 0)) + Ph.far (M * v.getD q 0 - LV * p.getD q 0)) := Lib.hid rfl
                      have hbq := HBB.out q
                      obtain ⟨S, hS⟩ : ∃ S, S = Ph.sumTo q (fun i => Ph.far (M * v.getD i 0 - LV * p.getD i 0)) := ⟨_, rfl⟩
                      rw [← hS] at hsb hstep ⊢
                      obtain ⟨X, hX⟩ : ∃ X, X = v.getD q 0 := ⟨_, rfl⟩
                      obtain ⟨Z, hZ⟩ : ∃ Z, Z = p.getD q 0 := ⟨_, rfl⟩
                      rw [← hX] at d1 hbq hstep
                      rw [← hZ] at d2 hbq hstep
                      obtain ⟨P, hP⟩ : ∃ P, P = M * X := ⟨_, rfl⟩
                      obtain ⟨Q, hQ⟩ : ∃ Q, Q = LV * Z := ⟨_, rfl⟩
                      rw [← hP, ← hQ] at hbq hstep
                      have k1 : IntKind.i64.wrap (M * X) = P := by rw [← hP]; exact IntWalk.i64_in _ (by omega)
                      have k2 : IntKind.i64.wrap (LV * Z) = Q := by rw [← hQ]; exact IntWalk.i64_in _ (by omega)
                      have k3 : IntKind.i64.wrap (P - Q) = P - Q := IntWalk.i64_in _ (by omega)
                      have HFA : Hid (∀ W, Calls Tryd.prog 68 #[.int .i64 (P - Q)] W fun e w' => e = .returned (.int .i64 (Ph.far (P - Q))) ∧ w' = W) := Lib.hid fun W => (rfar_any (P - Q) W (by omega)).mono fun e w' ⟨q1, q2⟩ => ⟨q1, q2.symm⟩
                      have HLQ : Hid (∀ u, Calls Tryd.prog 65 #[.slice (some ⟨b1, o1, none⟩) n c] (wr.drewN u) fun e w' => e = .returned (.int .i64 LV) ∧ w' = wr.drewN u) := Lib.hid fun u => (HLO.out (wr.drewN u) (H.out.below (below_drewN' HBR.out u))).mono fun e w' ⟨q1, q2⟩ => ⟨q1, q2.symm⟩
                      obtain ⟨G, hG⟩ : ∃ G, G = Ph.far (P - Q) := ⟨_, rfl⟩
                      rw [← hG] at HFA hbq hstep
                      have hsb2 : (q : Int) * 100000 ≤ 600000 := by omega
                      have k4 : IntKind.i64.wrap (S + G) = S + G := IntWalk.i64_in _ (by omega)
                      have hlt' : (q : Int) < (n : Int) := by omega
                      clear hS hX hZ hP hQ hG
                      go_wp2_with fail
                      go_quiet ((first | (go_at_call 65; exact Calls.quiet_of_same (HLQ.out _)) | (go_at_call 68; exact Calls.quiet_of_same (HFA.out _))))
                      go_wp2_with fail
                      go_roundw
                      case rel => exact ⟨q + 1, by omega, by go_num, by rw [hstep.out], Lib.hid (below_drewN' HBR.out _)⟩
                      case measure => simp [intOf]; omega
                    · obtain rfl : q = n := by omega
                      have HDE : Hid (D = Ph.sumTo q (fun i => Ph.far (M * v.getD i 0 - LV * p.getD i 0))) := Lib.hid (by rw [HDF.out, HFF.out])
                      rw [← HDE.out]
                      go_wp2_with fail
                      go_meet
                      case rel => exact ⟨rfl, HBR⟩
                · have hFb : (FE == 0) = false := by simp [hF]
                  have HDF : Hid (D = 0) := Lib.hid (by rw [HD.out, if_neg hF])
                  clear hF HZ
                  by_cases hn0 : 0 < n
                  all_goals
                    go_wp2_with fail
                    refine wp_loop_rounds 1 ?_
                    rw [rounds_succ]
                    go_wp2_with fail
                    go_meet
                  all_goals exact ⟨by rw [HDF.out], HB11⟩
              case rest =>
                obtain ⟨rfl, HB12⟩ := hcut
                clear HB11 HZ
                go_wp2_with fail
                refine (HNF.out _ (H.out.below HB12.out) (H2.out.below HB12.out) HB12.out.size).mono ?_
                rintro e w9 ⟨rfl, hb9⟩
                have HB13 := Lib.hid (below_on HB12.out hb9)
                clear hb9 HNF
                go_wp2_with fail
                refine (herr_yes FE _ (HG.out.below HB13.out) HB2.out).mono ?_
                rintro e w9 ⟨rfl, hb9⟩
                have HB14 := Lib.hid (below_on HB13.out hb9)
                clear hb9
                go_wp2_with fail
                go_ret
                exact ⟨ret_true (by simp), HB14.out⟩
end Go.Proofs.YtbllboajhdmnhaaDoor
