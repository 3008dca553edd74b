/- The walk of the law ScaleTells. -/
import Derived.Test.YtbllboajhdmnhaaDoorTold
import Derived.Test.YtbllboajhdmnhaaDoorRefScale2
import Derived.Test.YtbllboajhdmnhaaDoorOpen
import Derived.Deep.DeepCutAuto
import Derived.Deep.CutBlock
import Derived.Deep.Cut
namespace Go.Proofs.YtbllboajhdmnhaaDoor
open Go.RowKit

/-- Numbers are told, and a fault: none of them, if there is one. -/
def TellS (E : Int) (l : List Int) (w : World) (e : Ending) (w' : World) : Prop :=
  ∃ A n c, e = .returned (.tuple #[.slice A n c, errV E]) ∧ n ≤ 100000 ∧ RdI w' w'.heap.size A n (if E = 0 then l else []) ∧ Below w.heap.size w w'
theorem sof_told (A : Option Addr) (n c : Nat) (l : List Int) (w : World) (B : Nat) (h : RdI w B A n l) (hB : B ≤ w.heap.size) (hn : n ≤ 100000000000000) :
    Calls Tryd.prog 32 #[.slice A n c] w (TellS (scaleErr l) (Ph.scaled l) w) := by
  by_cases h0 : scaleErr l = 0
  · have hs := (scaled_shares h0).2.1
    refine (sof_ok A n c l w B h hB h0).mono ?_
    rintro e w' ⟨A', c', rfl, ho, hb⟩
    exact ⟨A', _, c', by rw [h0]; rfl, by omega, by rw [if_pos h0]; exact RdI.own ho, hb⟩
  · refine (sof_no A n c l w B h hn h0).mono ?_
    rintro e w' ⟨rfl, rfl⟩
    exact ⟨none, 0, 0, rfl, by omega, by rw [if_neg h0]; exact RdI.nil, Below.refl _ _⟩
theorem starts_told (A : Option Addr) (n c : Nat) (f : List Int) (w : World) (B : Nat) (h : RdI w B A n f) (hB : B ≤ w.heap.size) (hn : n ≤ 100000000000000) :
    Calls Tryd.prog 35 #[.slice A n c] w (TellS (shErr f) (begins f) w) := by
  by_cases h0 : Ph.sharesOk f
  · have hz := shErr_zero.2 h0
    refine (starts_ok A n c f w B h hB h0).mono ?_
    rintro e w' ⟨A', c', rfl, ho, hb⟩
    exact ⟨A', _, c', by rw [hz]; rfl, by rw [begins_length]; have := h0.2.1; omega, by rw [if_pos hz]; exact RdI.own ho, hb⟩
  · have hz := shErr_no h0
    refine (starts_no A n c f w B h hn h0).mono ?_
    rintro e w' ⟨rfl, rfl⟩
    exact ⟨none, 0, 0, by rw [hz], by omega, by rw [hz, if_neg (by omega)]; exact RdI.nil, Below.refl _ _⟩
theorem scaleErr_bd (l : List Int) : -100 ≤ scaleErr l ∧ scaleErr l ≤ 100 := by
  unfold scaleErr
  split
  · omega
  · split
    · omega
    · split
      · omega
      · split <;> omega
theorem findErr_bd (f : List Int) (a : Int) : -100 ≤ findErr f a ∧ findErr f a ≤ 100 := by
  unfold findErr
  split
  · omega
  · split <;> omega
theorem begins_snoc (f : List Int) (k : Nat) : (List.range k).map (Ph.pre f) ++ [Ph.pre f k] = (List.range (k + 1)).map (Ph.pre f) := by
  rw [List.range_succ, List.map_append]; rfl
set_option maxHeartbeats 4000000 in
set_option maxRecDepth 1000000 in
theorem scaleTells_walk (w : World) (A : Option Addr) (n c : Nat) (l : List Int) (h : RdI w w.heap.size A n l) (hb : n ≤ c ∧ c ≤ 17592186044415) (_ : ∀ x ∈ l, Is64 x) (A2 : Option Addr) (n2 c2 : Nat) (f : List Int) (h2 : RdI w w.heap.size A2 n2 f) (hb2 : n2 ≤ c2 ∧ c2 ≤ 17592186044415) (_ : ∀ x ∈ f, Is64 x) (a : Int) (hg : Laid w) :
    Calls Tryd.prog 5 #[.slice A n c, .slice A2 n2 c2, .int .i64 a] w fun e w' => e = .returned (.bool true) ∧ Below w.heap.size w w' := by
  have HG := Lib.hid hg
  have H := Lib.hid h
  have H2 := Lib.hid h2
  have HL2 := Lib.hid h2.len
  have hn : n ≤ 100000000000000 := by omega
  have hn2 : n2 ≤ 100000000000000 := by omega
  have hc2 := hb2.1
  have HRC := Lib.hid fun W hW => rcounts_any A n c l W w.heap.size hW hn
  have HRSC := Lib.hid fun W hW hBW h0 => rscale_any A n c l W w.heap.size hW hBW h0
  have HSO := Lib.hid fun W hW hBW => sof_told A n c l W w.heap.size hW hBW hn
  have HRSH := Lib.hid fun W hW => rshares_any A2 n2 c2 f W w.heap.size hW hn2
  have HST := Lib.hid fun W hW hBW => starts_told A2 n2 c2 f W w.heap.size hW hBW hn2
  have HFI := Lib.hid fun W hW => find_any A2 n2 c2 f a W w.heap.size hW hn2
  have HRF : Hid (findErr f a = 0 → ∀ W, RdI W w.heap.size A2 n2 f → Calls Tryd.prog 36 #[.slice A2 n2 c2, .int .i64 a] W fun e w' => e = .returned (.int .i64 (Ph.atL f a : Nat)) ∧ W = w') := Lib.hid fun hz W hW => by
    unfold findErr at hz
    by_cases h1 : shErr f = 0
    · rw [if_neg (by omega)] at hz
      by_cases h2 : a < 0 ∨ 255 < a
      · rw [if_pos h2] at hz; omega
      · exact rfind_any A2 n2 c2 f a W w.heap.size hW hc2 (shErr_zero.1 h1) (by omega)
    · rw [if_pos h1] at hz; omega
  have HPS : Hid (shErr f = 0 → n2 ≤ 40 ∧ (∀ k, k ≤ n2 → ∀ W, RdI W w.heap.size A2 n2 f → Calls Tryd.prog 34 #[.slice A2 k c2] W fun e w' => e = .returned (.int .i64 (Ph.pre f k)) ∧ W = w') ∧ (∀ k, 0 ≤ Ph.pre f k ∧ Ph.pre f k ≤ 256)) := Lib.hid fun hz => by
    have hs := shErr_zero.1 hz
    refine ⟨by rw [← h2.len]; exact hs.2.1, fun k hk W hW => ?_, pre_bd hs⟩
    exact rsum_any A2 k c2 (f.take k) W w.heap.size (hW.take hk) (fun x hx => by have := hs.2.2.1 x (List.mem_of_mem_take hx); omega) (by have := hs.2.1; rw [h2.len] at this; omega)
  have HFE : Hid (findErr f a = if shErr f ≠ 0 then 3 else if a < 0 ∨ 255 < a then 1 else 0) := Lib.hid rfl
  have HTW := Lib.hid (shErr_two f)
  have HB1 := Lib.hid (scaleErr_bd l)
  have HB2 : Hid (-100 ≤ shErr f ∧ shErr f ≤ 100) := Lib.hid (by have := shErr_two f; omega)
  have HB3 := Lib.hid (findErr_bd f a)
  have HBG : Hid ((List.range n2).map (Ph.pre f) = begins f) := Lib.hid (by unfold begins; rw [h2.len])
  obtain ⟨V, hV⟩ : ∃ V : Int, V = (if findErr f a = 0 then ((Ph.atL f a : Nat) : Int) else 0) := ⟨_, rfl⟩
  rw [← hV] at HFI
  obtain ⟨E1, hE1⟩ : ∃ E, E = scaleErr l := ⟨_, rfl⟩
  obtain ⟨E2, hE2⟩ : ∃ E, E = shErr f := ⟨_, rfl⟩
  obtain ⟨E3, hE3⟩ : ∃ E, E = findErr f a := ⟨_, rfl⟩
  obtain ⟨X, hX⟩ : ∃ X, X = Ph.scaled l := ⟨_, rfl⟩
  obtain ⟨BG, hBG⟩ : ∃ X, X = begins f := ⟨_, rfl⟩
  rw [← hE1] at HRC HRSC HSO HB1
  rw [← hE2] at HRSH HST HPS HFE HTW HB2
  rw [← hE3] at HFI HRF HFE HB3 hV
  rw [← hX] at HRSC HSO
  rw [← hBG] at HST HBG
  have HV := Lib.hid hV
  clear h h2 hb hb2 hg hV hE1 hE2 hE3 hX hBG
  go_enter Tryd.func5, Tryd.ntmps5
  go_wp2_with fail
  refine (HRC.out _ H.out).mono ?_
  rintro e wk ⟨rfl, rfl⟩
  go_upto_if 22 with (fail)
  go_cut [8] (fun s8 wx => (∃ A3 m c3, s8 = .slice A3 m c3 ∧ m ≤ 100000000000000 ∧ Hid (RdI wx wx.heap.size A3 m (if E1 = 0 then X else []))) ∧ Hid (Below w.heap.size w wx))
  case first =>
    by_cases hE : E1 = 0
    · have hEb : (E1 == 0) = true := by simp [hE]
      have HE := Lib.hid hE
      clear hE
      go_wp2_with fail
      refine (HRSC.out _ H.out (Nat.le_refl _) HE.out).mono ?_
      rintro e w1 ⟨A3, c3, rfl, hr3, hb3⟩
      have HR3 := Lib.hid hr3
      have HB4 := Lib.hid hb3
      clear hr3 hb3
      go_wp2_with fail
      go_meet
      case rel => exact ⟨⟨A3, n, c3, rfl, hn, Lib.hid (by rw [if_pos HE.out]; exact HR3.out)⟩, HB4⟩
    · have hEb : (E1 == 0) = false := by simp [hE]
      have HE := Lib.hid hE
      clear hE
      go_wp2_with fail
      go_meet
      case rel => exact ⟨⟨none, 0, 0, rfl, by omega, Lib.hid (by rw [if_neg HE.out]; exact RdI.nil)⟩, Lib.hid (Below.refl _ _)⟩
  case rest =>
    obtain ⟨⟨A3, m3, c3, rfl, hm3, HW3⟩, HB4⟩ := hcut
    clear HRC HRSC
    go_wp2_with fail
    refine (HSO.out _ (H.out.below HB4.out) HB4.out.size).mono ?_
    rintro e w4 ⟨A4, n4, c4, rfl, hn4, hr4, hb4⟩
    have HW4 := Lib.hid (HW3.out.on hb4)
    have HR4 := Lib.hid hr4
    have HB6 := Lib.hid (below_on HB4.out hb4)
    clear hr4 hb4 HW3 HB4 HSO
    go_wp2_with fail
    refine (herr_yes E1 _ (HG.out.below HB6.out) HB1.out).mono ?_
    rintro e w5 ⟨rfl, hb5⟩
    have HW5 := Lib.hid (HW4.out.on hb5)
    have HR5 := Lib.hid (HR4.out.on hb5)
    have HB7 := Lib.hid (below_on HB6.out hb5)
    clear hb5 HW4 HR4 HB6
    go_wp2_with fail
    refine (ints_any A4 A3 n4 c4 m3 c3 _ _ _ _ _ HR5.out HW5.out (Nat.le_refl _) (Nat.le_refl _) (by omega)).mono ?_
    rintro e w6 ⟨rfl, hb6⟩
    have HB8 := Lib.hid (below_on HB7.out hb6)
    rw [sameI_true.2 rfl]
    clear hb6 HW5 HR5 HB7 H HB1
    go_wp2_with fail
    refine (HRSH.out _ (H2.out.below HB8.out)).mono ?_
    rintro e wk ⟨rfl, rfl⟩
    go_upto_if 41 with (fail)
    go_cut [7, 12] (fun s7 _ wx => s7 = .int .i64 E2 ∧ Hid (Below w.heap.size w wx))
    case first =>
      rcases HTW.out with hE | hE
      · have hd : decide (E2 = 0) = true := decide_eq_true hE
        have HE := Lib.hid hE
        rw [hd]
        clear hE hd
        go_wp2_with fail
        go_meet
        case rel => exact ⟨by rw [HE.out], HB8⟩
      · have hd : decide (E2 = 0) = false := decide_eq_false (by omega)
        have HE := Lib.hid hE
        rw [hd]
        clear hE hd
        go_wp2_with fail
        go_meet
        case rel => exact ⟨by rw [HE.out], HB8⟩
    case rest =>
      obtain ⟨rfl, HB9⟩ := hcut
      rename World => w8
      clear HB8 HRSH
      go_upto_block 0 with (fail)
      go_cut [8, 13, 14] (fun s8 _ _ wx => (∃ A3 m c3, s8 = .slice A3 m c3 ∧ m ≤ 100000000000000 ∧ Hid (RdI wx wx.heap.size A3 m (if E2 = 0 then BG else []))) ∧ Hid (Below w.heap.size w wx))
      case first =>
        by_cases hE : E2 = 0
        · have hEb : (E2 == 0) = true := by simp [hE]
          have HE := Lib.hid hE
          have HP := Lib.hid (HPS.out hE)
          have hn40 := (HPS.out hE).1
          clear hE
          go_wp2_with fail
          go_loopw [8, 13, 14] (fun o i _ wr => ∃ (k : Nat) (A6 : Option Addr) (c6 : Nat), k ≤ n2 ∧ i = .int .i64 k ∧ o = .slice A6 k c6 ∧ wr.ownsRow w8.heap.size 3 1 (.slice A6 k c6) k (ivals ((List.range k).map (Ph.pre f))) ∧ Below w8.heap.size w8 wr) (fun _ i _ _ => n2 - (intOf i).toNat)
          case atStart => exact ⟨0, none, 0, Nat.zero_le _, rfl, rfl, own_nil _ _ _, Below.refl _ _⟩
          case round =>
            obtain ⟨k, A6, c6, hk, rfl, rfl, hown, hbw⟩ := hrel
            rename World => wr
            have HO := Lib.hid hown
            have HBW := Lib.hid hbw
            have HBR := Lib.hid (below_on HB9.out hbw)
            clear hown hbw
            by_cases hlt : k < n2
            · have HSU := Lib.hid (HP.out.2.1 k (by omega) _ (H2.out.below HBR.out))
              have hpb := HP.out.2.2 k
              have HSN := Lib.hid (begins_snoc f k)
              obtain ⟨P, hP⟩ : ∃ P, P = Ph.pre f k := ⟨_, rfl⟩
              rw [← hP] at HSU hpb HSN
              have hlt' : (k : Int) < (n2 : Int) := by omega
              have hkc : (k : Int) ≤ (c2 : Int) := by omega
              clear hP
              go_wp2_with fail
              refine HSU.out.mono ?_
              rintro e wk ⟨rfl, rfl⟩
              go_wp2_with (at_builtin; refine wpList_push _ (by rfl) _ _ (by rfl) w8 w8.heap.size A6 k c6 _ P HO.out HBW.out HBW.out.size (by omega) (by rfl) (by rfl) ?_; intro g cap w9 ho9 hb9)
              have HO9 := Lib.hid ho9
              have HB9' := Lib.hid hb9
              clear ho9 hb9
              go_wp2_with fail
              go_roundw
              case rel => exact ⟨k + 1, some ⟨g, 0, none⟩, cap, by omega, by go_num, rfl, by rw [← HSN.out]; exact HO9.out, HB9'.out⟩
              case measure => simp [intOf]; omega
            · obtain rfl : k = n2 := by omega
              have HFN := Lib.hid (RdI.own HO.out)
              rw [HBG.out] at HFN
              go_wp2_with fail
              go_meet
              case rel => exact ⟨⟨A6, k, c6, rfl, hn2, Lib.hid (by rw [if_pos HE.out]; exact HFN.out)⟩, HBR⟩
        · have hEb : (E2 == 0) = false := by simp [hE]
          have HE := Lib.hid hE
          clear hE
          by_cases hn0 : 0 < n2
          all_goals
            go_wp2_with fail
            refine wp_loop_rounds 1 ?_
            rw [rounds_succ]
            go_wp2_with fail
            go_meet
          all_goals exact ⟨⟨none, 0, 0, rfl, by omega, Lib.hid (by rw [if_neg HE.out]; exact RdI.nil)⟩, HB9⟩
      case rest =>
        obtain ⟨⟨A3, m3, c3, rfl, hm3, HW3⟩, HB10⟩ := hcut
        clear HB9 HPS HBG
        go_wp2_with fail
        refine (HST.out _ (H2.out.below HB10.out) HB10.out.size).mono ?_
        rintro e w4 ⟨A4, n4, c4, rfl, hn4, hr4, hb4⟩
        have HW4 := Lib.hid (HW3.out.on hb4)
        have HR4 := Lib.hid hr4
        have HB11 := Lib.hid (below_on HB10.out hb4)
        clear hr4 hb4 HW3 HB10 HST
        go_wp2_with fail
        refine (herr_yes E2 _ (HG.out.below HB11.out) HB2.out).mono ?_
        rintro e w5 ⟨rfl, hb5⟩
        have HW5 := Lib.hid (HW4.out.on hb5)
        have HR5 := Lib.hid (HR4.out.on hb5)
        have HB12 := Lib.hid (below_on HB11.out hb5)
        clear hb5 HW4 HR4 HB11
        go_wp2_with fail
        refine (ints_any A4 A3 n4 c4 m3 c3 _ _ _ _ _ HR5.out HW5.out (Nat.le_refl _) (Nat.le_refl _) (by omega)).mono ?_
        rintro e w6 ⟨rfl, hb6⟩
        have HB13 := Lib.hid (below_on HB12.out hb6)
        rw [sameI_true.2 rfl]
        clear hb6 HW5 HR5 HB12
        go_upto_region 20 with (fail)
        go_cut [82] (fun s82 wx => s82 = .bool (decide (E2 = 0) && decide (a < 0 ∨ 255 < a)) ∧ Hid (Below w.heap.size w wx))
        case first =>
          by_cases hE : E2 = 0
          · have hEb : (E2 == 0) = true := by simp [hE]
            have HE := Lib.hid hE
            clear hE
            by_cases hk1 : a < 0
            · go_wp2_with fail
              go_meet
              case rel => exact ⟨by simp [HE.out, hk1], HB13⟩
            · by_cases hk2 : 255 < a
              · go_wp2_with fail
                go_meet
                case rel => exact ⟨by simp [HE.out, hk2], HB13⟩
              · go_wp2_with fail
                go_meet
                case rel => exact ⟨by simp [hk1, hk2], HB13⟩
          · have hEb : (E2 == 0) = false := by simp [hE]
            have HE := Lib.hid hE
            clear hE
            go_wp2_with fail
            go_meet
            case rel => exact ⟨by simp [HE.out], HB13⟩
        case rest =>
          obtain ⟨rfl, HB14⟩ := hcut
          clear HB13
          go_upto_if 82 with (fail)
          go_cut [7, 16] (fun s7 s16 wx => s7 = .int .i64 E3 ∧ s16 = .int .i64 V ∧ Hid (Below w.heap.size w wx))
          case first =>
            by_cases hE : E2 = 0
            · have hEb : (E2 == 0) = true := by simp [hE]
              have HE := Lib.hid hE
              clear hE
              by_cases hkk : a < 0 ∨ 255 < a
              · have hdb : (decide (E2 = 0) && decide (a < 0 ∨ 255 < a)) = true := by rw [HE.out, decide_eq_true hkk]; rfl
                have HN : Hid (E3 = 1) := Lib.hid (by rw [HFE.out, if_neg (by rw [HE.out]; omega), if_pos hkk])
                have HV0 : Hid (V = 0) := Lib.hid (by rw [HV.out, if_neg (by rw [HN.out]; omega)])
                rw [hdb]
                clear hdb hkk
                go_wp2_with fail
                go_meet
                case rel => exact ⟨by rw [HN.out], by rw [HV0.out], HB14⟩
              · have hdb : (decide (E2 = 0) && decide (a < 0 ∨ 255 < a)) = false := by rw [decide_eq_false hkk]; simp
                have HN : Hid (E3 = 0) := Lib.hid (by rw [HFE.out, if_neg (by rw [HE.out]; omega), if_neg hkk])
                have HV0 : Hid (V = ((Ph.atL f a : Nat) : Int)) := Lib.hid (by rw [HV.out, if_pos HN.out])
                have HFD := Lib.hid (HRF.out HN.out _ (H2.out.below HB14.out))
                rw [hdb]
                clear hdb hkk
                go_wp2_with fail
                refine HFD.out.mono ?_
                rintro e wk ⟨rfl, rfl⟩
                go_wp2_with fail
                go_meet
                case rel => exact ⟨by rw [HN.out, HE.out], by rw [HV0.out], HB14⟩
            · have hEb : (E2 == 0) = false := by simp [hE]
              have hdb : (decide (E2 = 0) && decide (a < 0 ∨ 255 < a)) = false := by simp [hE]
              have hE3 : E2 = 3 := by rcases HTW.out with q | q
                                      · exact absurd q hE
                                      · exact q
              have HN : Hid (E3 = E2) := Lib.hid (by rw [HFE.out, if_pos hE, hE3])
              have HV0 : Hid (V = 0) := Lib.hid (by rw [HV.out, if_neg (by rw [HN.out]; exact hE)])
              rw [hdb]
              clear hE hE3 hdb
              go_wp2_with fail
              go_meet
              case rel => exact ⟨by rw [HN.out], by rw [HV0.out], HB14⟩
          case rest =>
            obtain ⟨rfl, rfl, HB15⟩ := hcut
            clear HB14 HRF HV
            go_wp2_with fail
            refine (HFI.out _ (H2.out.below HB15.out)).mono ?_
            rintro e wk ⟨rfl, rfl⟩
            go_wp2_with fail
            refine (herr_yes E3 _ (HG.out.below HB15.out) HB3.out).mono ?_
            rintro e w9 ⟨rfl, hb9⟩
            have HB16 := Lib.hid (below_on HB15.out hb9)
            clear hb9
            go_wp2_with fail
            go_ret
            exact ⟨ret_true (by simp), HB16.out⟩
end Go.Proofs.YtbllboajhdmnhaaDoor
