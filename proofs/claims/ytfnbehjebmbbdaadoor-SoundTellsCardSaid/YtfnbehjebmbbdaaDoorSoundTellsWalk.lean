/- The walk of the law SoundTells. -/
import Derived.Test.YtfnbehjebmbbdaaDoorTold
import Derived.Test.YtfnbehjebmbbdaaDoorRef1
import Derived.Test.YtfnbehjebmbbdaaDoorPush
import Derived.Test.YtfnbehjebmbbdaaDoorOpen
import Derived.Deep.DeepCutAuto
import Derived.Deep.CutBlock
import Derived.Deep.Cut
namespace Go.Proofs.YtfnbehjebmbbdaaDoor
open Go.RowKit

/-- Both mixed are told, whatever the fault. -/
theorem mix_told (A1 A2 : Option Addr) (n1 c1 n2 c2 : Nat) (a b : List Int) (w : World) (B : Nat) (h1 : RdI w B A1 n1 a) (h2 : RdI w B A2 n2 b) (hB : B ≤ w.heap.size) (hn1 : n1 ≤ 100000000000000) (hn2 : n2 ≤ 100000000000000) :
    Calls Tryd.prog 46 #[.slice A1 n1 c1, .slice A2 n2 c2] w fun e w' => ∃ A k c, e = .returned (.tuple #[.slice A k c, errV (Ph.twoErr a b)]) ∧ RdI w' w'.heap.size A k (if Ph.twoErr a b = 0 then Ph.mix a b else []) ∧ Below w.heap.size w w' := by
  by_cases h0 : Ph.twoErr a b = 0
  · refine (mix_ok A1 A2 n1 c1 n2 c2 a b w B h1 h2 hB hn1 h0).mono ?_
    rintro e w' ⟨A, c, rfl, ho, hb⟩
    exact ⟨A, _, c, by rw [h0]; rfl, by rw [if_pos h0]; exact RdI.own ho, hb⟩
  · refine (mix_no A1 A2 n1 c1 n2 c2 a b w B h1 h2 hB hn1 hn2 h0).mono ?_
    rintro e w' ⟨rfl, hb⟩
    exact ⟨none, 0, 0, rfl, by rw [if_neg h0]; exact RdI.nil, hb⟩
theorem soundErr_bd (l : List Int) : -100 ≤ Ph.soundErr l ∧ Ph.soundErr l ≤ 100 := by unfold Ph.soundErr; split <;> (try split) <;> omega
theorem twoErr_bd (a b : List Int) : -100 ≤ Ph.twoErr a b ∧ Ph.twoErr a b ≤ 100 := by
  have h1 := soundErr_bd a
  have h2 := soundErr_bd b
  unfold Ph.twoErr; split
  · exact h1
  · split
    · exact h2
    · split <;> omega
theorem soundErr_pos {l : List Int} (h : Ph.soundErr l ≠ 0) : 0 < l.length := by
  rcases Nat.eq_zero_or_pos l.length with h0 | h0
  · have : l = [] := List.length_eq_zero_iff.1 h0
    subst this
    exact absurd (by decide) h
  · exact h0
theorem clip_three (X : Int) : (1000 < X ∧ Ph.clip X = 1000) ∨ (X < -1000 ∧ Ph.clip X = -1000) ∨ (¬ 1000 < X ∧ ¬ X < -1000 ∧ Ph.clip X = X) := by
  unfold Ph.clip
  by_cases h1 : X < -1000
  · right; left; exact ⟨h1, if_pos h1⟩
  · by_cases h2 : 1000 < X
    · left; exact ⟨h2, by rw [if_neg h1, if_pos h2]⟩
    · right; right; exact ⟨h2, h1, by rw [if_neg h1, if_neg h2]⟩
set_option maxHeartbeats 4000000 in
set_option maxRecDepth 1000000 in
theorem soundTells_walk (w : World) (A1 : Option Addr) (n1 c1 : Nat) (a : List Int) (h1 : RdI w w.heap.size A1 n1 a) (hb1 : n1 ≤ c1 ∧ c1 ≤ 17592186044415) (_ : ∀ x ∈ a, Is64 x) (A2 : Option Addr) (n2 c2 : Nat) (b : List Int) (h2 : RdI w w.heap.size A2 n2 b) (hb2 : n2 ≤ c2 ∧ c2 ≤ 17592186044415) (_ : ∀ x ∈ b, Is64 x) (hg : Laid w) :
    Calls Tryd.prog 10 #[.slice A1 n1 c1, .slice A2 n2 c2] w fun e w' => e = .returned (.bool true) ∧ Below w.heap.size w w' := by
  have HG := Lib.hid hg
  have H1 := Lib.hid h1
  have H2 := Lib.hid h2
  have HL1 := Lib.hid h1.len
  have HL2 := Lib.hid h2.len
  have hn1 : n1 ≤ 100000000000000 := by omega
  have hn2 : n2 ≤ 100000000000000 := by omega
  have CS := Lib.hid fun W hW => rsound_any A1 n1 c1 a W w.heap.size hW hn1
  have CC := Lib.hid fun W hW hB => check_any A1 n1 c1 a W w.heap.size hW hB hn1
  have CE := Lib.hid fun W hW hB => energy_any A1 n1 c1 a W w.heap.size hW hB hn1
  have CL := Lib.hid fun W hW hB => loud_any A1 n1 c1 a W w.heap.size hW hB hn1
  have CT := Lib.hid fun W hW hW2 => rtwo_any A1 A2 n1 c1 n2 c2 a b W w.heap.size w.heap.size hW hW2 hn1 hn2
  have CA := Lib.hid fun W hW hW2 hB => apart_any A1 A2 n1 c1 n2 c2 a b W w.heap.size hW hW2 hB hn1 hn2
  have CM := Lib.hid fun W hW hW2 hB => mix_told A1 A2 n1 c1 n2 c2 a b W w.heap.size hW hW2 hB hn1 hn2
  have HKB := Lib.hid (soundErr_bd a)
  have HKB2 := Lib.hid (twoErr_bd a b)
  obtain ⟨K, hK⟩ : ∃ K, K = Ph.soundErr a := ⟨_, rfl⟩
  obtain ⟨K2, hK2⟩ : ∃ K2, K2 = Ph.twoErr a b := ⟨_, rfl⟩
  rw [← hK] at CS CC CE CL HKB
  rw [← hK2] at CT CA CM HKB2
  obtain ⟨V1, hV1⟩ : ∃ V, V = if K = 0 then Ph.energy a else 0 := ⟨_, rfl⟩
  obtain ⟨V2, hV2⟩ : ∃ V, V = if K = 0 then Ph.loud a else 0 := ⟨_, rfl⟩
  obtain ⟨V3, hV3⟩ : ∃ V, V = if K2 = 0 then Ph.apart a b else 0 := ⟨_, rfl⟩
  obtain ⟨L4, hL4⟩ : ∃ V, V = if K2 = 0 then Ph.mix a b else [] := ⟨_, rfl⟩
  rw [← hV1] at CE
  rw [← hV2] at CL
  rw [← hV3] at CA
  rw [← hL4] at CM
  have HK := Lib.hid hK
  have HK2 := Lib.hid hK2
  have HV1 := Lib.hid hV1
  have HV2 := Lib.hid hV2
  have HV3 := Lib.hid hV3
  have HL4 := Lib.hid hL4
  clear hK hK2 hV1 hV2 hV3 hL4 h1 h2 hg
  go_enter Tryd.func10, Tryd.ntmps10
  go_wp2_with fail
  refine (CS.out _ H1.out).mono ?_
  rintro e w1 ⟨rfl, rfl⟩
  go_wp2_with fail
  refine (CC.out _ H1.out (Nat.le_refl _)).mono ?_
  rintro e w2 ⟨rfl, hb2'⟩
  have HB2 := Lib.hid hb2'
  clear hb2' CS CC
  go_wp2_with fail
  refine (herr_yes K _ (HG.out.below HB2.out) HKB.out).mono ?_
  rintro e w3 ⟨rfl, hb3⟩
  have HB3 := Lib.hid (below_on HB2.out hb3)
  clear hb3 HB2
  go_upto_block 0 with (fail)
  go_cut [7, 8, 9] (fun s7 s8 _ wx => s7 = .int .i64 V1 ∧ s8 = .int .i64 V2 ∧ Hid (Below w.heap.size w wx))
  case first =>
    by_cases hK0 : K = 0
    · have hke : (K == 0) = true := by simp [hK0]
      have hs := Ph.soundErr_zero.1 (HK.out.symm.trans hK0)
      have hn32 : n1 ≤ 32 := by have := HL1.out; omega
      have HA := Lib.hid hs.2
      have HK0 := Lib.hid hK0
      clear hK0 hs
      go_wp2_with fail
      go_loopw [7, 8, 9] (fun s7 s8 s9 wr => ∃ k : Nat, k ≤ n1 ∧ s9 = .int .i64 k ∧ s7 = .int .i64 (Ph.energy (a.take k)) ∧ s8 = .int .i64 (Ph.loud (a.take k)) ∧ Below w.heap.size w wr) (fun _ _ i _ => n1 - (intOf i).toNat)
      case atStart => exact ⟨0, Nat.zero_le _, rfl, rfl, rfl, HB3.out⟩
      case round =>
        obtain ⟨k, hk, rfl, rfl, rfl, hbw⟩ := hrel
        by_cases hlt : k < n1
        · obtain ⟨p1, o1, rfl, _, hc⟩ := (H1.out.below hbw).at_ hlt
          have hbd := Ph.allIn_getD HA.out (by omega) k
          have hal : Ph.allIn (a.take k) 1000 = true := by
            rw [Ph.allIn_iff]; intro x hx; exact Ph.allIn_iff.1 HA.out x (List.mem_of_mem_take hx)
          have he1 := Ph.energy_le hal
          have he0 := Ph.energy_nonneg (a.take k)
          have hl1 := Ph.loud_le hal
          have hl0 := Ph.loud_nonneg (a.take k)
          have hlen : (a.take k).length ≤ 32 := by rw [List.length_take]; omega
          obtain ⟨x, hx⟩ : ∃ x, x = a.getD k 0 := ⟨_, rfl⟩
          rw [← hx] at hc hbd
          have hsq := Ph.sq_le hbd.1 hbd.2
          have hsq0 := Ph.sq_nonneg x
          have HE1 := Lib.hid (Ph.energy_snoc (a.take k) x)
          have HE2 := Lib.hid (Ph.loud_snoc (a.take k) x)
          have HTS := Lib.hid (Ph.take_snoc a k (by rw [HL1.out]; exact hlt))
          have hf0 := Ph.far_nonneg x
          have hf1 : Ph.far x ≤ 1000 := Ph.far_le.2 hbd
          obtain ⟨S, hS⟩ : ∃ S, S = Ph.energy (a.take k) := ⟨_, rfl⟩
          obtain ⟨T, hT⟩ : ∃ T, T = Ph.loud (a.take k) := ⟨_, rfl⟩
          obtain ⟨P, hP⟩ : ∃ P, P = x * x := ⟨_, rfl⟩
          have hS2 : 0 ≤ S ∧ S ≤ 32000000 := by rw [hS]; omega
          have hT2 : 0 ≤ T ∧ T ≤ 32000 := by rw [hT]; omega
          have hP2 : 0 ≤ P ∧ P ≤ 1000000 := by rw [hP]; omega
          have k1 : IntKind.i64.wrap (x * x) = P := by rw [← hP]; exact IntWalk.i64_in _ (by omega)
          have k2 : IntKind.i64.wrap (S + P) = S + P := IntWalk.i64_in _ (by omega)
          have k3 : (k : Int) < (n1 : Int) := by omega
          have k4 : (0 : Int) ≤ (k : Int) := by omega
          have HX := Lib.hid hx
          have HS := Lib.hid hS
          have HT := Lib.hid hT
          have HP := Lib.hid hP
          have HBW := Lib.hid hbw
          rw [← hS, ← hT]
          clear hal he1 he0 hl1 hl0 hlen hsq hsq0 hx hS hT hP hbw
          go_wp2_with fail
          go_quiet (fail)
          clear k1 k2
          go_wp2_with (go_at_call 41; refine (rfar_any _ _ (by omega)).mono ?_; rintro e w' ⟨rfl, rfl⟩)
          go_roundw
          case rel => exact ⟨k + 1, by omega, by go_num, by rw [HTS.out, ← HX.out, HE1.out, HS.out, HP.out], by rw [HTS.out, ← HX.out, HE2.out, HT.out], below_drewN' HBW.out _⟩
          case measure => simp [intOf]; omega
        · have h1 : V1 = Ph.energy (a.take k) := by rw [HV1.out, if_pos HK0.out, List.take_of_length_le (by rw [HL1.out]; omega)]
          have h2 : V2 = Ph.loud (a.take k) := by rw [HV2.out, if_pos HK0.out, List.take_of_length_le (by rw [HL1.out]; omega)]
          rw [← h1, ← h2]
          clear h1 h2
          go_wp2_with fail
          go_meet
          case rel => exact ⟨rfl, rfl, Lib.hid hbw⟩
    · have hke : (K == 0) = false := by simpa using hK0
      have hpos : (0 : Int) < (n1 : Int) := by
        have := soundErr_pos (l := a) (fun h => hK0 (HK.out.trans h))
        have := HL1.out; omega
      have h1 : V1 = 0 := by rw [HV1.out, if_neg hK0]
      have h2 : V2 = 0 := by rw [HV2.out, if_neg hK0]
      have h12 := Lib.hid (And.intro h1 h2)
      clear hK0 h1 h2
      go_wp2_with fail
      refine wp_loop_rounds 1 ?_
      rw [rounds_succ]
      go_wp2_with fail
      go_meet
      case rel => exact ⟨by rw [h12.out.1], by rw [h12.out.2], HB3⟩
  case rest =>
    obtain ⟨rfl, rfl, HB4⟩ := hcut
    clear HB3
    rename World => w4
    go_wp2_with fail
    refine (CE.out _ (H1.out.below HB4.out) HB4.out.size).mono ?_
    rintro e w5 ⟨rfl, hb5⟩
    have HB5 := Lib.hid (below_on HB4.out hb5)
    clear hb5 HB4 CE
    go_wp2_with fail
    refine (herr_yes K _ (HG.out.below HB5.out) HKB.out).mono ?_
    rintro e w6 ⟨rfl, hb6⟩
    have HB6 := Lib.hid (below_on HB5.out hb6)
    clear hb6 HB5
    go_wp2_with fail
    refine (CL.out _ (H1.out.below HB6.out) HB6.out.size).mono ?_
    rintro e w7 ⟨rfl, hb7⟩
    have HB7 := Lib.hid (below_on HB6.out hb7)
    clear hb7 HB6 CL
    go_wp2_with fail
    refine (herr_yes K _ (HG.out.below HB7.out) HKB.out).mono ?_
    rintro e w8 ⟨rfl, hb8⟩
    have HB8 := Lib.hid (below_on HB7.out hb8)
    clear hb8 HB7
    go_wp2_with fail
    refine (CT.out _ (H1.out.below HB8.out) (H2.out.below HB8.out)).mono ?_
    rintro e w9 ⟨rfl, rfl⟩
    clear CT
    go_upto_block 2 with (fail)
    go_cut [14, 15, 16, 17, 18] (fun s14 s15 _ _ _ wx => s14 = .int .i64 V3 ∧ (∃ A k c, s15 = .slice A k c ∧ Hid (RdI wx wx.heap.size A k L4)) ∧ Hid (Below w.heap.size w wx))
    case first =>
      by_cases hK0 : K2 = 0
      · have hke : (K2 == 0) = true := by simp [hK0]
        have hs := Ph.twoErr_zero.1 (HK2.out.symm.trans hK0)
        have hs1 := Ph.soundErr_zero.1 hs.1
        have hs2 := Ph.soundErr_zero.1 hs.2.1
        have hn32 : n1 ≤ 32 := by have := HL1.out; omega
        have hnn : n1 = n2 := by have := HL1.out; have := HL2.out; have := hs.2.2; omega
        have HNN := Lib.hid hnn
        have hnn1 : n1 ≤ n2 := by omega
        have HA := Lib.hid hs1.2
        have HA2 := Lib.hid hs2.2
        have HK0 := Lib.hid hK0
        clear hK0 hs hs1 hs2 hnn
        go_wp2_with fail
        go_loopw [14, 15, 16] (fun s14 s15 s16 wr => ∃ (k : Nat) (A : Option Addr) (c : Nat), k ≤ n1 ∧ s16 = .int .i64 k ∧ s14 = .int .i64 (Ph.apart (a.take k) (b.take k)) ∧ s15 = .slice A k c ∧ wr.ownsRow w.heap.size 3 1 (.slice A k c) k (ivals (Ph.mix (a.take k) (b.take k))) ∧ Below w.heap.size w wr) (fun _ _ i _ => n1 - (intOf i).toNat)
        case atStart => exact ⟨0, none, 0, Nat.zero_le _, rfl, rfl, rfl, own_nil _ _ _, HB8.out⟩
        case round =>
          obtain ⟨k, A, c, hk, rfl, rfl, rfl, hown, hbw⟩ := hrel
          have HO := Lib.hid hown
          have HBW := Lib.hid hbw
          clear hown hbw
          by_cases hlt : k < n1
          · obtain ⟨p1, o1, rfl, _, hc1⟩ := (H1.out.below HBW.out).at_ hlt
            obtain ⟨p2, o2, rfl, _, hc2⟩ := (H2.out.below HBW.out).at_ (k := k) (by omega)
            have b1 := Ph.allIn_getD HA.out (by omega) k
            have b2 := Ph.allIn_getD HA2.out (by omega) k
            have HT := Lib.hid (Ph.apart_take a b k (by rw [HL1.out]; exact hlt) (by rw [HL2.out]; omega))
            have HM := Lib.hid (Ph.mix_take a b k (by rw [HL1.out]; exact hlt) (by rw [HL2.out]; omega))
            obtain ⟨x, hx⟩ : ∃ x, x = a.getD k 0 := ⟨_, rfl⟩
            obtain ⟨y, hy⟩ : ∃ y, y = b.getD k 0 := ⟨_, rfl⟩
            rw [← hx] at hc1 b1
            rw [← hy] at hc2 b2
            rw [← hx, ← hy] at HT HM
            clear hx hy
            have hd0 := Ph.far_nonneg (x - y)
            have hd1 : Ph.far (x - y) ≤ 2000 := Ph.far_le.2 (by omega)
            have HF : Hid (∀ W, Calls Tryd.prog 41 #[.int .i64 (x - y)] W fun e w' => e = .returned (.int .i64 (Ph.far (x - y))) ∧ w' = W) := Lib.hid fun W => (rfar_any (x - y) W (by omega)).mono fun e w' ⟨q1, q2⟩ => ⟨q1, q2.symm⟩
            obtain ⟨D, hD⟩ : ∃ D, D = Ph.far (x - y) := ⟨_, rfl⟩
            obtain ⟨S, hS⟩ : ∃ S, S = Ph.apart (a.take k) (b.take k) := ⟨_, rfl⟩
            rw [← hD] at HF HT hd0 hd1
            rw [← hS] at HT ⊢
            have k1 : IntKind.i64.wrap (x - y) = x - y := IntWalk.i64_in _ (by omega)
            have k3 : (k : Int) < (n1 : Int) := by omega
            have k4 : (0 : Int) ≤ (k : Int) := by omega
            have k5 : (k : Int) < (n2 : Int) := by omega
            obtain ⟨X, hX⟩ : ∃ X, X = x + y := ⟨_, rfl⟩
            have hXb : -2000 ≤ X ∧ X ≤ 2000 := by omega
            have k2 : IntKind.i64.wrap (x + y) = X := by rw [hX]; exact IntWalk.i64_in _ (by omega)
            have HX := Lib.hid hX
            clear hD hS hX
            rcases (show (S < D ∧ (if S < D then D else S) = D) ∨ (D ≤ S ∧ (if S < D then D else S) = S) by
              by_cases h : S < D
              · left; exact ⟨h, if_pos h⟩
              · right; exact ⟨by omega, if_neg h⟩) with ⟨hSD, hSE⟩ | ⟨hSD, hSE⟩
            all_goals rcases clip_three X with ⟨hX1, hXE⟩ | ⟨hX1, hXE⟩ | ⟨hX1, hX2, hXE⟩
            all_goals
              rw [hSE] at HT
              rw [← HX.out, hXE] at HM
              clear hSE hXE
              go_wp2_with fail
              go_quiet ((go_at_call 41; exact Calls.quiet_of_same (HF.out _)))
              clear k1
              go_wp2_with fail
              go_quiet (fail)
              clear k2
              go_wp2_with (at_builtin; refine wpList_push _ (by rfl) _ _ (by rfl) w w.heap.size A k c _ _ (own_drewN HO.out _) (below_drewN' HBW.out _) (by have := HBW.out.size; simpa using this) (by omega) (by rfl) (by rfl) ?_; intro g cap w5 ho5 hb5)
              have HO5 := Lib.hid ho5
              have HB5 := Lib.hid hb5
              clear ho5 hb5
              go_wp2_with fail
              go_roundw
              case rel => exact ⟨k + 1, some ⟨g, 0, none⟩, cap, by omega, by go_num, by rw [HT.out], rfl, by rw [HM.out]; exact HO5.out, HB5.out⟩
              case measure => simp [intOf]; omega
          · have h1 : V3 = Ph.apart (a.take k) (b.take k) := by rw [HV3.out, if_pos HK0.out, List.take_of_length_le (by rw [HL1.out]; omega), List.take_of_length_le (by rw [HL2.out]; have := HNN.out; omega)]
            have h2 : L4 = Ph.mix (a.take k) (b.take k) := by rw [HL4.out, if_pos HK0.out, List.take_of_length_le (by rw [HL1.out]; omega), List.take_of_length_le (by rw [HL2.out]; have := HNN.out; omega)]
            have HRR := Lib.hid (RdI.own HO.out)
            rw [← h1]
            rw [← h2] at HRR
            clear h1 h2
            go_wp2_with fail
            go_meet
            case rel => exact ⟨rfl, ⟨A, k, c, rfl, HRR⟩, HBW⟩
      · have hke : (K2 == 0) = false := by simpa using hK0
        have h1 : V3 = 0 := by rw [HV3.out, if_neg hK0]
        have h2 : L4 = [] := by rw [HL4.out, if_neg hK0]
        have h12 := Lib.hid (And.intro h1 h2)
        clear hK0 h1 h2
        rcases Nat.eq_zero_or_pos n1 with hz | hz
        · have hz' : (n1 : Int) ≤ 0 := by omega
          clear hz
          go_wp2_with fail
          refine wp_loop_rounds 1 ?_
          rw [rounds_succ]
          go_wp2_with fail
          go_meet
          case rel => exact ⟨by rw [h12.out.1], ⟨none, 0, 0, rfl, Lib.hid (by rw [h12.out.2]; exact RdI.nil)⟩, HB8⟩
        · have hz' : (0 : Int) < (n1 : Int) := by omega
          clear hz
          go_wp2_with fail
          refine wp_loop_rounds 1 ?_
          rw [rounds_succ]
          go_wp2_with fail
          go_meet
          case rel => exact ⟨by rw [h12.out.1], ⟨none, 0, 0, rfl, Lib.hid (by rw [h12.out.2]; exact RdI.nil)⟩, HB8⟩
    case rest =>
      obtain ⟨rfl, ⟨A4, k4, c4, rfl, HR4⟩, HB9⟩ := hcut
      clear HB8
      rename World => w9
      go_wp2_with fail
      refine (CA.out _ (H1.out.below HB9.out) (H2.out.below HB9.out) HB9.out.size).mono ?_
      rintro e w10 ⟨rfl, hb10⟩
      have HR5 := Lib.hid (HR4.out.on hb10)
      have HB10 := Lib.hid (below_on HB9.out hb10)
      clear hb10 HB9 CA HR4
      go_wp2_with fail
      refine (herr_yes K2 _ (HG.out.below HB10.out) HKB2.out).mono ?_
      rintro e w11 ⟨rfl, hb11⟩
      have HR6 := Lib.hid (HR5.out.on hb11)
      have HB11 := Lib.hid (below_on HB10.out hb11)
      clear hb11 HB10 HR5
      go_wp2_with fail
      refine (CM.out _ (H1.out.below HB11.out) (H2.out.below HB11.out) HB11.out.size).mono ?_
      rintro e w12 ⟨A5, k5, c5, rfl, hr5, hb12⟩
      have HR7 := Lib.hid (HR6.out.on hb12)
      have HR8 := Lib.hid hr5
      have HB12 := Lib.hid (below_on HB11.out hb12)
      clear hb12 HB11 HR6 hr5 CM
      go_wp2_with fail
      refine (herr_yes K2 _ (HG.out.below HB12.out) HKB2.out).mono ?_
      rintro e w13 ⟨rfl, hb13⟩
      have HR9 := Lib.hid (HR7.out.on hb13)
      have HR10 := Lib.hid (HR8.out.on hb13)
      have HB13 := Lib.hid (below_on HB12.out hb13)
      clear hb13 HB12 HR7 HR8
      go_wp2_with fail
      have hk5 : k5 ≤ 100000000000000 := by
        have h1 := HR10.out.len
        have h2 : L4.length ≤ n1 := by rw [HL4.out]; split <;> simp [Ph.mix]; have := HL1.out; omega
        omega
      refine (ints_any A5 A4 k5 c5 k4 c4 L4 L4 _ _ _ HR10.out HR9.out (Nat.le_refl _) (Nat.le_refl _) hk5).mono ?_
      rintro e w14 ⟨rfl, hb14⟩
      rw [sameI_true.2 (rfl : L4 = L4)]
      have HB14 := Lib.hid (below_on HB13.out hb14)
      clear hb14 HB13 HR9 HR10 hk5
      go_wp2_with fail
      go_ret
      exact ⟨ret_true (by simp), HB14.out⟩
end Go.Proofs.YtfnbehjebmbbdaaDoor
