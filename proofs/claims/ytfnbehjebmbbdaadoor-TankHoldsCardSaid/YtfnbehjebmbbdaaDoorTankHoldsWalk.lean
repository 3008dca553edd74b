/- The walk of the law TankHolds. -/
import Derived.Test.YtfnbehjebmbbdaaDoorTold
import Derived.Test.YtfnbehjebmbbdaaDoorOpenT
import Derived.Test.YtfnbehjebmbbdaaDoorTank5
namespace Go.Proofs.YtfnbehjebmbbdaaDoor
open Go.RowKit

theorem part_succ (l : List Int) (i j : Nat) (h : i + j < l.length) : Ph.total ((l.drop i).take (j + 1)) = Ph.total ((l.drop i).take j) + l.getD (i + j) 0 := by
  rw [Ph.take_snoc (l.drop i) j (by rw [List.length_drop]; omega), Ph.total_snoc]
  congr 1
  rw [List.getD_eq_getElem?_getD, List.getD_eq_getElem?_getD, List.getElem?_drop]
theorem turn_more {s e h : Int} (ht : Ph.tankErr ⟨s, e, h⟩ = 0) : Ph.turnErr ⟨s, e, h⟩ (Ph.full ⟨s, e, h⟩) = 0 ∧ (Ph.turnErr ⟨s, e, h⟩ (Ph.full ⟨s, e, h⟩ + 1) = 8 ∨ (Ph.turnErr ⟨s, e, h⟩ (Ph.full ⟨s, e, h⟩ + 1) = 1 ∧ Ph.full ⟨s, e, h⟩ = 1000000)) := by
  have hp := Ph.tankErr_zero.1 ht
  simp only at hp
  have hf : 0 ≤ Ph.full ⟨s, e, h⟩ ∧ Ph.full ⟨s, e, h⟩ ≤ s := by unfold Ph.full; simp only; split <;> omega
  constructor
  · unfold Ph.turnErr
    rw [if_neg (by omega), if_neg (by omega), if_neg (by omega)]
  · by_cases h1 : Ph.full ⟨s, e, h⟩ = 1000000
    · right
      refine ⟨?_, h1⟩
      unfold Ph.turnErr
      rw [if_neg (by omega), if_pos (by omega)]
    · left
      unfold Ph.turnErr
      rw [if_neg (by omega), if_neg (by omega), if_pos (by omega)]
set_option maxHeartbeats 2000000 in
set_option maxRecDepth 100000 in
theorem tankHolds_walk (w : World) (s e h : Int) (A : Option Addr) (n c : Nat) (l : List Int) (hr : RdI w w.heap.size A n l) (_hc : n ≤ c ∧ c ≤ 17592186044415) (_hi : ∀ x ∈ l, Is64 x) (hg : Laid w) :
    Calls Tryd.prog 5 #[tankV s e h, .slice A n c] w fun r w' => r = .returned (.bool true) ∧ Below w.heap.size w w' := by
  have HG := Lib.hid hg
  have HL := Lib.hid hr.len
  have HRD := Lib.hid hr
  have HF := Lib.hid fun W => turn_told 10 4 3 5 W
  have hf0 : Ph.turnErr ⟨10, 4, 3⟩ 5 = 0 := by decide +kernel
  have hf1 : Ph.full ⟨10, 4, 3⟩ - 5 = 2 := by decide +kernel
  rw [hf0, hf1, kept_zero, kept_zero, kept_zero, errV_of rfl] at HF
  have HM := Lib.hid fun W => tmay_told s e h W
  clear hf0 hf1 hg hr
  by_cases ht : Ph.tankErr ⟨s, e, h⟩ = 0
  · rw [ht, kept_zero, errV_of rfl] at HM
    have hp := Ph.tankErr_zero.1 ht
    simp only at hp
    have hfb : 0 ≤ Ph.full ⟨s, e, h⟩ ∧ Ph.full ⟨s, e, h⟩ ≤ s := by unfold Ph.full; simp only; split <;> omega
    have htm := turn_more ht
    have HT1 := Lib.hid fun W => turn_told s e h (Ph.full ⟨s, e, h⟩) W
    have HT2 := Lib.hid fun W => turn_told s e h (Ph.full ⟨s, e, h⟩ + 1) W
    have HRU := Lib.hid fun W hB hr => trun_told s e h A n c l W w.heap.size hr hB
    rw [htm.1, kept_zero, kept_zero, kept_zero, Int.sub_self, errV_of rfl] at HT1
    have hcase := htm.2
    obtain ⟨F, hF⟩ : ∃ F, F = Ph.full ⟨s, e, h⟩ := ⟨_, rfl⟩
    rw [← hF] at HM HT1 HT2 hcase hfb
    obtain ⟨K, hK⟩ : ∃ K, K = Ph.turnErr ⟨s, e, h⟩ (F + 1) := ⟨_, rfl⟩
    rw [← hK] at HT2 hcase
    obtain ⟨q0, hq0⟩ : ∃ q, q = kept K s := ⟨_, rfl⟩
    obtain ⟨q1, hq1⟩ : ∃ q, q = kept K e := ⟨_, rfl⟩
    obtain ⟨q2, hq2⟩ : ∃ q, q = kept K (F - (F + 1)) := ⟨_, rfl⟩
    rw [← hq0, ← hq1, ← hq2] at HT2
    have hrun : Hid (runE l ⟨s, e, h⟩ = 0 → n ≤ 60 ∧ (∀ x ∈ l, 0 ≤ x) ∧ (∀ i j : Nat, i + j ≤ n → 0 ≤ Ph.total ((l.drop i).take j) ∧ Ph.total ((l.drop i).take j) ≤ s + j * e) ∧ runV l ⟨s, e, h⟩ ≤ s ∧ 0 ≤ runV l ⟨s, e, h⟩) := Lib.hid fun h0 => by
      have h60 : ¬ 60 < l.length := fun h6 => by rw [runE_long h6] at h0; omega
      have h1 := h0
      rw [runE_ok h60 ht] at h1
      have h2 := Ph.run_holds l ⟨s, e, h⟩ h1 ht
      refine ⟨by have := HL.out; omega, h2.1, fun i j hij => ⟨?_, ?_⟩, ?_⟩
      · exact Ph.total_nonneg fun x hx => h2.1 x (List.mem_of_mem_drop (List.mem_of_mem_take hx))
      · exact Ph.run_part h1 ht i j (by rw [HL.out]; exact hij)
      · unfold runV
        rw [if_pos h0]
        exact ⟨h2.2.2.1, h2.2.2.2⟩
    obtain ⟨E, hE⟩ : ∃ E, E = runE l ⟨s, e, h⟩ := ⟨_, rfl⟩
    obtain ⟨V, hV⟩ : ∃ V, V = runV l ⟨s, e, h⟩ := ⟨_, rfl⟩
    rw [← hE, ← hV] at HRU hrun
    have HP := Lib.hid hp
    have hs6 : s ≤ 1000000 := hp.2.1
    have he0 : 0 ≤ e := hp.2.2.1
    have hes : e ≤ s := hp.2.2.2.1
    have hF0 : 0 ≤ F := hfb.1
    have hF6 : F ≤ 1000000 := by omega
    clear ht hp htm hF hK hq0 hq1 hq2 hE hV
    unfold tankV at HF HM HT1 HT2 HRU ⊢
    go_enter Tryd.func5, Tryd.ntmps5
    go_wp2_with fail
    have HB0 := Lib.hid (below_alloc0 w (.cells #[.int .i64 s, .int .i64 e, .int .i64 h] 36))
    have HA0 := Lib.hid (TankAt.new w s e h)
    refine (HF.out _).mono ?_
    rintro r w1 ⟨rfl, hb1⟩
    have HA1 := Lib.hid ((HA0.out.below hb1).below (below_alloc0 w1 (.cells #[.int .i64 10, .int .i64 4, .int .i64 2] 36)))
    have HB1 := Lib.hid (below_onAlloc (below_on HB0.out hb1) (.cells #[.int .i64 10, .int .i64 4, .int .i64 2] 36))
    clear hb1 HB0 HA0 HF
    obtain ⟨_, c0, c1, c2⟩ := HA1.out
    go_wp2_with fail
    refine (HM.out _).mono ?_
    rintro r w2 ⟨rfl, hb2⟩
    have HA2 := Lib.hid (HA1.out.below hb2)
    have HB2 := Lib.hid (below_on HB1.out hb2)
    clear hb2 HB1 HA1 HM c0 c1 c2
    obtain ⟨_, c0, c1, c2⟩ := HA2.out
    go_wp2_with fail
    refine (HT1.out _).mono ?_
    rintro r w3 ⟨rfl, hb3⟩
    have HA3 := Lib.hid ((HA2.out.below hb3).below (below_alloc0 w3 (.cells #[.int .i64 s, .int .i64 e, .int .i64 0] 36)))
    have HX3 := Lib.hid (TankAt.new w3 s e 0)
    have HB3 := Lib.hid (below_onAlloc (below_on HB2.out hb3) (.cells #[.int .i64 s, .int .i64 e, .int .i64 0] 36))
    clear hb3 HB2 HA2 HT1 c0 c1 c2
    obtain ⟨_, c0, c1, c2⟩ := HA3.out
    go_wp2_with fail
    refine (HT2.out _).mono ?_
    rintro r w4 ⟨rfl, hb4⟩
    have HA4 := Lib.hid ((HA3.out.below hb4).below (below_alloc0 w4 (.cells #[.int .i64 q0, .int .i64 q1, .int .i64 q2] 36)))
    have HX4 := Lib.hid ((HX3.out.below hb4).below (below_alloc0 w4 (.cells #[.int .i64 q0, .int .i64 q1, .int .i64 q2] 36)))
    have HB4 := Lib.hid (below_onAlloc (below_on HB3.out hb4) (.cells #[.int .i64 q0, .int .i64 q1, .int .i64 q2] 36))
    clear hb4 HB3 HA3 HX3 HT2 c0 c1 c2
    obtain ⟨_, c0, c1, c2⟩ := HA4.out
    obtain ⟨_, d0, d1, d2⟩ := HX4.out
    have HER : Hid (∀ W, Laid W → Calls Tryd.prog 17 #[errV K, .int .i64 8] W fun r w' => r = .returned (.bool (sameN K 8)) ∧ Below W.heap.size W w') := Lib.hid fun W hW => herr_any K 8 W hW (by omega)
    have hsn : (sameN K 8 = true) ∨ (sameN K 8 = false ∧ F = 1000000) := by
      rcases hcase with h1 | ⟨h1, h2⟩
      · left; rw [h1]; rfl
      · right; rw [h1]; exact ⟨rfl, h2⟩
    obtain ⟨Z, hZ⟩ : ∃ Z, Z = sameN K 8 := ⟨_, rfl⟩
    rw [← hZ] at HER hsn
    clear hcase hZ
    go_wp2_with fail
    refine (HER.out _ (HG.out.below HB4.out)).mono ?_
    rintro r w5 ⟨rfl, hb5⟩
    have HA5 := Lib.hid (HA4.out.below hb5)
    have HB5 := Lib.hid (below_on HB4.out hb5)
    clear hb5 HB4 HA4 HX4 HER c0 c1 c2 d0 d1 d2
    obtain ⟨_, c0, c1, c2⟩ := HA5.out
    have hgo : (Z = true) ∨ (Z = false ∧ ¬ F < 1000000) := by
      rcases hsn with h1 | ⟨h1, h2⟩
      · exact .inl h1
      · exact .inr ⟨h1, by omega⟩
    clear hsn
    rcases hgo with rfl | ⟨rfl, hF1⟩
    all_goals
      go_wp2_with fail
      refine (HRU.out _ HB5.out.size (HRD.out.below HB5.out)).mono ?_
      rintro r w6 ⟨rfl, hb6⟩
      have HA6 := Lib.hid (HA5.out.below hb6)
      have HB6 := Lib.hid (below_on HB5.out hb6)
      have HR6 := Lib.hid (HRD.out.below HB6.out)
      clear hb6 HB5 HA5 HRU c0 c1 c2
      obtain ⟨_, c0, c1, c2⟩ := HA6.out
      by_cases hE0 : E = 0
      · have hrn := hrun.out hE0
        have hV1 := hrn.2.2.2.1
        have hV0 := hrn.2.2.2.2
        have hn60 : n ≤ 60 := hrn.1
        have HRN := Lib.hid hrn
        subst hE0
        rw [errV_of rfl]
        clear hrn hrun
        go_wp2_with fail
        go_loop [14, 15, 16] (fun i _ _ => ∃ k : Nat, k ≤ n ∧ i = .int .i64 k) (fun i _ _ => n - (intOf i).toNat)
        case atStart => exact ⟨0, Nat.zero_le _, rfl⟩
        case round =>
          obtain ⟨k, hk, rfl⟩ := hrel
          by_cases hlt : k < n
          · go_wp2_with fail
            go_loop [15, 16] (fun t i => ∃ j : Nat, k + j ≤ n ∧ i = .int .i64 ((k + j : Nat) : Int) ∧ t = .int .i64 (Ph.total ((l.drop k).take j))) (fun _ i => n - (intOf i).toNat)
            case atStart => exact ⟨0, by omega, rfl, rfl⟩
            case round =>
              obtain ⟨j, hj, rfl, rfl⟩ := hrel
              by_cases hlt2 : k + j < n
              · obtain ⟨b, off, rfl, _, hc⟩ := HR6.out.at_ hlt2
                have hx := HRN.out.2.1 _ (Ph.getD_mem (l := l) (i := k + j) (by rw [HL.out]; exact hlt2))
                have hp1 := HRN.out.2.2.1 k j (by omega)
                have hp2 := HRN.out.2.2.1 k (j + 1) (by omega)
                have hs := part_succ l k j (by rw [HL.out]; exact hlt2)
                obtain ⟨x, hxe⟩ : ∃ x, x = l.getD (k + j) 0 := ⟨_, rfl⟩
                obtain ⟨t, hte⟩ : ∃ t, t = Ph.total ((l.drop k).take j) := ⟨_, rfl⟩
                rw [← hxe] at hc hx hs
                rw [← hte] at hs hp1 ⊢
                rw [hs] at hp2
                have hje : (j : Int) * e ≤ 60 * 1000000 := Int.mul_le_mul (by omega) (by omega) he0 (by omega)
                have hje0 : 0 ≤ (j : Int) * e := Int.mul_nonneg (by omega) he0
                have hje2 : ((j + 1 : Nat) : Int) * e = (j : Int) * e + e := by rw [Int.natCast_add, Int.add_mul]; simp
                rw [hje2] at hp2
                have hje3 : ((j : Int) + 1) * e = (j : Int) * e + e := by rw [Int.add_mul]; simp
                obtain ⟨J, hJ⟩ : ∃ J, J = (j : Int) * e := ⟨_, rfl⟩
                rw [← hJ] at hp1 hp2 hje hje0 hje3
                have k1 : IntKind.i64.wrap (((k + j : Nat) : Int) - (k : Int)) = (j : Int) := by rw [show ((k + j : Nat) : Int) - (k : Int) = (j : Int) by omega]; exact IntWalk.i64_in _ (by omega)
                have k2 : ((k + j : Nat) : Int) - (k : Int) = (j : Int) := by omega
                have HSS := Lib.hid hs
                have hgt : ¬ s + (J + e) < t + x := by omega
                have hx0 : ¬ x < 0 := by omega
                have hh : (k : Int) + (j : Int) - (k : Int) = (j : Int) := by omega
                clear hxe hte hs hje2 hJ
                go_wp2_with fail
                go_round
                case rel => exact ⟨j + 1, by omega, by go_num, by rw [HSS.out]⟩
                case measure => simp [intOf]; omega
              · go_wp2_with fail
                go_round
                case rel => exact ⟨k + 1, by omega, by go_num⟩
                case measure => simp [intOf]; omega
          · go_wp2_with fail
            go_ret
            exact ⟨ret_true (by simp), HB6.out⟩
      · rw [errV_ne hE0]
        clear hrun
        go_wp2_with fail
        go_ret
        exact ⟨rfl, HB6.out⟩
  · have ht1 := (tankErr_two _).resolve_left ht
    rw [ht1, kept_ne (by omega), errV_ne (by omega)] at HM
    have HCK := Lib.hid fun W => tcheck_told s e h W
    rw [ht1, errV_ne (by omega)] at HCK
    clear ht ht1
    unfold tankV at HF HM HCK ⊢
    go_enter Tryd.func5, Tryd.ntmps5
    go_wp2_with fail
    have HB0 := Lib.hid (below_alloc0 w (.cells #[.int .i64 s, .int .i64 e, .int .i64 h] 36))
    have HA0 := Lib.hid (TankAt.new w s e h)
    refine (HF.out _).mono ?_
    rintro r w1 ⟨rfl, hb1⟩
    have HA1 := Lib.hid ((HA0.out.below hb1).below (below_alloc0 w1 (.cells #[.int .i64 10, .int .i64 4, .int .i64 2] 36)))
    have HB1 := Lib.hid (below_onAlloc (below_on HB0.out hb1) (.cells #[.int .i64 10, .int .i64 4, .int .i64 2] 36))
    clear hb1 HB0 HA0 HF
    obtain ⟨_, c0, c1, c2⟩ := HA1.out
    go_wp2_with fail
    refine (HM.out _).mono ?_
    rintro r w2 ⟨rfl, hb2⟩
    have HA2 := Lib.hid (HA1.out.below hb2)
    have HB2 := Lib.hid (below_on HB1.out hb2)
    clear hb2 HB1 HA1 HM c0 c1 c2
    obtain ⟨_, c0, c1, c2⟩ := HA2.out
    go_wp2_with fail
    refine (HCK.out _).mono ?_
    rintro r w3 ⟨rfl, hb3⟩
    have HB3 := Lib.hid (below_on HB2.out hb3)
    clear hb3
    go_wp2_with fail
    go_ret
    exact ⟨rfl, HB3.out⟩
end Go.Proofs.YtfnbehjebmbbdaaDoor
