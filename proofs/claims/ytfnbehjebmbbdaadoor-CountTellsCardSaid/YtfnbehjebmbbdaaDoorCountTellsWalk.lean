/- The walk of the law CountTells. -/
import Derived.Test.YtfnbehjebmbbdaaDoorTold
import Derived.Test.YtfnbehjebmbbdaaDoorRefCount2
import Derived.Test.YtfnbehjebmbbdaaDoorOpen
namespace Go.Proofs.YtfnbehjebmbbdaaDoor
open Go.RowKit

set_option maxRecDepth 100000 in
set_option maxHeartbeats 4000000 in
theorem countTells_walk (w : World) (n k : Int) (hg : Laid w) :
    Calls Tryd.prog 8 #[.int .i64 n, .int .i64 k] w fun e w' => e = .returned (.bool true) ∧ Below w.heap.size w w' := by
  have HG := Lib.hid hg
  have HE0 := Lib.hid fun W (hW : Laid W) => herr_yes 0 W hW (by omega)
  have HE1 := Lib.hid fun W (hW : Laid W) => herr_yes 1 W hW (by omega)
  have hv0 : errV 0 = .nilIface := rfl
  have hv1 : errV 1 = .iface 72 (.int .i64 1) := errV_ne (by omega)
  rw [hv0] at HE0
  rw [hv1] at HE1
  clear hg hv0 hv1
  by_cases hk : 0 ≤ k ∧ k ≤ 8
  · obtain ⟨K, rfl⟩ := Int.eq_ofNat_of_zero_le hk.1
    have hK : K ≤ 8 := by omega
    have k1 : ¬ (K : Int) < 0 := by omega
    have k2 : ¬ 8 < (K : Int) := by omega
    have HT := Lib.hid fun W => ctable_ok K W hK
    have HTS := Lib.hid (tabL_succ K)
    have HC : Hid (∀ m : Nat, m < 7 → ∀ W, Calls Tryd.prog 30 #[.int .i64 m, .int .i64 K] W fun e w' => e = .returned (.int .i64 (Ph.cnt m K : Nat)) ∧ Below W.heap.size W w') := Lib.hid fun m hm W => rcount_any m K W (by omega) hK
    by_cases hn : 0 ≤ n ∧ n ≤ 6
    · obtain ⟨N, rfl⟩ := Int.eq_ofNat_of_zero_le hn.1
      have hN : N ≤ 6 := by omega
      have n1 : ¬ (N : Int) < 0 := by omega
      have n2 : ¬ 6 < (N : Int) := by omega
      have HRC := Lib.hid fun W => rcount_any N K W hN hK
      have hcb := Ph.cnt_le N K hN hK
      have HRB := Lib.hid fun W => rbits_any (Ph.cnt N K) W (by omega)
      have HCO := Lib.hid fun W => cOf_ok N K W hN hK
      have HCB := Lib.hid fun W => cBits_ok N K W hN hK
      obtain ⟨D, hD⟩ : ∃ D, D = Ph.bitsOf (Ph.cnt N K) := ⟨_, rfl⟩
      rw [← hD] at HRB HCB
      obtain ⟨C, hC⟩ : ∃ C, C = Ph.cnt N K := ⟨_, rfl⟩
      rw [← hC] at HRC HRB HCO hcb
      clear hk hn hD hC
      go_enter Tryd.func8, Tryd.ntmps8
      go_wp2_with fail
      refine (HRC.out _).mono ?_
      rintro e w1 ⟨rfl, hb1⟩
      have HB1 := Lib.hid hb1
      clear hb1
      go_wp2_with fail
      refine (HRB.out _).mono ?_
      rintro e wk ⟨rfl, rfl⟩
      go_wp2_with fail
      refine (HCO.out _).mono ?_
      rintro e w2 ⟨rfl, hb2⟩
      have HB2 := Lib.hid (below_on HB1.out hb2)
      clear hb2
      go_wp2_with fail
      refine (HE0.out _ (HG.out.below HB2.out)).mono ?_
      rintro e w3 ⟨rfl, hb3⟩
      have HB3 := Lib.hid (below_on HB2.out hb3)
      clear hb3
      go_wp2_with fail
      refine (HCB.out _).mono ?_
      rintro e w4 ⟨rfl, hb4⟩
      have HB4 := Lib.hid (below_on HB3.out hb4)
      clear hb4
      go_wp2_with fail
      refine (HE0.out _ (HG.out.below HB4.out)).mono ?_
      rintro e w5 ⟨rfl, hb5⟩
      have HB5 := Lib.hid (below_on HB4.out hb5)
      clear hb5
      clear HRC HRB HCO HCB
      rename World => w5
      go_wp2_with fail
      go_loopw [13, 14] (fun v i wr => ∃ (m : Nat) (A : Option Addr) (c : Nat), m ≤ 7 ∧ i = .int .i64 m ∧ v = .slice A m c ∧ wr.ownsRow w.heap.size 3 1 (.slice A m c) m (ivals (tabL K m)) ∧ Below w.heap.size w wr) (fun _ i _ => 7 - (intOf i).toNat)
      case atStart => exact ⟨0, none, 0, Nat.zero_le _, rfl, rfl, own_nil _ _ _, HB5.out⟩
      case round =>
        obtain ⟨m, A, c, hm, rfl, rfl, hown, hbw⟩ := hrel
        have HO := Lib.hid hown
        have HBW := Lib.hid hbw
        clear hown hbw HB5
        by_cases hlt : m < 7
        · have HA := Lib.hid fun W => HC.out m hlt W
          have HT1 := Lib.hid (HTS.out m)
          obtain ⟨X, hX⟩ : ∃ X, X = Ph.cnt m K := ⟨_, rfl⟩
          rw [← hX] at HA HT1
          have hm6 : (m : Int) ≤ 6 := by omega
          clear hX
          go_wp2_with fail
          refine (HA.out _).mono ?_
          rintro e w6 ⟨rfl, hb6⟩
          have HO1 := Lib.hid (own_below' HO.out hb6)
          have HB6 := Lib.hid (below_on HBW.out hb6)
          clear hb6
          go_wp2_with (at_builtin; refine wpList_push _ (by rfl) _ _ (by rfl) w w.heap.size A m c _ (X : Int) HO1.out HB6.out HB6.out.size (by omega) (by rfl) (by rfl) ?_; intro g cap w7 ho7 hb7)
          have HO7 := Lib.hid ho7
          have HB7 := Lib.hid hb7
          clear ho7 hb7
          go_wp2_with fail
          go_roundw
          case rel => exact ⟨m + 1, some ⟨g, 0, none⟩, cap, by omega, by go_num, rfl, by rw [HT1.out]; exact HO7.out, HB7.out⟩
          case measure => simp [intOf]; omega
        · obtain rfl : m = 7 := by omega
          have HR := Lib.hid (RdI.own HO.out)
          go_wp2_with fail
          refine (HT.out _).mono ?_
          rintro e w8 ⟨A8, c8, rfl, ho8, hb8⟩
          rw [tabL_length] at ho8 ⊢
          have HO8 := Lib.hid (RdI.own ho8)
          have HR8 := Lib.hid (HR.out.on hb8)
          have HB8 := Lib.hid (below_on HBW.out hb8)
          clear ho8 hb8 HR
          go_wp2_with fail
          refine (HE0.out _ (HG.out.below HB8.out)).mono ?_
          rintro e w9 ⟨rfl, hb9⟩
          have HO9 := Lib.hid (HO8.out.on hb9)
          have HR9 := Lib.hid (HR8.out.on hb9)
          have HB9 := Lib.hid (below_on HB8.out hb9)
          clear hb9
          go_wp2_with fail
          refine (ints_any A8 A 7 c8 7 c _ _ _ _ _ HO9.out HR9.out (Nat.le_refl _) (Nat.le_refl _) (by omega)).mono ?_
          rintro e w10 ⟨rfl, hb10⟩
          rw [sameI_true.2 (rfl : tabL K 7 = tabL K 7)]
          have HB10 := Lib.hid (below_on HB9.out hb10)
          clear hb10
          go_wp2_with fail
          go_ret
          exact ⟨ret_true (by simp), HB10.out⟩
    · have hok : cntOk n (K : Int) = false := by
        cases h : cntOk n (K : Int)
        · rfl
        · exact absurd (cntOk_iff.1 h).1 hn
      have HCO := Lib.hid fun W => cOf_no n K W hok
      have HCB := Lib.hid fun W => cBits_no n K W hok
      have hor : n < 0 ∨ (¬ n < 0 ∧ 6 < n) := by omega
      clear hk hn hok
      rcases hor with n1 | ⟨n1, n2⟩
      all_goals
        go_enter Tryd.func8, Tryd.ntmps8
        go_wp2_with fail
        refine (HCO.out _).mono ?_
        rintro e wk ⟨rfl, rfl⟩
        go_wp2_with fail
        refine (HE1.out _ HG.out).mono ?_
        rintro e w3 ⟨rfl, hb3⟩
        have HB3 := Lib.hid hb3
        clear hb3
        go_wp2_with fail
        refine (HCB.out _).mono ?_
        rintro e wk ⟨rfl, rfl⟩
        go_wp2_with fail
        refine (HE1.out _ (HG.out.below HB3.out)).mono ?_
        rintro e w5 ⟨rfl, hb5⟩
        have HB5 := Lib.hid (below_on HB3.out hb5)
        clear hb5
        rename World => w5
        go_wp2_with fail
        go_loopw [13, 14] (fun v i wr => ∃ (m : Nat) (A : Option Addr) (c : Nat), m ≤ 7 ∧ i = .int .i64 m ∧ v = .slice A m c ∧ wr.ownsRow w.heap.size 3 1 (.slice A m c) m (ivals (tabL K m)) ∧ Below w.heap.size w wr) (fun _ i _ => 7 - (intOf i).toNat)
        case atStart => exact ⟨0, none, 0, Nat.zero_le _, rfl, rfl, own_nil _ _ _, HB5.out⟩
        case round =>
          obtain ⟨m, A, c, hm, rfl, rfl, hown, hbw⟩ := hrel
          have HO := Lib.hid hown
          have HBW := Lib.hid hbw
          clear hown hbw HB5
          by_cases hlt : m < 7
          · have HA := Lib.hid fun W => HC.out m hlt W
            have HT1 := Lib.hid (HTS.out m)
            obtain ⟨X, hX⟩ : ∃ X, X = Ph.cnt m K := ⟨_, rfl⟩
            rw [← hX] at HA HT1
            have hm6 : (m : Int) ≤ 6 := by omega
            clear hX
            go_wp2_with fail
            refine (HA.out _).mono ?_
            rintro e w6 ⟨rfl, hb6⟩
            have HO1 := Lib.hid (own_below' HO.out hb6)
            have HB6 := Lib.hid (below_on HBW.out hb6)
            clear hb6
            go_wp2_with (at_builtin; refine wpList_push _ (by rfl) _ _ (by rfl) w w.heap.size A m c _ (X : Int) HO1.out HB6.out HB6.out.size (by omega) (by rfl) (by rfl) ?_; intro g cap w7 ho7 hb7)
            have HO7 := Lib.hid ho7
            have HB7 := Lib.hid hb7
            clear ho7 hb7
            go_wp2_with fail
            go_roundw
            case rel => exact ⟨m + 1, some ⟨g, 0, none⟩, cap, by omega, by go_num, rfl, by rw [HT1.out]; exact HO7.out, HB7.out⟩
            case measure => simp [intOf]; omega
          · obtain rfl : m = 7 := by omega
            have HR := Lib.hid (RdI.own HO.out)
            go_wp2_with fail
            refine (HT.out _).mono ?_
            rintro e w8 ⟨A8, c8, rfl, ho8, hb8⟩
            rw [tabL_length] at ho8 ⊢
            have HO8 := Lib.hid (RdI.own ho8)
            have HR8 := Lib.hid (HR.out.on hb8)
            have HB8 := Lib.hid (below_on HBW.out hb8)
            clear ho8 hb8 HR
            go_wp2_with fail
            refine (HE0.out _ (HG.out.below HB8.out)).mono ?_
            rintro e w9 ⟨rfl, hb9⟩
            have HO9 := Lib.hid (HO8.out.on hb9)
            have HR9 := Lib.hid (HR8.out.on hb9)
            have HB9 := Lib.hid (below_on HB8.out hb9)
            clear hb9
            go_wp2_with fail
            refine (ints_any A8 A 7 c8 7 c _ _ _ _ _ HO9.out HR9.out (Nat.le_refl _) (Nat.le_refl _) (by omega)).mono ?_
            rintro e w10 ⟨rfl, hb10⟩
            rw [sameI_true.2 (rfl : tabL K 7 = tabL K 7)]
            have HB10 := Lib.hid (below_on HB9.out hb10)
            clear hb10
            go_wp2_with fail
            go_ret
            exact ⟨ret_true (by simp), HB10.out⟩
  · have hok : cntOk n k = false := by
      cases h : cntOk n k
      · rfl
      · exact absurd (cntOk_iff.1 h).2 hk
    have HCO := Lib.hid fun W => cOf_no n k W hok
    have HCB := Lib.hid fun W => cBits_no n k W hok
    have HT := Lib.hid fun W => ctable_no k W (by omega)
    have hor : k < 0 ∨ (¬ k < 0 ∧ 8 < k) := by omega
    have hor2 : n < 0 ∨ (¬ n < 0 ∧ 6 < n) ∨ (¬ n < 0 ∧ ¬ 6 < n) := by omega
    clear hk hok
    rcases hor with k1 | ⟨k1, k2⟩ <;> rcases hor2 with n1 | ⟨n1, n2⟩ | ⟨n1, n2⟩
    all_goals
      go_enter Tryd.func8, Tryd.ntmps8
      go_wp2_with fail
      refine (HCO.out _).mono ?_
      rintro e wk ⟨rfl, rfl⟩
      go_wp2_with fail
      refine (HE1.out _ HG.out).mono ?_
      rintro e w3 ⟨rfl, hb3⟩
      have HB3 := Lib.hid hb3
      clear hb3
      go_wp2_with fail
      refine (HCB.out _).mono ?_
      rintro e wk ⟨rfl, rfl⟩
      go_wp2_with fail
      refine (HE1.out _ (HG.out.below HB3.out)).mono ?_
      rintro e w5 ⟨rfl, hb5⟩
      have HB5 := Lib.hid (below_on HB3.out hb5)
      clear hb5
      go_wp2_with fail
      go_loop [13, 14] (fun v i => v = .slice none 0 0 ∧ i = .int .i64 0) (fun _ _ => 0)
      case atStart => exact ⟨rfl, rfl⟩
      case round =>
        obtain ⟨rfl, rfl⟩ := hrel
        go_wp2_with fail
        refine (HT.out _).mono ?_
        rintro e wk ⟨rfl, rfl⟩
        go_wp2_with fail
        refine (HE1.out _ (HG.out.below HB5.out)).mono ?_
        rintro e w9 ⟨rfl, hb9⟩
        have HB9 := Lib.hid (below_on HB5.out hb9)
        clear hb9
        go_wp2_with fail
        refine (ints_any none none 0 0 0 0 [] [] _ 0 0 RdI.nil RdI.nil (Nat.zero_le _) (Nat.zero_le _) (by omega)).mono ?_
        rintro e w10 ⟨rfl, hb10⟩
        have HB10 := Lib.hid (below_on HB9.out hb10)
        clear hb10
        rw [sameI_true.2 (rfl : ([] : List Int) = [])]
        go_wp2_with fail
        go_ret
        exact ⟨ret_true (by simp), HB10.out⟩
end Go.Proofs.YtfnbehjebmbbdaaDoor
