/- The walk of the law CountTurns. -/
import Derived.Test.YtmfddihgdnoecaaCount2
import Derived.Test.YtmfddihgdnoecaaOpen
namespace Go.Proofs.Ytmfddihgdnoecaa
open Go.RowKit

set_option maxHeartbeats 1000000 in
theorem countTurns_walk (w : World) (n k : Int) :
    Calls Try.prog 12 #[.int .i64 n, .int .i64 k] w fun e w' => e = .returned (.bool true) ∧ Below w.heap.size w w' := by
  have HF : Hid (∀ W, Calls Try.prog 21 #[.int .i64 3, .int .i64 2] W fun e w' => e = .returned (.tuple #[.int .i64 18, .nilIface]) ∧ Below W.heap.size W w') := Lib.hid (fun W => by
    have h : Ph.cnt 3 2 = 18 := by decide +kernel
    have := cOf_ok 3 2 W (by omega) (by omega)
    rw [h] at this
    exact this)
  cases hok : cntOk n k
  · have HN : Hid (∀ W, Calls Try.prog 21 #[.int .i64 n, .int .i64 k] W fun e w' => e = .returned (.tuple #[.int .i64 0, .iface 37 (.int .i64 1)]) ∧ W = w') := Lib.hid (fun W => cOf_no n k W hok)
    clear hok
    go_enter Try.func12, Try.ntmps12
    go_wp2_with fail
    refine (HF.out _).mono ?_
    rintro e w1 ⟨rfl, hb1⟩
    have HB1 := Lib.hid hb1
    clear hb1
    go_wp2_with fail
    refine (HN.out _).mono ?_
    rintro e w2 ⟨rfl, rfl⟩
    go_wp2_with fail
    go_ret
    exact ⟨rfl, HB1.out⟩
  · have h := cntOk_iff.1 hok
    obtain ⟨n, rfl⟩ := Int.eq_ofNat_of_zero_le h.1.1
    obtain ⟨k, rfl⟩ := Int.eq_ofNat_of_zero_le h.2.1
    have hn : n ≤ 6 := by omega
    have hk : k ≤ 8 := by omega
    clear hok h
    have HN : Hid (∀ W, Calls Try.prog 21 #[.int .i64 n, .int .i64 k] W fun e w' => e = .returned (.tuple #[.int .i64 (Ph.cnt n k : Nat), .nilIface]) ∧ Below W.heap.size W w') := Lib.hid (fun W => cOf_ok n k W hn hk)
    rcases Nat.eq_zero_or_pos n with n0 | n0
    · subst n0
      go_enter Try.func12, Try.ntmps12
      go_wp2_with fail
      refine (HF.out _).mono ?_
      rintro e w1 ⟨rfl, hb1⟩
      have HB1 := Lib.hid hb1
      clear hb1
      go_wp2_with fail
      refine (HN.out _).mono ?_
      rintro e w2 ⟨rfl, hb2⟩
      have HB2 := Lib.hid (below_on HB1.out hb2)
      clear hb2
      go_wp2_with fail
      go_ret
      exact ⟨rfl, HB2.out⟩
    · rcases Nat.eq_zero_or_pos k with k0 | k0
      · subst k0
        go_enter Try.func12, Try.ntmps12
        go_wp2_with fail
        refine (HF.out _).mono ?_
        rintro e w1 ⟨rfl, hb1⟩
        have HB1 := Lib.hid hb1
        clear hb1
        go_wp2_with fail
        refine (HN.out _).mono ?_
        rintro e w2 ⟨rfl, hb2⟩
        have HB2 := Lib.hid (below_on HB1.out hb2)
        clear hb2
        go_wp2_with fail
        go_ret
        exact ⟨rfl, HB2.out⟩
      · obtain ⟨n, rfl⟩ : ∃ q, n = q + 1 := ⟨n - 1, by omega⟩
        obtain ⟨k, rfl⟩ : ∃ q, k = q + 1 := ⟨k - 1, by omega⟩
        have b1 := cnt_bd n (k + 1) (by omega) hk
        have b2 := cnt_bd (n + 1) k hn (by omega)
        have b3 := cnt_bd n k (by omega) (by omega)
        have b0 := cnt_bd (n + 1) (k + 1) hn hk
        have hs := Ph.cnt_succ n k
        obtain ⟨X, hX⟩ : ∃ X, X = Ph.cnt n (k + 1) := ⟨_, rfl⟩
        obtain ⟨Y, hY⟩ : ∃ Y, Y = Ph.cnt (n + 1) k := ⟨_, rfl⟩
        obtain ⟨Z, hZ⟩ : ∃ Z, Z = Ph.cnt n k := ⟨_, rfl⟩
        obtain ⟨T, hT⟩ : ∃ T, T = Ph.cnt (n + 1) (k + 1) := ⟨_, rfl⟩
        have H1 : Hid (∀ W, Calls Try.prog 21 #[.int .i64 n, .int .i64 ((k : Int) + 1)] W fun e w' => e = .returned (.tuple #[.int .i64 X, .nilIface]) ∧ Below W.heap.size W w') := Lib.hid (fun W => by rw [hX]; exact cOf_ok n (k + 1) W (by omega) hk)
        have H2 : Hid (∀ W, Calls Try.prog 21 #[.int .i64 ((n : Int) + 1), .int .i64 k] W fun e w' => e = .returned (.tuple #[.int .i64 Y, .nilIface]) ∧ Below W.heap.size W w') := Lib.hid (fun W => by rw [hY]; exact cOf_ok (n + 1) k W hn (by omega))
        have H3 : Hid (∀ W, Calls Try.prog 21 #[.int .i64 n, .int .i64 k] W fun e w' => e = .returned (.tuple #[.int .i64 Z, .nilIface]) ∧ Below W.heap.size W w') := Lib.hid (fun W => by rw [hZ]; exact cOf_ok n k W (by omega) (by omega))
        have H4 : Hid (∀ W, Calls Try.prog 30 #[.int .i64 ((n : Int) + 1), .int .i64 ((k : Int) + 1)] W fun e w' => e = .returned (.tuple #[.int .i64 (Ph.bitsOf T : Nat), .nilIface]) ∧ Below W.heap.size W w') := Lib.hid (fun W => by rw [hT]; exact cBits_ok (n + 1) (k + 1) W hn hk)
        have hbe := Ph.bits_enough (n + 1) (k + 1) hn hk
        have ht := fun hk6 => Ph.turns (n + 1) (k + 1) hn hk6
        rw [← hX] at b1 hs
        rw [← hY] at b2 hs
        rw [← hZ] at b3 hs
        rw [← hT] at b0 hs hbe ht HN
        have hs' : ((T : Int) != (X : Int) + (Y : Int) + (Z : Int)) = false := by simp; omega
        have HS := Lib.hid hs
        obtain ⟨b, hb⟩ : ∃ b, b = Ph.bitsOf T := ⟨_, rfl⟩
        rw [← hb] at hbe H4
        have HBE := Lib.hid hbe
        have hb20 : b ≤ 20 := hbe.1
        have HT := Lib.hid ht
        clear hs hX hY hZ hT hb hbe ht
        go_enter Try.func12, Try.ntmps12
        go_wp2_with fail
        refine (HF.out _).mono ?_
        rintro e w1 ⟨rfl, hb1⟩
        have HB1 := Lib.hid hb1
        clear hb1
        go_wp2_with fail
        refine (HN.out _).mono ?_
        rintro e w2 ⟨rfl, hb2⟩
        have HB2 := Lib.hid (below_on HB1.out hb2)
        clear hb2 HB1
        go_wp2_with fail
        refine (H1.out _).mono ?_
        rintro e w3 ⟨rfl, hb3⟩
        have HB3 := Lib.hid (below_on HB2.out hb3)
        clear hb3 HB2
        go_wp2_with fail
        refine (H2.out _).mono ?_
        rintro e w4 ⟨rfl, hb4⟩
        have HB4 := Lib.hid (below_on HB3.out hb4)
        clear hb4 HB3
        go_wp2_with fail
        refine (H3.out _).mono ?_
        rintro e w5 ⟨rfl, hb5⟩
        have HB5 := Lib.hid (below_on HB4.out hb5)
        clear hb5 HB4 H1 H2 H3 HN HF
        go_wp2_with fail
        rcases Nat.lt_or_ge 6 (k + 1) with h6 | h6
        case' inl =>
          refine (cOf_no ((k : Int) + 1) ((n : Int) + 1) w5 (by unfold cntOk; simp; omega)).mono ?_
          rintro e w6 ⟨rfl, rfl⟩
          have HB6 := HB5
          clear HB5
        case' inr =>
          have hc := cOf_ok (k + 1) (n + 1) w5 h6 (by omega)
          have hcb := cnt_bd (k + 1) (n + 1) h6 (by omega)
          have heq := HT.out h6
          obtain ⟨C, hC⟩ : ∃ C, C = Ph.cnt (k + 1) (n + 1) := ⟨_, rfl⟩
          rw [← hC] at hc hcb heq
          have hne : (((k : Int) + 1) * (T : Int) != ((n : Int) + 1) * (C : Int)) = false := by
            have : ((k : Int) + 1) * (T : Int) = ((n : Int) + 1) * (C : Int) := by exact_mod_cast heq
            simp [this]
          have q1 : 0 ≤ ((k : Int) + 1) * (T : Int) := Int.mul_nonneg (by omega) (by omega)
          have q2 : ((k : Int) + 1) * (T : Int) ≤ 8 * 100000 := Int.mul_le_mul (by omega) (by omega) (by omega) (by omega)
          have q3 : 0 ≤ ((n : Int) + 1) * (C : Int) := Int.mul_nonneg (by omega) (by omega)
          have q4 : ((n : Int) + 1) * (C : Int) ≤ 8 * 100000 := Int.mul_le_mul (by omega) (by omega) (by omega) (by omega)
          have HC : Hid (∀ W, Calls Try.prog 21 #[.int .i64 ((k : Int) + 1), .int .i64 ((n : Int) + 1)] W fun e w' => e = .returned (.tuple #[.int .i64 (C : Nat), .nilIface]) ∧ Below W.heap.size W w') := Lib.hid (fun W => by rw [hC]; exact cOf_ok (k + 1) (n + 1) W h6 (by omega))
          clear hC heq hc
          refine (HC.out _).mono ?_
          rintro e w6 ⟨rfl, hb6⟩
          have HB6 := Lib.hid (below_on HB5.out hb6)
          clear hb6 HB5 HC
        all_goals
          go_wp2_with fail
          refine (H4.out _).mono ?_
          rintro e w7 ⟨rfl, hb7⟩
          have HB7 := Lib.hid (below_on HB6.out hb7)
          clear hb7 HB6
          go_wp2_with fail
          clear H4 HT HS
          go_loop [18, 19] (fun p i => ∃ j : Nat, j ≤ b ∧ i = .int .i64 j ∧ p = .int .i64 ((2 ^ j : Nat) : Int)) (fun _ i => b - (intOf i).toNat)
          case atStart => exact ⟨0, by omega, rfl, rfl⟩
          case round =>
            obtain ⟨j, hj, rfl, rfl⟩ := hrel
            have hp1 : 2 ^ j ≤ 2 ^ 20 := Nat.pow_le_pow_right (by omega) (by omega)
            have HE := Lib.hid (Nat.pow_succ (n := 2) (m := j))
            obtain ⟨P, hP⟩ : ∃ P, P = 2 ^ j := ⟨_, rfl⟩
            rw [← hP] at hp1 HE ⊢
            have HP := Lib.hid hP
            clear hP
            by_cases hlt : j < b
            · go_wp2_with fail
              go_round
              case rel => exact ⟨j + 1, by omega, by go_num, by rw [HE.out]; go_num⟩
              case measure => simp [intOf]; omega
            · obtain rfl : j = b := by omega
              have h1 : T ≤ P := by have := HBE.out.2.1; rw [HP.out]; exact this
              have h2 := HBE.out.2.2
              rw [← HP.out] at h2
              rcases Nat.eq_zero_or_pos j with j0 | j0
              · subst j0
                clear h2
                go_wp2_with fail
                go_ret
                exact ⟨rfl, HB7.out⟩
              · have h3 : P / 2 < T := by omega
                have h4 : ((j : Int) == 0) = false := by simp; omega
                have h5 : (0 : Int) < (j : Int) := by omega
                have h6 : (P : Int) / 2 < (T : Int) := by omega
                clear h2
                go_wp2_with fail
                go_ret
                exact ⟨ret_true (by first | rfl | (simp; done) | (simp; omega)), HB7.out⟩
end Go.Proofs.Ytmfddihgdnoecaa
