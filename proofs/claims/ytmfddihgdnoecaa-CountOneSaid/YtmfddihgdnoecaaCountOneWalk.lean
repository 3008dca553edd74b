/- The walk of the law CountOne. -/
import Derived.Test.YtmfddihgdnoecaaCount2
import Derived.Test.YtmfddihgdnoecaaOpen
namespace Go.Proofs.Ytmfddihgdnoecaa
open Go.RowKit

theorem cnt_one : ∀ n : Nat, n ≤ 6 → Ph.cnt n 1 = 2 * n := by
  have h : ∀ n : Fin 7, Ph.cnt n.1 1 = 2 * n.1 := by decide +kernel
  intro n hn
  exact h ⟨n, by omega⟩
theorem one_cnt : ∀ k : Nat, k ≤ 8 → Ph.cnt 1 k = if k = 0 then 1 else 2 := by
  have h : ∀ k : Fin 9, Ph.cnt 1 k.1 = if k.1 = 0 then 1 else 2 := by decide +kernel
  intro k hk
  exact h ⟨k, by omega⟩
set_option maxHeartbeats 1000000 in
theorem countOne_walk (w : World) (n k : Int) :
    Calls Try.prog 6 #[.int .i64 n, .int .i64 k] w fun e w' => e = .returned (.bool true) ∧ Below w.heap.size w w' := by
  rcases Decidable.em (0 ≤ n ∧ n ≤ 6) with hn | hn
  · obtain ⟨n, rfl⟩ := Int.eq_ofNat_of_zero_le hn.1
    have HN : Hid (∀ W, Calls Try.prog 21 #[.int .i64 n, .int .i64 1] W fun e w' => e = .returned (.tuple #[.int .i64 (2 * (n : Int)), .nilIface]) ∧ Below W.heap.size W w') := Lib.hid (by
      intro W
      have := cOf_ok n 1 W (by omega) (by omega)
      rw [cnt_one n (by omega)] at this
      simpa using this)
    rcases Decidable.em (0 ≤ k ∧ k ≤ 8) with hk | hk
    · obtain ⟨k, rfl⟩ := Int.eq_ofNat_of_zero_le hk.1
      rcases Nat.eq_zero_or_pos k with h0 | h0
      · subst h0
        have HK : Hid (∀ W, Calls Try.prog 21 #[.int .i64 1, .int .i64 0] W fun e w' => e = .returned (.tuple #[.int .i64 1, .nilIface]) ∧ Below W.heap.size W w') := Lib.hid (fun W => cOf_ok 1 0 W (by omega) (by omega))
        have h9 : (((0 : Nat) : Int) == 0) = true := by simp
        go_enter Try.func6, Try.ntmps6
        go_wp2_with fail
        refine (HN.out _).mono ?_
        rintro e w1 ⟨rfl, hb1⟩
        have HB1 := Lib.hid hb1
        clear hb1
        go_wp2_with fail
        refine (HK.out _).mono ?_
        rintro e w2 ⟨rfl, hb2⟩
        have HB2 := Lib.hid hb2
        clear hb2
        go_wp2_with fail
        go_ret
        exact ⟨rfl, below_on HB1.out HB2.out⟩
      · have HK : Hid (∀ W, Calls Try.prog 21 #[.int .i64 1, .int .i64 k] W fun e w' => e = .returned (.tuple #[.int .i64 2, .nilIface]) ∧ Below W.heap.size W w') := Lib.hid (by
          intro W
          have := cOf_ok 1 k W (by omega) (by omega)
          rw [one_cnt k (by omega), if_neg (by omega)] at this
          exact this)
        have hk0 : ((k : Int) == 0) = false := by simp; omega
        have hk1 : (0 : Int) < (k : Int) := by omega
        go_enter Try.func6, Try.ntmps6
        go_wp2_with fail
        refine (HN.out _).mono ?_
        rintro e w1 ⟨rfl, hb1⟩
        have HB1 := Lib.hid hb1
        clear hb1
        go_wp2_with fail
        refine (HK.out _).mono ?_
        rintro e w2 ⟨rfl, hb2⟩
        have HB2 := Lib.hid hb2
        clear hb2
        go_wp2_with fail
        go_ret
        exact ⟨rfl, below_on HB1.out HB2.out⟩
    · have HK : Hid (∀ W, Calls Try.prog 21 #[.int .i64 1, .int .i64 k] W fun e w' => e = .returned (.tuple #[.int .i64 0, .iface 37 (.int .i64 1)]) ∧ W = w') := Lib.hid (fun W => cOf_no 1 k W (by unfold cntOk; simp; omega))
      rcases Int.lt_or_le k 0 with h1 | h1
      · have h2 : ¬ 0 ≤ k := by omega
        clear hk
        go_enter Try.func6, Try.ntmps6
        go_wp2_with fail
        refine (HN.out _).mono ?_
        rintro e w1 ⟨rfl, hb1⟩
        have HB1 := Lib.hid hb1
        clear hb1
        go_wp2_with fail
        refine (HK.out _).mono ?_
        rintro e w2 ⟨rfl, rfl⟩
        go_wp2_with fail
        go_ret
        exact ⟨rfl, HB1.out⟩
      · have h2 : 0 ≤ k := by omega
        have h3 : ¬ k ≤ 8 := by omega
        clear hk
        go_enter Try.func6, Try.ntmps6
        go_wp2_with fail
        refine (HN.out _).mono ?_
        rintro e w1 ⟨rfl, hb1⟩
        have HB1 := Lib.hid hb1
        clear hb1
        go_wp2_with fail
        refine (HK.out _).mono ?_
        rintro e w2 ⟨rfl, rfl⟩
        go_wp2_with fail
        go_ret
        exact ⟨rfl, HB1.out⟩
  · have HN : Hid (∀ W, Calls Try.prog 21 #[.int .i64 n, .int .i64 1] W fun e w' => e = .returned (.tuple #[.int .i64 0, .iface 37 (.int .i64 1)]) ∧ W = w') := Lib.hid (fun W => cOf_no n 1 W (by unfold cntOk; simp; omega))
    rcases Int.lt_or_le n 0 with g1 | g1
    · have g2 : ¬ 0 ≤ n := by omega
      clear hn
      rcases Decidable.em (0 ≤ k ∧ k ≤ 8) with hk | hk
      · obtain ⟨k, rfl⟩ := Int.eq_ofNat_of_zero_le hk.1
        rcases Nat.eq_zero_or_pos k with h0 | h0
        · subst h0
          have HK : Hid (∀ W, Calls Try.prog 21 #[.int .i64 1, .int .i64 0] W fun e w' => e = .returned (.tuple #[.int .i64 1, .nilIface]) ∧ Below W.heap.size W w') := Lib.hid (fun W => cOf_ok 1 0 W (by omega) (by omega))
          have h9 : (((0 : Nat) : Int) == 0) = true := by simp
          go_enter Try.func6, Try.ntmps6
          go_wp2_with fail
          refine (HN.out _).mono ?_
          rintro e w1 ⟨rfl, rfl⟩
          go_wp2_with fail
          refine (HK.out _).mono ?_
          rintro e w2 ⟨rfl, hb2⟩
          have HB2 := Lib.hid hb2
          clear hb2
          go_wp2_with fail
          go_ret
          exact ⟨rfl, HB2.out⟩
        · have HK : Hid (∀ W, Calls Try.prog 21 #[.int .i64 1, .int .i64 k] W fun e w' => e = .returned (.tuple #[.int .i64 2, .nilIface]) ∧ Below W.heap.size W w') := Lib.hid (by
            intro W
            have := cOf_ok 1 k W (by omega) (by omega)
            rw [one_cnt k (by omega), if_neg (by omega)] at this
            exact this)
          have hk0 : ((k : Int) == 0) = false := by simp; omega
          have hk1 : (0 : Int) < (k : Int) := by omega
          go_enter Try.func6, Try.ntmps6
          go_wp2_with fail
          refine (HN.out _).mono ?_
          rintro e w1 ⟨rfl, rfl⟩
          go_wp2_with fail
          refine (HK.out _).mono ?_
          rintro e w2 ⟨rfl, hb2⟩
          have HB2 := Lib.hid hb2
          clear hb2
          go_wp2_with fail
          go_ret
          exact ⟨rfl, HB2.out⟩
      · have HK : Hid (∀ W, Calls Try.prog 21 #[.int .i64 1, .int .i64 k] W fun e w' => e = .returned (.tuple #[.int .i64 0, .iface 37 (.int .i64 1)]) ∧ W = w') := Lib.hid (fun W => cOf_no 1 k W (by unfold cntOk; simp; omega))
        rcases Int.lt_or_le k 0 with h1 | h1
        · have h2 : ¬ 0 ≤ k := by omega
          clear hk
          go_enter Try.func6, Try.ntmps6
          go_wp2_with fail
          refine (HN.out _).mono ?_
          rintro e w1 ⟨rfl, rfl⟩
          go_wp2_with fail
          refine (HK.out _).mono ?_
          rintro e w2 ⟨rfl, rfl⟩
          go_wp2_with fail
          go_ret
          exact ⟨rfl, Below.refl _ _⟩
        · have h2 : 0 ≤ k := by omega
          have h3 : ¬ k ≤ 8 := by omega
          clear hk
          go_enter Try.func6, Try.ntmps6
          go_wp2_with fail
          refine (HN.out _).mono ?_
          rintro e w1 ⟨rfl, rfl⟩
          go_wp2_with fail
          refine (HK.out _).mono ?_
          rintro e w2 ⟨rfl, rfl⟩
          go_wp2_with fail
          go_ret
          exact ⟨rfl, Below.refl _ _⟩
    · have g2 : 0 ≤ n := by omega
      have g3 : ¬ n ≤ 6 := by omega
      clear hn
      rcases Decidable.em (0 ≤ k ∧ k ≤ 8) with hk | hk
      · obtain ⟨k, rfl⟩ := Int.eq_ofNat_of_zero_le hk.1
        rcases Nat.eq_zero_or_pos k with h0 | h0
        · subst h0
          have HK : Hid (∀ W, Calls Try.prog 21 #[.int .i64 1, .int .i64 0] W fun e w' => e = .returned (.tuple #[.int .i64 1, .nilIface]) ∧ Below W.heap.size W w') := Lib.hid (fun W => cOf_ok 1 0 W (by omega) (by omega))
          have h9 : (((0 : Nat) : Int) == 0) = true := by simp
          go_enter Try.func6, Try.ntmps6
          go_wp2_with fail
          refine (HN.out _).mono ?_
          rintro e w1 ⟨rfl, rfl⟩
          go_wp2_with fail
          refine (HK.out _).mono ?_
          rintro e w2 ⟨rfl, hb2⟩
          have HB2 := Lib.hid hb2
          clear hb2
          go_wp2_with fail
          go_ret
          exact ⟨rfl, HB2.out⟩
        · have HK : Hid (∀ W, Calls Try.prog 21 #[.int .i64 1, .int .i64 k] W fun e w' => e = .returned (.tuple #[.int .i64 2, .nilIface]) ∧ Below W.heap.size W w') := Lib.hid (by
            intro W
            have := cOf_ok 1 k W (by omega) (by omega)
            rw [one_cnt k (by omega), if_neg (by omega)] at this
            exact this)
          have hk0 : ((k : Int) == 0) = false := by simp; omega
          have hk1 : (0 : Int) < (k : Int) := by omega
          go_enter Try.func6, Try.ntmps6
          go_wp2_with fail
          refine (HN.out _).mono ?_
          rintro e w1 ⟨rfl, rfl⟩
          go_wp2_with fail
          refine (HK.out _).mono ?_
          rintro e w2 ⟨rfl, hb2⟩
          have HB2 := Lib.hid hb2
          clear hb2
          go_wp2_with fail
          go_ret
          exact ⟨rfl, HB2.out⟩
      · have HK : Hid (∀ W, Calls Try.prog 21 #[.int .i64 1, .int .i64 k] W fun e w' => e = .returned (.tuple #[.int .i64 0, .iface 37 (.int .i64 1)]) ∧ W = w') := Lib.hid (fun W => cOf_no 1 k W (by unfold cntOk; simp; omega))
        rcases Int.lt_or_le k 0 with h1 | h1
        · have h2 : ¬ 0 ≤ k := by omega
          clear hk
          go_enter Try.func6, Try.ntmps6
          go_wp2_with fail
          refine (HN.out _).mono ?_
          rintro e w1 ⟨rfl, rfl⟩
          go_wp2_with fail
          refine (HK.out _).mono ?_
          rintro e w2 ⟨rfl, rfl⟩
          go_wp2_with fail
          go_ret
          exact ⟨rfl, Below.refl _ _⟩
        · have h2 : 0 ≤ k := by omega
          have h3 : ¬ k ≤ 8 := by omega
          clear hk
          go_enter Try.func6, Try.ntmps6
          go_wp2_with fail
          refine (HN.out _).mono ?_
          rintro e w1 ⟨rfl, rfl⟩
          go_wp2_with fail
          refine (HK.out _).mono ?_
          rintro e w2 ⟨rfl, rfl⟩
          go_wp2_with fail
          go_ret
          exact ⟨rfl, Below.refl _ _⟩
end Go.Proofs.Ytmfddihgdnoecaa
