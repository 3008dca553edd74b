/- The walk of the law GainNear. -/
import Derived.Test.YtmfddihgdnoecaaGain
import Derived.Test.YtmfddihgdnoecaaOpen
namespace Go.Proofs.Ytmfddihgdnoecaa
open Go.RowKit

theorem far_nat (v n : Nat) : Ph.far ((v : Int) - n) = ((v - n + (n - v) : Nat) : Int) := by rw [Ph.far_eq]; split <;> omega
set_option maxHeartbeats 1000000 in
theorem gainNear_walk (w : World) (n m : Int) :
    Calls Try.prog 11 #[.int .i64 n, .int .i64 m] w fun e w' => e = .returned (.bool true) ∧ Below w.heap.size w w' := by
  have HF : Hid (∀ W, Calls Try.prog 25 #[.int .i64 100] W fun e w' => e = .returned (.tuple #[.int .i64 27, .nilIface]) ∧ W = w') := Lib.hid fun W => by
    have h : Ph.step 100 = 27 := by decide +kernel
    have := index_ok 100 W (by omega)
    rw [h] at this
    exact this
  have HV : Hid (∀ W, Calls Try.prog 28 #[.int .i64 27] W fun e w' => e = .returned (.tuple #[.int .i64 104, .nilIface]) ∧ ∃ q, w' = W.drewN q) := Lib.hid fun W => by
    have h : Ph.mean 27 = 104 := by decide +kernel
    have := value_ok 27 W (by decide +kernel)
    rw [h] at this
    exact this
  rcases Decidable.em (0 ≤ n ∧ n ≤ 8000) with hn | hn
  · obtain ⟨n, rfl⟩ := Int.eq_ofNat_of_zero_le hn.1
    have hn8 : n ≤ 8000 := by omega
    have hso := Ph.step_ok hn8
    have HN : Hid (∀ W, Calls Try.prog 25 #[.int .i64 n] W fun e w' => e = .returned (.tuple #[.int .i64 (Ph.step n : Nat), .nilIface]) ∧ W = w') := Lib.hid fun W => index_ok n W hn8
    have HG : Hid (∀ W, Calls Try.prog 28 #[.int .i64 (Ph.step n : Nat)] W fun e w' => e = .returned (.tuple #[.int .i64 (Ph.mean (Ph.step n) : Nat), .nilIface]) ∧ ∃ q, w' = W.drewN q) := Lib.hid fun W => value_ok _ W (Ph.valued_step hn8)
    have HI : Hid (∀ W, Calls Try.prog 25 #[.int .i64 (Ph.mean (Ph.step n) : Nat)] W fun e w' => e = .returned (.tuple #[.int .i64 (Ph.step n : Nat), .nilIface]) ∧ W = w') := Lib.hid fun W => by
      have := index_ok (Ph.mean (Ph.step n)) W hso.2.1
      rw [hso.2.2.1] at this
      exact this
    have hmono : Hid (∀ k : Nat, k ≤ 8000 → (n ≤ k → Ph.step n ≤ Ph.step k) ∧ (k ≤ n → Ph.step k ≤ Ph.step n)) := Lib.hid fun k hk => ⟨fun h => Ph.step_mono h hk, fun h => Ph.step_mono h hn8⟩
    obtain ⟨X, hX⟩ : ∃ X, X = Ph.step n := ⟨_, rfl⟩
    rw [← hX] at HN HG HI hso hmono
    obtain ⟨V, hV⟩ : ∃ V, V = Ph.mean X := ⟨_, rfl⟩
    rw [← hV] at HG HI hso
    obtain ⟨x53, v8, _, n1, n2, _⟩ := hso
    obtain ⟨D, hD⟩ : ∃ D, D = V - n + (n - V) := ⟨_, rfl⟩
    have HR : Hid (∀ W, Calls Try.prog 29 #[.int .i64 ((V : Int) - n)] W fun e w' => e = .returned (.int .i64 (D : Nat)) ∧ W = w') := Lib.hid fun W => by
      have := rfar_any ((V : Int) - n) W (by omega)
      rw [far_nat, ← hD] at this
      exact this
    have hD8 : 8 * (D : Int) ≤ (n : Int) := by omega
    have HX := Lib.hid hX
    clear hX hV n1 n2 hD
    go_enter Try.func11, Try.ntmps11
    go_wp2_with fail
    refine (HF.out _).mono ?_
    rintro e w1 ⟨rfl, rfl⟩
    go_wp2_with fail
    refine (HV.out _).mono ?_
    rintro e w1 ⟨rfl, q, rfl⟩
    clear HV HF
    go_wp2_with fail
    refine (HN.out _).mono ?_
    rintro e w1 ⟨rfl, rfl⟩
    go_wp2_with fail
    refine (HG.out _).mono ?_
    rintro e w1 ⟨rfl, q, rfl⟩
    go_wp2_with fail
    refine (HI.out _).mono ?_
    rintro e w1 ⟨rfl, rfl⟩
    clear HG HI HN
    go_wp2_with fail
    refine (HR.out _).mono ?_
    rintro e w1 ⟨rfl, rfl⟩
    go_wp2_with fail
    rcases Decidable.em (0 ≤ m ∧ m ≤ 8000) with hm | hm
    · obtain ⟨m, rfl⟩ := Int.eq_ofNat_of_zero_le hm.1
      have hm8 : m ≤ 8000 := by omega
      have HM := Lib.hid fun W => index_ok m W hm8
      have hmo := hmono.out m hm8
      obtain ⟨Y, hY⟩ : ∃ Y, Y = Ph.step m := ⟨_, rfl⟩
      rw [← hY] at HM hmo
      have heq : Hid (n = m → X = Y) := Lib.hid fun h => by rw [HX.out, hY, h]
      clear HX hY
      refine (HM.out _).mono ?_
      rintro e w1 ⟨rfl, rfl⟩
      clear HR HM hmono
      rcases Nat.lt_trichotomy n m with hlt | hlt | hlt
      · have h1 : X ≤ Y := hmo.1 (by omega)
        clear hmo heq
        go_wp2_with fail
        go_ret
        exact ⟨ret_true (by first | rfl | (simp; omega)), below_drewN' (Below.refl _ _) _⟩
      · have h1 : X = Y := heq.out hlt
        subst hlt
        subst h1
        clear hmo heq
        go_wp2_with fail
        go_ret
        exact ⟨ret_true (by first | rfl | (simp; done) | (simp; omega)), below_drewN' (Below.refl _ _) _⟩
      · have h1 : Y ≤ X := hmo.2 (by omega)
        clear hmo heq
        go_wp2_with fail
        go_ret
        exact ⟨ret_true (by first | rfl | (simp; omega)), below_drewN' (Below.refl _ _) _⟩
    · refine (index_no m _ (by omega)).mono ?_
      rintro e w1 ⟨rfl, rfl⟩
      clear HR HX hmono
      go_wp2_with fail
      go_ret
      exact ⟨rfl, below_drewN' (Below.refl _ _) _⟩
  · have HN : Hid (∀ W, Calls Try.prog 25 #[.int .i64 n] W fun e w' => e = .returned (.tuple #[.int .i64 0, .iface 37 (.int .i64 1)]) ∧ W = w') := Lib.hid fun W => index_no n W (by omega)
    rcases Int.lt_or_le n 0 with h1 | h1
    all_goals
      try have h2 : 8000 < n := by omega
      clear hn
      go_enter Try.func11, Try.ntmps11
      go_wp2_with fail
      refine (HF.out _).mono ?_
      rintro e w1 ⟨rfl, rfl⟩
      go_wp2_with fail
      refine (HV.out _).mono ?_
      rintro e w1 ⟨rfl, q, rfl⟩
      clear HV HF
      go_wp2_with fail
      refine (HN.out _).mono ?_
      rintro e w1 ⟨rfl, rfl⟩
      go_wp2_with fail
      go_ret
      exact ⟨rfl, below_drewN' (Below.refl _ _) _⟩
end Go.Proofs.Ytmfddihgdnoecaa
