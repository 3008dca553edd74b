/- The walk of the law GainTwice. -/
import Derived.Test.YtmfddihgdnoecaaGain
import Derived.Test.YtmfddihgdnoecaaOpen
namespace Go.Proofs.Ytmfddihgdnoecaa
open Go.RowKit

theorem gainTwice_walk (w : World) (n : Int) :
    Calls Try.prog 9 #[.int .i64 n] w fun e w' => e = .returned (.bool true) ∧ Below w.heap.size w w' := by
  have HZ : Hid (∀ W, Calls Try.prog 25 #[.int .i64 0] W fun e w' => e = .returned (.tuple #[.int .i64 0, .nilIface]) ∧ W = w') := Lib.hid fun W => index_ok 0 W (by omega)
  rcases Decidable.em (0 ≤ n ∧ n ≤ 8000) with hn | hn
  · obtain ⟨n, rfl⟩ := Int.eq_ofNat_of_zero_le hn.1
    have HN : Hid (∀ W, Calls Try.prog 25 #[.int .i64 n] W fun e w' => e = .returned (.tuple #[.int .i64 (Ph.step n : Nat), .nilIface]) ∧ W = w') := Lib.hid fun W => index_ok n W (by omega)
    obtain ⟨X, hX⟩ : ∃ X, X = Ph.step n := ⟨_, rfl⟩
    have h53 : X ≤ 53 := by rw [hX]; exact (Ph.step_ok (by omega)).1
    rw [← hX] at HN
    rcases Nat.eq_zero_or_pos n with n0 | n0
    · subst n0
      clear hX
      go_enter Try.func9, Try.ntmps9
      go_wp2_with fail
      refine (HN.out _).mono ?_
      rintro e w1 ⟨rfl, rfl⟩
      go_wp2_with fail
      refine (HZ.out _).mono ?_
      rintro e w1 ⟨rfl, rfl⟩
      go_wp2_with fail
      go_ret
      exact ⟨rfl, Below.refl _ _⟩
    · rcases Nat.lt_or_ge 4000 n with h4 | h4
      · clear hX
        go_enter Try.func9, Try.ntmps9
        go_wp2_with fail
        refine (HN.out _).mono ?_
        rintro e w1 ⟨rfl, rfl⟩
        go_wp2_with fail
        refine (HZ.out _).mono ?_
        rintro e w1 ⟨rfl, rfl⟩
        go_wp2_with fail
        go_ret
        exact ⟨rfl, Below.refl _ _⟩
      · have HT : Hid (∀ W, Calls Try.prog 25 #[.int .i64 (2 * (n : Int))] W fun e w' => e = .returned (.tuple #[.int .i64 ((X : Int) + 4), .nilIface]) ∧ W = w') := Lib.hid fun W => by
          have := index_ok (2 * n) W (by omega)
          rw [Ph.step_twice n0 h4, ← hX] at this
          simpa using this
        clear hX
        go_enter Try.func9, Try.ntmps9
        go_wp2_with fail
        refine (HN.out _).mono ?_
        rintro e w1 ⟨rfl, rfl⟩
        go_wp2_with fail
        refine (HT.out _).mono ?_
        rintro e w1 ⟨rfl, rfl⟩
        go_wp2_with fail
        go_ret
        exact ⟨ret_true (by simp), Below.refl _ _⟩
  · have HN : Hid (∀ W, Calls Try.prog 25 #[.int .i64 n] W fun e w' => e = .returned (.tuple #[.int .i64 0, .iface 37 (.int .i64 1)]) ∧ W = w') := Lib.hid fun W => index_no n W (by omega)
    clear hn
    go_enter Try.func9, Try.ntmps9
    go_wp2_with fail
    refine (HN.out _).mono ?_
    rintro e w1 ⟨rfl, rfl⟩
    go_wp2_with fail
    refine (HZ.out _).mono ?_
    rintro e w1 ⟨rfl, rfl⟩
    go_wp2_with fail
    go_ret
    exact ⟨rfl, Below.refl _ _⟩
end Go.Proofs.Ytmfddihgdnoecaa
