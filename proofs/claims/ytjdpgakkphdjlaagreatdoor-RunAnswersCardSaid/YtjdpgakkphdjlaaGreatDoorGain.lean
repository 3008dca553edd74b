/- Walks: how loud, in few steps (chapter 8). -/
import Derived.Test.YtjdpgakkphdjlaaGreatDoorSound
import Derived.Test.YtjdpgakkphdjlaaGreatDoorPhAll
import Derived.Test.YtjdpgakkphdjlaaGreatDoorShelf
import Derived.Outline
namespace Go.Proofs.YtjdpgakkphdjlaaGreatDoor
open Go.RowKit

theorem ret_num {k : IntKind} {a b : Int} (h : a = b) : Ending.returned (.int k a) = .returned (.int k b) := by rw [h]
theorem bitLenG {n : Nat} (h0 : n ≠ 0) (h : n < 2 ^ 64) : Lib.bitLen n = Nat.log2 n + 1 := by
  have h1 : 2 ^ Nat.log2 n ≤ n := (Nat.le_log2 h0).1 (Nat.le_refl _)
  have h2 : n < 2 ^ (Nat.log2 n + 1) := (Nat.log2_lt h0).1 (Nat.lt_succ_self _)
  rw [Lib.bitLen_shift (Nat.log2 n) n h1 h]
  have h3 : n / 2 ^ Nat.log2 n = 1 := by
    apply Nat.div_eq_of_lt_le
    · rw [Nat.one_mul]; exact h1
    · rw [Nat.pow_succ] at h2; omega
  rw [h3]; rfl
theorem step_at (n m : Nat) (h1 : 2 ^ m ≤ n) (h2 : n < 2 ^ (m + 1)) : Ph.step n = 1 + 4 * m + 4 * (n - 2 ^ m) / 2 ^ m := by
  have h0 : n ≠ 0 := by have := Nat.two_pow_pos m; omega
  have hl : Nat.log2 n = m := by
    have a1 := (Nat.le_log2 h0).2 h1
    have a2 := (Nat.log2_lt h0).2 h2
    omega
  unfold Ph.step
  rw [if_neg h0, hl]
theorem some_m (n : Nat) (h0 : 1 ≤ n) (h : n ≤ 8000) : ∃ m : Fin 13, 2 ^ m.1 ≤ n ∧ n < 2 ^ (m.1 + 1) := by
  have h0' : n ≠ 0 := by omega
  have h1 : 2 ^ Nat.log2 n ≤ n := (Nat.le_log2 h0').1 (Nat.le_refl _)
  have h2 : n < 2 ^ (Nat.log2 n + 1) := (Nat.log2_lt h0').1 (Nat.lt_succ_self _)
  have h3 : Nat.log2 n < 13 := (Nat.log2_lt h0').2 (by omega)
  exact ⟨⟨_, h3⟩, h1, h2⟩
set_option maxHeartbeats 2000000 in
theorem step_any (n : Nat) (w : World) (hn : n ≤ 8000) :
    Calls Tryz.prog 93 #[.int .i64 n] w fun e w' => e = .returned (.int .i64 (Ph.step n : Nat)) ∧ w = w' := by
  rcases Nat.eq_zero_or_pos n with h0 | h0
  · subst h0
    go_enter Tryz.func93, Tryz.ntmps93
    go_wp2_with fail
    go_ret
    exact ⟨rfl, rfl⟩
  · obtain ⟨m, h1, h2⟩ := some_m n h0 hn
    have hs := step_at n m.1 h1 h2
    have hl := bitLenG (n := n) (by omega) (by omega)
    have hlog : Nat.log2 n = m.1 := by
      have a1 := (Nat.le_log2 (by omega)).2 h1
      have a2 := (Nat.log2_lt (by omega)).2 h2
      omega
    rw [hs]
    rw [hlog] at hl
    clear hs hlog
    have hm : m.1 = 0 ∨ m.1 = 1 ∨ m.1 = 2 ∨ m.1 = 3 ∨ m.1 = 4 ∨ m.1 = 5 ∨ m.1 = 6 ∨ m.1 = 7 ∨ m.1 = 8 ∨ m.1 = 9 ∨ m.1 = 10 ∨ m.1 = 11 ∨ m.1 = 12 := by omega
    obtain ⟨m, hlt⟩ := m
    simp only at hm h1 h2 hl ⊢
    have HL : Hid (∀ W, Calls Tryz.prog 108 #[.int .u64 (n : Int)] W fun e w' => e = .returned (.int .i64 ((m : Int) + 1)) ∧ w' = W) := Lib.hid (by
      intro W
      have := Tryz.bits_Len (n : Int) W (by omega) (by omega)
      rw [Int.toNat_natCast, hl] at this
      simpa using this)
    clear hl hlt
    have hn0 : ((n : Int) == 0) = false := by simp; omega
    rcases hm with rfl | rfl | rfl | rfl | rfl | rfl | rfl | rfl | rfl | rfl | rfl | rfl | rfl
    all_goals
      simp only [Nat.reducePow, Nat.reduceAdd] at h1 h2 ⊢
      go_enter Tryz.func93, Tryz.ntmps93
      go_wp2_with (go_at_call 108; refine (HL.out _).mono ?_; rintro e w2 ⟨rfl, rfl⟩)
      try go_ret
    all_goals
      refine ⟨ret_num ?_, rfl⟩
      try omega
set_option maxHeartbeats 2000000 in
theorem index_ok (n : Nat) (w : World) (hn : n ≤ 8000) :
    Calls Tryz.prog 71 #[.int .i64 n] w fun e w' => e = .returned (.tuple #[.int .i64 (Ph.step n : Nat), .nilIface]) ∧ w = w' := by
  go_enter Tryz.func71, Tryz.ntmps71
  go_wp2_with (go_at_call 93; refine (step_any _ _ hn).mono ?_; rintro e w' ⟨rfl, rfl⟩)
  go_ret2
  exact ⟨rfl, rfl⟩
set_option maxHeartbeats 2000000 in
theorem index_no (n : Int) (w : World) (h : n < 0 ∨ 8000 < n) :
    Calls Tryz.prog 71 #[.int .i64 n] w fun e w' => e = .returned (.tuple #[.int .i64 0, .iface 69 (.int .i64 1)]) ∧ w = w' := by
  rcases h with h | h
  · go_enter Tryz.func71, Tryz.ntmps71
    go_wp2
    go_ret2
    exact ⟨rfl, rfl⟩
  · have h2 : ¬ n < 0 := by omega
    go_enter Tryz.func71, Tryz.ntmps71
    go_wp2
    go_ret2
    exact ⟨rfl, rfl⟩
set_option maxHeartbeats 2000000 in
theorem mean_any (g : Nat) (w : World) (hg : g ≤ 53) :
    Calls Tryz.prog 94 #[.int .i64 g] w fun e w' => e = .returned (.int .i64 (Ph.mean g : Nat)) ∧ ∃ q, w' = w.drewN q := by
  rcases Nat.eq_zero_or_pos g with h0 | h0
  · subst h0
    go_enter Tryz.func94, Tryz.ntmps94
    go_wp2_with fail
    go_ret
    exact ⟨rfl, 0, rfl⟩
  · have hs : g = 1 ∨ g = 2 ∨ g = 3 ∨ g = 4 ∨ g = 5 ∨ g = 6 ∨ g = 7 ∨ g = 8 ∨ g = 9 ∨ g = 10 ∨ g = 11 ∨ g = 12 ∨ g = 13 ∨ g = 14 ∨ g = 15 ∨ g = 16 ∨ g = 17 ∨ g = 18 ∨ g = 19 ∨ g = 20 ∨ g = 21 ∨ g = 22 ∨ g = 23 ∨ g = 24 ∨ g = 25 ∨ g = 26 ∨ g = 27 ∨ g = 28 ∨ g = 29 ∨ g = 30 ∨ g = 31 ∨ g = 32 ∨ g = 33 ∨ g = 34 ∨ g = 35 ∨ g = 36 ∨ g = 37 ∨ g = 38 ∨ g = 39 ∨ g = 40 ∨ g = 41 ∨ g = 42 ∨ g = 43 ∨ g = 44 ∨ g = 45 ∨ g = 46 ∨ g = 47 ∨ g = 48 ∨ g = 49 ∨ g = 50 ∨ g = 51 ∨ g = 52 ∨ g = 53 := by omega
    clear hg h0
    rcases hs with rfl | rfl | rfl | rfl | rfl | rfl | rfl | rfl | rfl | rfl | rfl | rfl | rfl | rfl | rfl | rfl | rfl | rfl | rfl | rfl | rfl | rfl | rfl | rfl | rfl | rfl | rfl | rfl | rfl | rfl | rfl | rfl | rfl | rfl | rfl | rfl | rfl | rfl | rfl | rfl | rfl | rfl | rfl | rfl | rfl | rfl | rfl | rfl | rfl | rfl | rfl | rfl | rfl
    all_goals
      go_enter Tryz.func94, Tryz.ntmps94
      go_wp2_with fail
      go_region
      go_wp2_with fail
      go_ret
      exact ⟨ret_num (by decide +kernel), 1, rfl⟩
set_option maxHeartbeats 2000000 in
theorem value_no0 (g : Int) (w : World) (h : g < 0 ∨ 53 < g) :
    Calls Tryz.prog 72 #[.int .i64 g] w fun e w' => e = .returned (.tuple #[.int .i64 0, .iface 69 (.int .i64 1)]) ∧ w = w' := by
  rcases h with h | h
  · go_enter Tryz.func72, Tryz.ntmps72
    go_wp2
    go_ret2
    exact ⟨rfl, rfl⟩
  · have h2 : ¬ g < 0 := by omega
    go_enter Tryz.func72, Tryz.ntmps72
    go_wp2
    go_ret2
    exact ⟨rfl, rfl⟩
set_option maxHeartbeats 2000000 in
theorem value_ok (g : Nat) (w : World) (h : Ph.valued g = true) :
    Calls Tryz.prog 72 #[.int .i64 g] w fun e w' => e = .returned (.tuple #[.int .i64 (Ph.mean g : Nat), .nilIface]) ∧ ∃ q, w' = w.drewN q := by
  have hv := h
  simp only [Ph.valued, Bool.and_eq_true, decide_eq_true_eq] at hv
  obtain ⟨⟨h53, h8⟩, hst⟩ := hv
  have HM : Hid (∀ W, Calls Tryz.prog 94 #[.int .i64 g] W fun e w' => e = .returned (.int .i64 (Ph.mean g : Nat)) ∧ ∃ q, w' = W.drewN q) := Lib.hid fun W => mean_any g W h53
  obtain ⟨X, hX⟩ : ∃ X, X = Ph.mean g := ⟨_, rfl⟩
  rw [← hX] at h8 hst HM ⊢
  have HS : Hid (∀ W, Calls Tryz.prog 93 #[.int .i64 X] W fun e w' => e = .returned (.int .i64 g) ∧ W = w') := Lib.hid fun W => by have := step_any X W h8; rw [hst] at this; exact this
  clear hX hst h
  go_enter Tryz.func72, Tryz.ntmps72
  go_wp2_with (first | (go_at_call 94; refine (HM.out _).mono ?_; rintro e w2 ⟨rfl, q, rfl⟩) | (go_at_call 93; refine (HS.out _).mono ?_; rintro e w' ⟨rfl, rfl⟩))
  go_ret2
  exact ⟨rfl, _, rfl⟩
set_option maxHeartbeats 2000000 in
theorem value_no (g : Nat) (w : World) (h53 : g ≤ 53) (h : Ph.valued g = false) :
    Calls Tryz.prog 72 #[.int .i64 g] w fun e w' => e = .returned (.tuple #[.int .i64 0, .iface 69 (.int .i64 1)]) ∧ ∃ q, w' = w.drewN q := by
  have hv : 8000 < Ph.mean g ∨ (Ph.mean g ≤ 8000 ∧ Ph.step (Ph.mean g) ≠ g) := by
    rcases Nat.lt_or_ge 8000 (Ph.mean g) with h1 | h1
    · exact .inl h1
    · right
      refine ⟨h1, fun h2 => ?_⟩
      simp [Ph.valued, h53, h1, h2] at h
  have HM : Hid (∀ W, Calls Tryz.prog 94 #[.int .i64 g] W fun e w' => e = .returned (.int .i64 (Ph.mean g : Nat)) ∧ ∃ q, w' = W.drewN q) := Lib.hid fun W => mean_any g W h53
  obtain ⟨X, hX⟩ : ∃ X, X = Ph.mean g := ⟨_, rfl⟩
  rw [← hX] at hv HM
  clear hX h
  rcases hv with h8 | ⟨h8, hst⟩
  · go_enter Tryz.func72, Tryz.ntmps72
    go_wp2_with (go_at_call 94; refine (HM.out _).mono ?_; rintro e w2 ⟨rfl, q, rfl⟩)
    go_ret2
    exact ⟨rfl, _, rfl⟩
  · have HS : Hid (∀ W, Calls Tryz.prog 93 #[.int .i64 X] W fun e w' => e = .returned (.int .i64 (Ph.step X : Nat)) ∧ W = w') := Lib.hid fun W => step_any X W h8
    obtain ⟨Y, hY⟩ : ∃ Y, Y = Ph.step X := ⟨_, rfl⟩
    rw [← hY] at HS hst
    have hne : ((Y : Int) != (g : Int)) = true := by simp; omega
    clear hY hst
    go_enter Tryz.func72, Tryz.ntmps72
    go_wp2_with (first | (go_at_call 94; refine (HM.out _).mono ?_; rintro e w2 ⟨rfl, q, rfl⟩) | (go_at_call 93; refine (HS.out _).mono ?_; rintro e w' ⟨rfl, rfl⟩))
    go_ret2
    exact ⟨rfl, _, rfl⟩
end Go.Proofs.YtjdpgakkphdjlaaGreatDoor
