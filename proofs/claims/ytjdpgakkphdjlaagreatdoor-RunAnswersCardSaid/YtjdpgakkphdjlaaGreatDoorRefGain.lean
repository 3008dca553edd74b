/- The document's answers, walked (chapter 8): how loud a number is, and the value of a gain. -/
import Derived.Test.YtjdpgakkphdjlaaGreatDoorGain
import Derived.Test.YtjdpgakkphdjlaaGreatDoorSound
import Derived.Outline
namespace Go.Proofs.YtjdpgakkphdjlaaGreatDoor
open Go.RowKit

theorem rgain_any (n : Nat) (w : World) (hn : n ≤ 8000) :
    Calls Tryz.prog 25 #[.int .i64 n] w fun e w' => e = .returned (.int .i64 (Ph.step n : Nat)) ∧ w = w' := by
  rcases Nat.eq_zero_or_pos n with h0 | h0
  · subst h0
    go_enter Tryz.func25, Tryz.ntmps25
    go_wp2_with fail
    go_ret
    exact ⟨rfl, rfl⟩
  · have hn0 : ((n : Int) == 0) = false := by simp; omega
    go_enter Tryz.func25, Tryz.ntmps25
    go_wp2_with fail
    go_loop [3, 4] (fun s3 s4 => ∃ m P : Nat, s3 = .int .i64 m ∧ s4 = .int .i64 P ∧ Hid (P = 2 ^ m) ∧ P ≤ n ∧ m ≤ 13) (fun _ s4 => n - (intOf s4).toNat)
    case atStart => exact ⟨0, 1, rfl, rfl, Lib.hid rfl, h0, by omega⟩
    case round =>
      obtain ⟨m, P, rfl, rfl, HP, hPn, hm⟩ := hrel
      have hP1 : 1 ≤ P := by rw [HP.out]; exact Nat.two_pow_pos m
      by_cases hlt : 2 * P ≤ n
      · have hm2 : m + 1 ≤ 13 := by
          rcases Nat.lt_or_ge m 13 with h | h
          · omega
          · have h13 : m = 13 := by omega
            have := HP.out
            rw [h13] at this
            omega
        go_wp2_with fail
        go_round
        case rel => exact ⟨m + 1, 2 * P, by go_num, by go_num, Lib.hid (by rw [HP.out, Nat.pow_succ]; omega), by omega, hm2⟩
        case measure => simp [intOf]; omega
      · go_wp2_with fail
        go_loop [5] (fun s5 => ∃ q : Nat, s5 = .int .i64 q ∧ q ≤ 3 ∧ Hid (q * P ≤ 4 * (n - P))) (fun s5 => 4 - (intOf s5).toNat)
        case atStart => exact ⟨0, rfl, by omega, Lib.hid (by omega)⟩
        case round =>
          obtain ⟨q, rfl, hq3, HQ⟩ := hrel
          have hqs : q = 0 ∨ q = 1 ∨ q = 2 ∨ q = 3 := by omega
          have hst : Hid ((q + 1) * P > 4 * (n - P) → Ph.step n = 1 + 4 * m + q) := Lib.hid fun h => Ph.step_is (n := n) (m := m) (q := q) (by rw [← HP.out]; exact hPn) (by rw [Nat.pow_succ, ← HP.out]; omega) (by rw [← HP.out]; exact HQ.out) (by rw [← HP.out]; exact h)
          rcases hqs with rfl | rfl | rfl | rfl
          all_goals
            have hq := HQ.out
            try simp only [Nat.zero_mul, Nat.one_mul] at hq
          · by_cases hc : (P : Int) ≤ 4 * ((n : Int) - (P : Int))
            · go_wp2_with fail
              go_round
              case rel => exact ⟨1, rfl, by omega, Lib.hid (by omega)⟩
              case measure => simp [intOf]
            · go_wp2_with fail
              go_ret
              exact ⟨ret_num (by rw [hst.out (by omega)]; omega), rfl⟩
          · by_cases hc : 2 * (P : Int) ≤ 4 * ((n : Int) - (P : Int))
            · go_wp2_with fail
              go_round
              case rel => exact ⟨2, rfl, by omega, Lib.hid (by omega)⟩
              case measure => simp [intOf]
            · go_wp2_with fail
              go_ret
              exact ⟨ret_num (by rw [hst.out (by omega)]; omega), rfl⟩
          · by_cases hc : 3 * (P : Int) ≤ 4 * ((n : Int) - (P : Int))
            · go_wp2_with fail
              go_round
              case rel => exact ⟨3, rfl, by omega, Lib.hid (by omega)⟩
              case measure => simp [intOf]
            · go_wp2_with fail
              go_ret
              exact ⟨ret_num (by rw [hst.out (by omega)]; omega), rfl⟩
          · have hc : ¬ 4 * (P : Int) ≤ 4 * ((n : Int) - (P : Int)) := by omega
            go_wp2_with fail
            go_ret
            exact ⟨ret_num (by rw [hst.out (by omega)]; omega), rfl⟩
/-- The value of a gain, and whether there is one. -/
def valB (g : Int) : Bool := decide (0 ≤ g) && decide (g ≤ 53) && Ph.valued g.toNat
def valV (g : Int) : Int := if valB g = true then (Ph.mean g.toNat : Nat) else 0
theorem rvalue_no (g : Int) (w : World) (h : g < 0 ∨ 53 < g) :
    Calls Tryz.prog 26 #[.int .i64 g] w fun e w' => e = .returned (.tuple #[.int .i64 (valV g), .bool (valB g)]) ∧ w = w' := by
  have hb : valB g = false := by unfold valB; simp; omega
  have hv : valV g = 0 := by unfold valV; rw [hb]; rfl
  rw [hb, hv]
  clear hb hv
  rcases h with h | h
  · go_enter Tryz.func26, Tryz.ntmps26
    go_wp2_with fail
    go_ret2
    exact ⟨rfl, rfl⟩
  · have h2 : ¬ g < 0 := by omega
    go_enter Tryz.func26, Tryz.ntmps26
    go_wp2_with fail
    go_ret2
    exact ⟨rfl, rfl⟩
set_option maxHeartbeats 4000000 in
theorem rvalue_in (g : Nat) (w : World) (hg : g ≤ 53) :
    Calls Tryz.prog 26 #[.int .i64 g] w fun e w' => e = .returned (.tuple #[.int .i64 (valV g), .bool (valB g)]) ∧ w = w' := by
  have hb : valB g = Ph.valued g := by unfold valB; rw [Int.toNat_natCast]; simp; omega
  have hv : valV g = ((if Ph.valued g = true then Ph.mean g else 0 : Nat) : Int) := by unfold valV; rw [hb, Int.toNat_natCast]; split <;> rfl
  rw [hb, hv]
  clear hb hv
  rcases Nat.eq_zero_or_pos g with h0 | h0
  · subst h0
    have hv0 : Ph.valued 0 = true := by decide +kernel
    rw [hv0, if_pos rfl]
    go_enter Tryz.func26, Tryz.ntmps26
    go_wp2_with fail
    go_ret2
    exact ⟨rfl, rfl⟩
  · have hg0 : ((g : Int) == 0) = false := by simp; omega
    have hM : Ph.mean g = 2 ^ ((g - 1) / 4) + (2 * ((g - 1) % 4) + 1) * 2 ^ ((g - 1) / 4) / 8 := by unfold Ph.mean; rw [if_neg (by omega)]
    obtain ⟨M, hMe⟩ : ∃ M, M = (g - 1) / 4 := ⟨_, rfl⟩
    obtain ⟨r, hr⟩ : ∃ r, r = (g - 1) % 4 := ⟨_, rfl⟩
    rw [← hMe, ← hr] at hM
    have hM13 : M ≤ 13 := by omega
    have hr3 : r ≤ 3 := by omega
    have hd : ((g : Int) - 1) / 4 = (M : Int) := by omega
    have hm : ((g : Int) - 1) % 4 = (r : Int) := by omega
    have hd1 : ((g : Int) - 1) / 4 ≤ (M : Int) := by omega
    have hd2 : (M : Int) ≤ ((g : Int) - 1) / 4 := by omega
    have HMM := Lib.hid hM
    have hval : Ph.valued g = (decide (Ph.mean g ≤ 8000) && decide (Ph.step (Ph.mean g) = g)) := by unfold Ph.valued; simp [hg]
    rw [hval]
    obtain ⟨V, hV⟩ : ∃ V, V = Ph.mean g := ⟨_, rfl⟩
    rw [← hV] at HMM ⊢
    obtain ⟨T, hT⟩ : ∃ T, T = Ph.step V := ⟨_, rfl⟩
    rw [← hT]
    have HG : Hid (V ≤ 8000 → ∀ x : Int, x = V → ∀ W, Calls Tryz.prog 25 #[.int .i64 x] W fun e w' => e = .returned (.int .i64 T) ∧ W = w') := Lib.hid fun h8 x hx W => by rw [hx, hT]; exact rgain_any V W h8
    have hthree : (8000 < V ∧ (decide (V ≤ 8000) && decide (T = g)) = false) ∨ (V ≤ 8000 ∧ ((T : Int) != (g : Int)) = false ∧ (decide (V ≤ 8000) && decide (T = g)) = true) ∨ (V ≤ 8000 ∧ ((T : Int) != (g : Int)) = true ∧ (decide (V ≤ 8000) && decide (T = g)) = false) := by
      rcases Nat.lt_or_ge 8000 V with h8 | h8
      · left; exact ⟨h8, by simp; omega⟩
      · by_cases hTg : T = g
        · right; left; exact ⟨h8, by simp; omega, by simp [h8, hTg]⟩
        · right; right; exact ⟨h8, by simp; omega, by simp [hTg]⟩
    have hrs : r = 0 ∨ r = 1 ∨ r = 2 ∨ r = 3 := by omega
    clear hMe hr hM hval hd hV hT
    rcases hthree with ⟨h8, hb⟩ | ⟨h8, hne, hb⟩ | ⟨h8, hne, hb⟩
    all_goals
      rw [hb]
      simp only [if_true, Bool.false_eq_true, if_false]
      clear hb
      rcases hrs with rfl | rfl | rfl | rfl
    all_goals
      try rw [show ((0 : Nat) : Int) = 0 from rfl] at hm
      try rw [show ((1 : Nat) : Int) = 1 from rfl] at hm
      try rw [show ((2 : Nat) : Int) = 2 from rfl] at hm
      try rw [show ((3 : Nat) : Int) = 3 from rfl] at hm
      go_enter Tryz.func26, Tryz.ntmps26
      go_wp2_with fail
      go_loop [4, 5] (fun p i => ∃ j P : Nat, i = .int .i64 j ∧ p = .int .i64 P ∧ j ≤ M ∧ Hid (P = 2 ^ j) ∧ 1 ≤ P ∧ P ≤ 8192) (fun _ i => M - (intOf i).toNat)
      case atStart => exact ⟨0, 1, rfl, rfl, by omega, Lib.hid rfl, by omega, by omega⟩
      case round =>
        obtain ⟨j, P, rfl, rfl, hj, HP, hP1, hP2⟩ := hrel
        by_cases hlt : j < M
        · have h12 : 2 * P ≤ 8192 := by
            have := Nat.pow_le_pow_right (n := 2) (by omega) (show j ≤ 12 by omega)
            rw [← HP.out] at this; omega
          go_wp2_with fail
          go_round
          case rel => exact ⟨j + 1, 2 * P, by go_num, by go_num, by omega, Lib.hid (by rw [HP.out, Nat.pow_succ]; omega), by omega, h12⟩
          case measure => simp [intOf]; omega
        · have hjM : j = M := by omega
          have hMV := HMM.out
          rw [← hjM, ← HP.out] at hMV
          clear hjM
          have HV := Lib.hid hMV
          have hV1 : V ≤ 20000 := by omega
          go_wp2_with fail
          first
            | (go_ret2; exact ⟨rfl, rfl⟩)
            | (refine (HG.out h8 _ (by have := HV.out; omega) _).mono ?_
               rintro e w1 ⟨rfl, rfl⟩
               go_wp2_with fail
               go_ret2
               exact ⟨by first | rfl | exact ret_two (congrArg (Value.int .i64) (by have := HV.out; omega)) rfl, rfl⟩)
end Go.Proofs.YtjdpgakkphdjlaaGreatDoor
