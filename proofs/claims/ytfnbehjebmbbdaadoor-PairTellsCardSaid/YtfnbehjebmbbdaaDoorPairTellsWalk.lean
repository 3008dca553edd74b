/- The walk of the law PairTells. -/
import Derived.Test.YtfnbehjebmbbdaaDoorTold
import Derived.Test.YtfnbehjebmbbdaaDoorOpen
import Derived.Deep.DeepCutAuto
import Derived.Deep.Cut
namespace Go.Proofs.YtfnbehjebmbbdaaDoor
open Go.RowKit

/-- Rounded down, by 2 or 4. -/
theorem rdown_any (n : Int) (w : World) (h : -1000000000000 ≤ n ∧ n ≤ 1000000000000) :
    Calls Tryd.prog 15 #[.int .i64 n, .int .i64 2] w fun e w' => e = .returned (.int .i64 (n / 2)) ∧ w = w' := by
  rcases Int.lt_or_le n 0 with h0 | h0
  · obtain ⟨m, rfl⟩ : ∃ m : Nat, n = -(m : Int) := ⟨(-n).toNat, by omega⟩
    have e1 : (-(m : Int)).tdiv 2 = -((m / 2 : Nat) : Int) := by rw [Int.neg_tdiv]; rfl
    have e2 : (-(m : Int)).tmod 2 = -((m % 2 : Nat) : Int) := by rw [Int.neg_tmod]; rfl
    have b1 : m / 2 ≤ m := by omega
    have b2 : m % 2 ≤ 1 := by omega
    have hq : (-(m : Int)) / 2 = if m % 2 = 0 then -((m / 2 : Nat) : Int) else -((m / 2 : Nat) : Int) - 1 := by split <;> omega
    rw [hq]
    obtain ⟨q, hq'⟩ : ∃ q, q = m / 2 := ⟨_, rfl⟩
    obtain ⟨r, hr'⟩ : ∃ r, r = m % 2 := ⟨_, rfl⟩
    rw [← hq'] at e1 b1 ⊢
    rw [← hr'] at e2 b2 ⊢
    clear hq hq' hr'
    rcases Nat.eq_zero_or_pos r with hr | hr
    · subst hr
      rw [if_pos rfl]
      go_enter Tryd.func15, Tryd.ntmps15
      go_wp2_with fail
      go_ret
      exact ⟨by first | rfl | trace_state, rfl⟩
    · rw [if_neg (by omega)]
      go_enter Tryd.func15, Tryd.ntmps15
      go_wp2_with fail
      go_ret
      exact ⟨by first | rfl | trace_state, rfl⟩
  · have e1 : ¬ n % 2 < 0 := by omega
    go_enter Tryd.func15, Tryd.ntmps15
    go_wp2_with fail
    go_ret
    exact ⟨by first | rfl | trace_state, rfl⟩
/-! ### What is told, whatever comes. -/
def outB (n m : Int) : Bool := !Ph.within n m
theorem outB_true {n m : Int} (h : n < -m ∨ m < n) : outB n m = true := by unfold outB; rw [Ph.within_false.2 h]; rfl
theorem outB_false {n m : Int} (h1 : -m ≤ n) (h2 : n ≤ m) : outB n m = false := by unfold outB; rw [Ph.within_iff.2 ⟨h1, h2⟩]; rfl
def halfErr (n : Int) : Int := if Ph.within n 8000 = true then 0 else 1
def halfVal (n : Int) : Int := if Ph.within n 8000 = true then n / 2 else 0
theorem half_told (n : Int) (w : World) : Calls Tryd.prog 16 #[.int .i64 n] w fun e w' => e = .returned (.tuple #[.int .i64 (halfVal n), errV (halfErr n)]) ∧ w = w' := by
  unfold halfVal halfErr
  by_cases h : Ph.within n 8000 = true
  · rw [if_pos h, if_pos h]; exact half_ok n w h
  · rw [if_neg h, if_neg h]; exact half_no n w (by simpa using h)
def fwdErr (a b m : Int) : Int := if Ph.within a m = true ∧ Ph.within b m = true then 0 else 1
def fwdS (a b : Int) : Int := if Ph.within a 2000 = true ∧ Ph.within b 2000 = true then (a + b) / 2 else 0
def fwdD (a b : Int) : Int := if Ph.within a 2000 = true ∧ Ph.within b 2000 = true then a - b else 0
def invS (a b : Int) : Int := if Ph.within a 4000 = true ∧ Ph.within b 4000 = true then a + (b + 1) / 2 else 0
def invD (a b : Int) : Int := if Ph.within a 4000 = true ∧ Ph.within b 4000 = true then a + (b + 1) / 2 - b else 0
theorem not_both {a b m : Int} (h : ¬ (Ph.within a m = true ∧ Ph.within b m = true)) : Ph.within a m = false ∨ Ph.within b m = false := by
  cases h1 : Ph.within a m
  · exact .inl rfl
  · cases h2 : Ph.within b m
    · exact .inr rfl
    · exact absurd ⟨h1, h2⟩ h
theorem fwd_told (a b : Int) (w : World) : Calls Tryd.prog 18 #[.int .i64 a, .int .i64 b] w fun e w' => e = .returned (.tuple #[.int .i64 (fwdS a b), .int .i64 (fwdD a b), errV (fwdErr a b 2000)]) ∧ w = w' := by
  unfold fwdS fwdD fwdErr
  by_cases h : Ph.within a 2000 = true ∧ Ph.within b 2000 = true
  · rw [if_pos h, if_pos h, if_pos h]; exact forward_ok a b w h.1 h.2
  · rw [if_neg h, if_neg h, if_neg h]; exact forward_no a b w (not_both h)
theorem inv_told (a b : Int) (w : World) : Calls Tryd.prog 19 #[.int .i64 a, .int .i64 b] w fun e w' => e = .returned (.tuple #[.int .i64 (invS a b), .int .i64 (invD a b), errV (fwdErr a b 4000)]) ∧ w = w' := by
  unfold invS invD fwdErr
  by_cases h : Ph.within a 4000 = true ∧ Ph.within b 4000 = true
  · rw [if_pos h, if_pos h, if_pos h]; exact inverse_ok a b w h.1 h.2
  · rw [if_neg h, if_neg h, if_neg h]; exact inverse_no a b w (not_both h)
def out2 (a b m : Int) : Bool := outB a m || outB b m
theorem out2_false {a b m : Int} (h : out2 a b m = false) : Ph.within a m = true ∧ Ph.within b m = true := by
  unfold out2 outB at h; simpa using h
theorem out2_true {a b m : Int} (h : out2 a b m = true) : ¬ (Ph.within a m = true ∧ Ph.within b m = true) := by
  intro h2
  unfold out2 outB at h; rw [h2.1, h2.2] at h; simp at h
theorem four (a b m : Int) : (out2 a b m = true ∧ (a < -m ∨ (¬ a < -m ∧ m < a) ∨ (¬ a < -m ∧ ¬ m < a ∧ b < -m) ∨ (¬ a < -m ∧ ¬ m < a ∧ ¬ b < -m ∧ m < b))) ∨ (out2 a b m = false ∧ ¬ a < -m ∧ ¬ m < a ∧ ¬ b < -m ∧ ¬ m < b) := by
  by_cases h1 : a < -m ∨ m < a
  · left; refine ⟨by unfold out2; rw [outB_true h1]; rfl, by omega⟩
  · by_cases h2 : b < -m ∨ m < b
    · left; refine ⟨by unfold out2; rw [outB_true h2]; simp, by omega⟩
    · right; refine ⟨by unfold out2; rw [outB_false (by omega) (by omega), outB_false (by omega) (by omega)]; rfl, by omega⟩
set_option maxHeartbeats 2000000 in
set_option maxRecDepth 100000 in
theorem pairTells_walk (w : World) (n a b : Int) (hg : Laid w) :
    Calls Tryd.prog 3 #[.int .i64 n, .int .i64 a, .int .i64 b] w fun e w' => e = .returned (.bool true) ∧ Below w.heap.size w w' := by
  have HG := Lib.hid hg
  have HE1 : Hid (-100 ≤ halfErr n ∧ halfErr n ≤ 100) := Lib.hid (by unfold halfErr; split <;> omega)
  have HE2 : Hid (-100 ≤ fwdErr a b 2000 ∧ fwdErr a b 2000 ≤ 100) := Lib.hid (by unfold fwdErr; split <;> omega)
  have HE3 : Hid (-100 ≤ fwdErr a b 4000 ∧ fwdErr a b 4000 ≤ 100) := Lib.hid (by unfold fwdErr; split <;> omega)
  clear hg
  go_enter Tryd.func3, Tryd.ntmps3
  go_upto_region 3 with (fail)
  go_cut [23] (fun s23 wx => s23 = .bool (outB n 8000) ∧ Hid (wx = w))
  case first =>
    have h3 : (outB n 8000 = true ∧ (n < -8000 ∨ (¬ n < -8000 ∧ 8000 < n))) ∨ (outB n 8000 = false ∧ ¬ n < -8000 ∧ ¬ 8000 < n) := by
      by_cases h1 : n < -8000 ∨ 8000 < n
      · left; exact ⟨outB_true h1, by omega⟩
      · right; exact ⟨outB_false (by omega) (by omega), by omega⟩
    rcases h3 with ⟨ho, h1 | ⟨h1, h2⟩⟩ | ⟨ho, h1, h2⟩
    all_goals
      have HO := Lib.hid ho
      clear ho
      go_wp2_with fail
      go_meet
    all_goals exact ⟨by rw [HO.out], Lib.hid rfl⟩
  case rest =>
    obtain ⟨rfl, hw⟩ := hcut
    have hw' := hw.out
    subst hw'
    clear hw
    go_upto_if 23 with (fail)
    go_cut [7, 8] (fun s7 s8 wx => s7 = .int .i64 (halfErr n) ∧ s8 = .int .i64 (halfVal n) ∧ Hid (Below wc.heap.size wc wx))
    case first =>
      cases ho : outB n 8000
      · have hin : Ph.within n 8000 = true := by unfold outB at ho; simpa using ho
        have hb := Ph.within_iff.1 hin
        have HI := Lib.hid hin
        clear ho hin
        go_wp2_with fail
        refine (rdown_any n _ (by omega)).mono ?_
        rintro e w1 ⟨rfl, rfl⟩
        go_wp2_with fail
        go_meet
        case rel => exact ⟨by unfold halfErr; rw [if_pos HI.out], by unfold halfVal; rw [if_pos HI.out], Lib.hid (Below.refl _ _)⟩
      · have hin : ¬ Ph.within n 8000 = true := by intro h; unfold outB at ho; rw [h] at ho; cases ho
        have HI := Lib.hid hin
        clear ho hin
        go_wp2_with fail
        go_meet
        case rel => exact ⟨by unfold halfErr; rw [if_neg HI.out], by unfold halfVal; rw [if_neg HI.out], Lib.hid (Below.refl _ _)⟩
    case rest =>
      obtain ⟨rfl, rfl, HB⟩ := hcut
      rename World => w1
      go_wp2_with fail
      refine (half_told n _).mono ?_
      rintro e w2 ⟨rfl, rfl⟩
      go_wp2_with fail
      refine (herr_yes (halfErr n) _ (HG.out.below HB.out) HE1.out).mono ?_
      rintro e w2 ⟨rfl, hb2⟩
      have HB2 := Lib.hid (below_on HB.out hb2)
      clear hb2 HB
      go_upto_region 11 with (fail)
      go_cut [52] (fun s52 wx => s52 = .bool (out2 a b 2000) ∧ Hid (Below wc.heap.size wc wx))
      case first =>
        rcases four a b 2000 with ⟨ho, a1 | ⟨a1, a2⟩ | ⟨a1, a2, a3⟩ | ⟨a1, a2, a3, a4⟩⟩ | ⟨ho, a1, a2, a3, a4⟩
        all_goals
          have HO := Lib.hid ho
          clear ho
          go_wp2_with fail
          go_meet
        all_goals exact ⟨by rw [HO.out], HB2⟩
      case rest =>
        obtain ⟨rfl, HB⟩ := hcut
        clear HB2
        rename World => w3
        go_upto_if 52 with (fail)
        go_cut [7, 12, 13] (fun s7 s12 s13 wx => s7 = .int .i64 (fwdErr a b 2000) ∧ s12 = .int .i64 (fwdS a b) ∧ s13 = .int .i64 (fwdD a b) ∧ Hid (Below wc.heap.size wc wx))
        case first =>
          cases ho : out2 a b 2000
          · have hin := out2_false ho
            have hb1 := Ph.within_iff.1 hin.1
            have hb2 := Ph.within_iff.1 hin.2
            have HI := Lib.hid hin
            clear ho hin
            go_wp2_with fail
            refine (rdown_any (a + b) _ (by omega)).mono ?_
            rintro e w1 ⟨rfl, rfl⟩
            go_wp2_with fail
            go_meet
            case rel => exact ⟨by unfold fwdErr; rw [if_pos HI.out], by unfold fwdS; rw [if_pos HI.out], by unfold fwdD; rw [if_pos HI.out], HB⟩
          · have HI := Lib.hid (out2_true ho)
            clear ho
            go_wp2_with fail
            go_meet
            case rel => exact ⟨by unfold fwdErr; rw [if_neg HI.out], by unfold fwdS; rw [if_neg HI.out], by unfold fwdD; rw [if_neg HI.out], HB⟩
        case rest =>
          obtain ⟨rfl, rfl, rfl, HB3⟩ := hcut
          clear HB
          rename World => w4
          go_wp2_with fail
          refine (fwd_told a b _).mono ?_
          rintro e w2 ⟨rfl, rfl⟩
          go_wp2_with fail
          refine (herr_yes (fwdErr a b 2000) _ (HG.out.below HB3.out) HE2.out).mono ?_
          rintro e w2 ⟨rfl, hb2⟩
          have HB4 := Lib.hid (below_on HB3.out hb2)
          clear hb2 HB3
          go_upto_region 20 with (fail)
          go_cut [93] (fun s93 wx => s93 = .bool (out2 a b 4000) ∧ Hid (Below wc.heap.size wc wx))
          case first =>
            rcases four a b 4000 with ⟨ho, a1 | ⟨a1, a2⟩ | ⟨a1, a2, a3⟩ | ⟨a1, a2, a3, a4⟩⟩ | ⟨ho, a1, a2, a3, a4⟩
            all_goals
              have HO := Lib.hid ho
              clear ho
              go_wp2_with fail
              go_meet
            all_goals exact ⟨by rw [HO.out], HB4⟩
          case rest =>
            obtain ⟨rfl, HB⟩ := hcut
            clear HB4
            rename World => w5
            go_upto_if 93 with (fail)
            go_cut [7, 12, 13] (fun s7 s12 s13 wx => s7 = .int .i64 (fwdErr a b 4000) ∧ s12 = .int .i64 (invS a b) ∧ s13 = .int .i64 (invD a b) ∧ Hid (Below wc.heap.size wc wx))
            case first =>
              cases ho : out2 a b 4000
              · have hin := out2_false ho
                have hb1 := Ph.within_iff.1 hin.1
                have hb2 := Ph.within_iff.1 hin.2
                have HI := Lib.hid hin
                clear ho hin
                go_wp2_with fail
                refine (rdown_any (b + 1) _ (by omega)).mono ?_
                rintro e w1 ⟨rfl, rfl⟩
                go_wp2_with fail
                go_meet
                case rel => exact ⟨by unfold fwdErr; rw [if_pos HI.out], by unfold invS; rw [if_pos HI.out], by unfold invD; rw [if_pos HI.out], HB⟩
              · have HI := Lib.hid (out2_true ho)
                clear ho
                go_wp2_with fail
                go_meet
                case rel => exact ⟨by unfold fwdErr; rw [if_neg HI.out], by unfold invS; rw [if_neg HI.out], by unfold invD; rw [if_neg HI.out], HB⟩
            case rest =>
              obtain ⟨rfl, rfl, rfl, HB5⟩ := hcut
              clear HB
              rename World => w6
              go_wp2_with fail
              refine (inv_told a b _).mono ?_
              rintro e w2 ⟨rfl, rfl⟩
              go_wp2_with fail
              refine (herr_yes (fwdErr a b 4000) _ (HG.out.below HB5.out) HE3.out).mono ?_
              rintro e w2 ⟨rfl, hb2⟩
              have HB6 := Lib.hid (below_on HB5.out hb2)
              clear hb2 HB5
              go_wp2_with fail
              go_ret
              exact ⟨ret_true (by simp), HB6.out⟩
end Go.Proofs.YtfnbehjebmbbdaaDoor
