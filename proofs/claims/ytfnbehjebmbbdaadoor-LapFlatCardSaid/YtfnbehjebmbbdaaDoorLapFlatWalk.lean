/- The walk of the law LapFlat. -/
import Derived.Test.YtfnbehjebmbbdaaDoorTold
import Derived.Test.YtfnbehjebmbbdaaDoorLap2
import Derived.Test.YtfnbehjebmbbdaaDoorOpen
namespace Go.Proofs.YtfnbehjebmbbdaaDoor
open Go.RowKit

theorem push_rep (x : Int) (k : Nat) : List.replicate k x ++ [x] = List.replicate (k + 1) x := by
  rw [List.replicate_succ']
theorem rep_getD (x : Int) (k i : Nat) (h : i < k) : (List.replicate k x).getD i 0 = x := by
  rw [List.getD_eq_getElem?_getD, List.getElem?_replicate, if_pos h]; rfl
theorem flat_hi (x : Int) (R i : Nat) (h : i < R) : (Ph.lapF (List.replicate (2 * R) x)).getD (R + i) 0 = 0 := by
  have h2 : (List.replicate (2 * R) x).length / 2 = R := by simp
  have h3 := Ph.lapF_hi (List.replicate (2 * R) x) i (by omega)
  have h4 := Ph.dif_even (l := List.replicate (2 * R) x) (a := x) (b := 0) (fun j hj => by rw [List.length_replicate] at hj; rw [rep_getD _ _ _ hj]; simp) (by simp) i (by omega)
  rw [h2] at h3 h4
  rw [h3, h4]; split <;> rfl
theorem flat_lo (x : Int) (R i : Nat) (h : i < R) : (Ph.lapF (List.replicate (2 * R) x)).getD i 0 = x := by
  have h2 : (List.replicate (2 * R) x).length / 2 = R := by simp
  have h3 := Ph.lapF_lo (List.replicate (2 * R) x) i (by omega)
  have h4 := fun i hi => Ph.dif_even (l := List.replicate (2 * R) x) (a := x) (b := 0) (fun j hj => by rw [List.length_replicate] at hj; rw [rep_getD _ _ _ hj]; simp) (by simp) i hi
  rw [h2] at h3 h4
  rw [h3]
  unfold Ph.stay Ph.ev
  rw [h4 i h, h4 (i - 1) (by omega), rep_getD _ _ _ (by omega)]
  split <;> split <;> omega
set_option maxHeartbeats 1000000 in
theorem lapFlat_walk (w : World) (n many : Int) (hg : Laid w) :
    Calls Tryd.prog 4 #[.int .i64 n, .int .i64 many] w fun e w' => e = .returned (.bool true) ∧ Below w.heap.size w w' := by
  by_cases hr : -1000 ≤ n ∧ n ≤ 1000 ∧ 0 ≤ many ∧ many ≤ 16
  · obtain ⟨n1, n2, m1, m2⟩ := hr
    obtain ⟨R, rfl⟩ := Int.eq_ofNat_of_zero_le m1
    have hR : R ≤ 16 := by omega
    clear hg
    go_enter Tryd.func4, Tryd.ntmps4
    go_wp2_with fail
    go_loopw [7, 8] (fun v i wr => ∃ (k : Nat) (A : Option Addr) (c : Nat), k ≤ 2 * R ∧ i = .int .i64 k ∧ v = .slice A k c ∧ wr.ownsRow w.heap.size 3 1 (.slice A k c) k (ivals (List.replicate k n)) ∧ Below w.heap.size w wr) (fun _ i _ => 2 * R - (intOf i).toNat)
    case atStart => exact ⟨0, none, 0, Nat.zero_le _, rfl, rfl, own_nil _ _ _, Below.refl _ _⟩
    case round =>
      obtain ⟨k, A, c, hk, rfl, rfl, hown, hbw⟩ := hrel
      have HO := Lib.hid hown
      have HBW := Lib.hid hbw
      clear hown hbw
      by_cases hlt : k < 2 * R
      · go_wp2_with (at_builtin; refine wpList_push _ (by rfl) _ _ (by rfl) w w.heap.size A k c _ n HO.out HBW.out (by have := HBW.out.size; omega) (by omega) (by rfl) (by rfl) ?_; intro g2 cap w9 ho2 hb2)
        have HO2 := Lib.hid ho2
        have HB2 := Lib.hid hb2
        clear ho2 hb2
        go_wp2
        go_roundw
        case rel => exact ⟨k + 1, some ⟨g2, 0, none⟩, cap, by omega, by go_num, rfl, by rw [← push_rep]; exact HO2.out, HB2.out⟩
        case measure => simp [intOf]; omega
      · have hk2 : k = 2 * R := by omega
        have HK2 := Lib.hid hk2
        have HW := Lib.hid (RdI.own HO.out)
        have hF0 : Ph.lapErr (List.replicate k n) 1000 = 0 := Ph.lapErr_zero.2 ⟨by rw [List.length_replicate]; omega, by rw [List.length_replicate]; omega, Ph.allIn_iff.2 fun x hx => by rw [List.eq_of_mem_replicate hx]; omega⟩
        have hlen : (Ph.lapF (List.replicate k n)).length = k := by rw [Ph.lapF_length _ (by rw [List.length_replicate]; omega), List.length_replicate]
        have HM := Lib.hid (lapF_ok A k c (List.replicate k n) wr _ HW.out (Nat.le_refl _) hF0)
        have HLN := Lib.hid hlen
        clear hk2 hF0 hlen
        go_wp2_with fail
        refine HM.out.mono ?_
        rintro e w9 ⟨AY, cy, rfl, hown, hbw⟩
        rw [HLN.out] at hown ⊢
        have HO9 := Lib.hid hown
        have HB9 := Lib.hid (HBW.out.trans (hbw.mono HBW.out.size))
        have hne : ((k : Int) != 2 * (R : Int)) = false := by simp; omega
        clear hown hbw HM HW HO
        go_wp2_with fail
        go_loop [11] (fun i => ∃ j : Nat, j ≤ R ∧ i = .int .i64 j) (fun i => R - (intOf i).toNat)
        case atStart => exact ⟨0, by omega, rfl⟩
        case round =>
          obtain ⟨j, hj, rfl⟩ := hrel
          by_cases hlt2 : j < R
          · have hk2 := HK2.out
            obtain ⟨g9, rfl, _, _⟩ := own_form HO9.out (by omega)
            have hc1 : w9.cell? ⟨g9, j, none⟩ = some (.int .i64 n) := by
              rw [HO9.out.cellAt j (by omega), ivals_get (by rw [HLN.out]; omega), hk2, flat_lo _ _ _ hlt2]
            have hc2 : w9.cell? ⟨g9, R + j, none⟩ = some (.int .i64 0) := by
              rw [HO9.out.cellAt (R + j) (by omega), ivals_get (by rw [HLN.out]; omega), hk2, flat_hi _ _ _ hlt2]
            have k1 : (j : Int) < (k : Int) := by omega
            have k2 : (R : Int) + (j : Int) < (k : Int) := by omega
            have k3 : ((R : Int) + (j : Int)).toNat = R + j := by omega
            clear hk2
            go_wp2_with fail
            go_round
            case rel => exact ⟨j + 1, by omega, by go_num⟩
            case measure => simp [intOf]; omega
          · go_wp2_with fail
            go_ret
            exact ⟨rfl, HB9.out⟩
  · have hrr : n < -1000 ∨ (¬ n < -1000 ∧ 1000 < n) ∨ (¬ n < -1000 ∧ ¬ 1000 < n ∧ many < 0) ∨ (¬ n < -1000 ∧ ¬ 1000 < n ∧ ¬ many < 0 ∧ 16 < many) := by omega
    have HR1 := Lib.hid (RdI.lit' w [1] 3 #[.int .i64 1] rfl)
    have hk : Ph.lapErr [1] 1000 = 3 := by decide
    have HG := Lib.hid hg
    have HF := Lib.hid (lapF_no _ 1 1 [1] _ _ HR1.out (Nat.le_refl _) (by omega) (by omega))
    rw [hk] at HF
    have HB := Lib.hid (below_alloc0 w (.cells #[.int .i64 1] 3))
    clear hr hk hg
    rcases hrr with a1 | ⟨a1, a2⟩ | ⟨a1, a2, a3⟩ | ⟨a1, a2, a3, a4⟩
    all_goals
      go_enter Tryd.func4, Tryd.ntmps4
      go_wp2_with fail
      refine HF.out.mono ?_
      rintro e w1 ⟨rfl, hb1⟩
      have HB1 := Lib.hid (below_on HB.out hb1)
      clear hb1
      go_wp2_with fail
      refine (herr_yes 3 _ (HG.out.below HB1.out) (by omega)).mono ?_
      rintro e w2 ⟨rfl, hb2⟩
      have HB2 := Lib.hid (below_on HB1.out hb2)
      clear hb2
      go_wp2_with fail
      go_ret
      exact ⟨rfl, HB2.out⟩
end Go.Proofs.YtfnbehjebmbbdaaDoor
