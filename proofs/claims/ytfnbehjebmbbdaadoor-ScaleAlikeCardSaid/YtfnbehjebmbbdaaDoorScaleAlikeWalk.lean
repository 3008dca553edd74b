/- The walk of the law ScaleAlike. -/
import Derived.Test.YtfnbehjebmbbdaaDoorTold
import Derived.Test.YtfnbehjebmbbdaaDoorScale
import Derived.Test.YtfnbehjebmbbdaaDoorOpen
namespace Go.Proofs.YtfnbehjebmbbdaaDoor
open Go.RowKit

theorem push_rep (x : Int) (k : Nat) : List.replicate k x ++ [x] = List.replicate (k + 1) x := by
  rw [List.replicate_succ']
theorem rep_getD (x : Int) (k i : Nat) (h : i < k) : (List.replicate k x).getD i 0 = x := by
  rw [List.getD_eq_getElem?_getD, List.getElem?_replicate, if_pos h]; rfl
theorem alike_get (m : Nat) (x : Int) (hm : m + 1 ≤ 40) (hx : 1 ≤ x) (i : Nat) (hi : i < m + 1) :
    (Ph.scaled (List.replicate (m + 1) x)).getD i 0 = if i = 0 then 256 - (m : Int) * (256 / ((m + 1 : Nat) : Int)) else 256 / ((m + 1 : Nat) : Int) := by
  rw [Ph.scaled_alike hm hx]
  cases i with
  | zero => simp
  | succ i => simp [List.getD_eq_getElem?_getD, show i < m by omega]
set_option maxHeartbeats 1000000 in
theorem scaleAlike_walk (w : World) (many each : Int) (hg : Laid w) :
    Calls Tryd.prog 12 #[.int .i64 many, .int .i64 each] w fun e w' => e = .returned (.bool true) ∧ Below w.heap.size w w' := by
  by_cases hr : 1 ≤ many ∧ many ≤ 40 ∧ 1 ≤ each ∧ each ≤ 1000000
  · obtain ⟨n1, n2, m1, m2⟩ := hr
    obtain ⟨M, rfl⟩ : ∃ M : Nat, many = (M : Int) + 1 := ⟨(many - 1).toNat, by omega⟩
    have hM : M + 1 ≤ 40 := by omega
    have h1 : ¬ (M : Int) + 1 < 1 := by omega
    have h2 : ¬ 40 < (M : Int) + 1 := by omega
    clear hg
    go_enter Tryd.func12, Tryd.ntmps12
    go_wp2_with fail
    go_loopw [7, 8] (fun v i wr => ∃ (k : Nat) (A : Option Addr) (c : Nat), k ≤ M + 1 ∧ i = .int .i64 k ∧ v = .slice A k c ∧ wr.ownsRow w.heap.size 3 1 (.slice A k c) k (ivals (List.replicate k each)) ∧ Below w.heap.size w wr) (fun _ i _ => M + 1 - (intOf i).toNat)
    case atStart => exact ⟨0, none, 0, Nat.zero_le _, rfl, rfl, own_nil _ _ _, Below.refl _ _⟩
    case round =>
      obtain ⟨k, A, c, hk, rfl, rfl, hown, hbw⟩ := hrel
      have HO := Lib.hid hown
      have HBW := Lib.hid hbw
      clear hown hbw
      by_cases hlt : k < M + 1
      · have hlt1 : (k : Int) < (M : Int) + 1 := by omega
        go_wp2_with (at_builtin; refine wpList_push _ (by rfl) _ _ (by rfl) w w.heap.size A k c _ each HO.out HBW.out (by have := HBW.out.size; omega) (by omega) (by rfl) (by rfl) ?_; intro g2 cap w9 ho2 hb2)
        have HO2 := Lib.hid ho2
        have HB2 := Lib.hid hb2
        clear ho2 hb2
        go_wp2
        go_roundw
        case rel => exact ⟨k + 1, some ⟨g2, 0, none⟩, cap, by omega, by go_num, rfl, by rw [← push_rep]; exact HO2.out, HB2.out⟩
        case measure => simp [intOf]; omega
      · have hk2 : k = M + 1 := by omega
        subst hk2
        have hlt1 : ¬ ((M + 1 : Nat) : Int) < (M : Int) + 1 := by omega
        have HW := Lib.hid (RdI.own HO.out)
        have ht : Ph.total (List.replicate (M + 1) each) ≠ 0 := by
          rw [Ph.total_replicate]
          have : (0 : Int) < ((M + 1 : Nat) : Int) * each := Int.mul_pos (by omega) (by omega)
          omega
        have hF0 : scaleErr (List.replicate (M + 1) each) = 0 := scaleErr_zero.2 ⟨by rw [List.length_replicate]; omega, by rw [List.length_replicate]; omega, fun x hx => by rw [List.eq_of_mem_replicate hx]; omega, ht⟩
        have hlen : (Ph.scaled (List.replicate (M + 1) each)).length = M + 1 := by
          have := (Ph.scaled_ok (l := List.replicate (M + 1) each) (by rw [List.length_replicate]; omega) (fun x hx => by rw [List.eq_of_mem_replicate hx]; omega) ht).1.1
          rwa [List.length_replicate] at this
        have HM := Lib.hid (sof_ok A (M + 1) c (List.replicate (M + 1) each) wr _ HW.out (Nat.le_refl _) hF0)
        have HLN := Lib.hid hlen
        obtain ⟨D, hD⟩ : ∃ D, D = 256 / ((M + 1 : Nat) : Int) := ⟨_, rfl⟩
        have hD1 : 0 ≤ D ∧ D ≤ 256 := by
          rw [hD]
          exact ⟨Int.ediv_nonneg (by omega) (by omega), Int.ediv_le_self _ (by omega)⟩
        have HAG : Hid (∀ i, i < M + 1 → (Ph.scaled (List.replicate (M + 1) each)).getD i 0 = if i = 0 then 256 - (M : Int) * D else D) := Lib.hid (by rw [hD]; exact alike_get M each hM m1)
        have hMD : 0 ≤ (M : Int) * D ∧ (M : Int) * D ≤ 39 * 256 := ⟨Int.mul_nonneg (by omega) hD1.1, by
          have h3 : (M : Int) * D ≤ 39 * D := Int.mul_le_mul_of_nonneg_right (by omega) hD1.1
          omega⟩
        have hDD : Hid (256 / ((M : Int) + 1) = D) := Lib.hid (by rw [hD]; congr 1)
        clear ht hF0 hlen hD
        go_wp2_with fail
        refine HM.out.mono ?_
        rintro e w9 ⟨AY, cy, rfl, hown, hbw⟩
        rw [HLN.out] at hown ⊢
        have HO9 := Lib.hid hown
        have HB9 := Lib.hid (HBW.out.trans (hbw.mono HBW.out.size))
        obtain ⟨g9, rfl, _, _⟩ := own_form HO9.out (by omega)
        clear hown hbw HM HW HO
        have hne : (((M + 1 : Nat) : Int) != (M : Int) + 1) = false := by simp
        go_wp2_with fail
        go_loopw [11] (fun i wr => ∃ j : Nat, 1 ≤ j ∧ j ≤ M + 1 ∧ i = .int .i64 j ∧ ∃ q, wr = w9.drewN q) (fun i _ => M + 1 - (intOf i).toNat)
        case atStart => exact ⟨1, by omega, by omega, rfl, 0, rfl⟩
        case round =>
          obtain ⟨j, hj1, hj, rfl, q, rfl⟩ := hrel
          by_cases hlt2 : j < M + 1
          · have hlt3 : (j : Int) < (M : Int) + 1 := by omega
            have hc1 : w9.cell? ⟨g9, j, none⟩ = some (.int .i64 D) := by
              rw [HO9.out.cellAt j (by omega), ivals_get (by rw [HLN.out]; omega), HAG.out j (by omega), if_neg (by omega)]
            have hdd := hDD.out
            have k1 : (j : Int) < ((M + 1 : Nat) : Int) := by omega
            have k2 : (0 : Int) ≤ (j : Int) := by omega
            go_wp2_with fail
            go_quiet (fail)
            go_wp2_with fail
            go_roundw
            case rel => exact ⟨j + 1, by omega, by omega, by go_num, _, rfl⟩
            case measure => simp [intOf]; omega
          · have hlt3 : ¬ (j : Int) < (M : Int) + 1 := by omega
            have hc1 : w9.cell? ⟨g9, 0, none⟩ = some (.int .i64 (256 - (M : Int) * D)) := by
              rw [HO9.out.cellAt 0 (by omega), ivals_get (by rw [HLN.out]; omega), HAG.out 0 (by omega), if_pos rfl]
            have hdd := hDD.out
            have k1 : IntKind.i64.wrap ((M : Int) + 1 - 1) = (M : Int) := by rw [show (M : Int) + 1 - 1 = (M : Int) by omega]; exact IntWalk.i64_in _ (by omega)
            have k3 : IntKind.i64.wrap ((M : Int) * D) = (M : Int) * D := IntWalk.i64_in _ (by omega)
            have k4 : IntKind.i64.wrap (256 - (M : Int) * D) = 256 - (M : Int) * D := IntWalk.i64_in _ (by omega)
            go_wp2_with fail
            go_quiet (fail)
            go_wp2_with fail
            go_ret
            exact ⟨ret_true (by simp), below_drewN' (below_drewN' HB9.out _) _⟩
  · have hrr : many < 1 ∨ (¬ many < 1 ∧ 40 < many) ∨ (¬ many < 1 ∧ ¬ 40 < many ∧ each < 1) ∨ (¬ many < 1 ∧ ¬ 40 < many ∧ ¬ each < 1 ∧ 1000000 < each) := by omega
    have hk : scaleErr [] = 5 := rfl
    have HG := Lib.hid hg
    have HF := Lib.hid (sof_no none 0 0 [] w 0 RdI.nil (by omega) (by rw [hk]; omega))
    rw [hk] at HF
    clear hr hk hg
    rcases hrr with a1 | ⟨a1, a2⟩ | ⟨a1, a2, a3⟩ | ⟨a1, a2, a3, a4⟩
    all_goals
      go_enter Tryd.func12, Tryd.ntmps12
      go_wp2_with fail
      refine (HF.out).mono ?_
      rintro e wk ⟨rfl, rfl⟩
      go_wp2_with fail
      refine (herr_yes 5 _ HG.out (by omega)).mono ?_
      rintro e w2 ⟨rfl, hb2⟩
      have HB2 := Lib.hid hb2
      clear hb2
      go_wp2_with fail
      go_ret
      exact ⟨rfl, HB2.out⟩
end Go.Proofs.YtfnbehjebmbbdaaDoor
