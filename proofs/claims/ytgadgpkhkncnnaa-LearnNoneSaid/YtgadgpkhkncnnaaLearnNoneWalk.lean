/- The walk of the law LearnNone. -/
import Derived.Test.YtgadgpkhkncnnaaLearn
import Derived.Test.YtgadgpkhkncnnaaOpen
import Derived.BigQuiet
namespace Go.Proofs.Ytgadgpkhkncnnaa
open Go.RowKit

/-- May there be so many signs? -/
def signsOk (m : Int) : Bool := decide (1 ≤ m) && decide (m ≤ 40)
theorem lcheck_nil (m : Int) (w : World) :
    Calls Try.prog 77 #[.slice none 0 0, .int .i64 m] w fun e w' => e = .returned (errV (if 1 ≤ m ∧ m ≤ 40 then 0 else 1)) ∧ Below w.heap.size w w' := by
  by_cases h : 1 ≤ m ∧ m ≤ 40
  · rw [if_pos h, errV_zero]
    have h1 : ¬ m < 1 := by omega
    have h2 : ¬ 40 < m := by omega
    clear h
    go_enter Try.func77, Try.ntmps77
    go_wp2_with fail
    refine wp_loop_rounds 1 ?_
    rw [rounds_succ]
    go_wp2_with fail
    go_ret
    exact ⟨rfl, below_alloc0 _ _⟩
  · rw [if_neg h, errV_ne (by omega)]
    have hc : m < 1 ∨ (¬ m < 1 ∧ 40 < m) := by omega
    clear h
    rcases hc with h1 | ⟨h1, h2⟩
    all_goals
      go_enter Try.func77, Try.ntmps77
      go_wp2_with fail
      go_ret
      exact ⟨rfl, below_alloc0 _ _⟩
theorem lcount_ok (m : Nat) (w : World) (hm : 1 ≤ m ∧ m ≤ 40) :
    Calls Try.prog 32 #[.slice none 0 0, .int .i64 m] w fun e w' => ∃ A c, e = .returned (.tuple #[.slice A m c, .nilIface]) ∧ RdI w' w'.heap.size A m (List.replicate m 1) ∧ Below w.heap.size w w' := by
  have HC := Lib.hid fun W => lcheck_nil (m : Int) W
  rw [if_pos (by omega), errV_zero] at HC
  have HR := Lib.hid fun g0 W hc => repeat_any m g0 W hm hc
  go_enter Try.func32, Try.ntmps32
  go_wp2_with fail
  refine (HC.out _).mono ?_
  rintro e w1 ⟨rfl, hb1⟩
  have HB1 := Lib.hid hb1
  clear hb1 HC
  go_wp2_with fail
  refine (HR.out w1.heap.size _ (cell_of_alloc w1 _ 3)).mono ?_
  rintro e w2 ⟨A2, c2, rfl, ho, hb2⟩
  rw [List.length_replicate] at ho ⊢
  have HO := Lib.hid (RdI.own ho)
  have HB2 := Lib.hid (below_on (below_onAlloc HB1.out _) hb2)
  clear ho hb2
  go_wp2_with fail
  refine wp_loop_rounds 1 ?_
  rw [rounds_succ]
  go_wp2_with fail
  go_ret2
  exact ⟨A2, c2, rfl, HO.out, HB2.out⟩
theorem lcount_no (m : Int) (w : World) (hm : ¬ (1 ≤ m ∧ m ≤ 40)) :
    Calls Try.prog 32 #[.slice none 0 0, .int .i64 m] w fun e w' => e = .returned (.tuple #[.slice none 0 0, .iface 73 (.int .i64 1)]) ∧ Below w.heap.size w w' := by
  have HC := Lib.hid fun W => lcheck_nil m W
  rw [if_neg hm, errV_ne (by omega)] at HC
  clear hm
  go_enter Try.func32, Try.ntmps32
  go_wp2_with fail
  refine (HC.out _).mono ?_
  rintro e w1 ⟨rfl, hb1⟩
  have HB1 := Lib.hid hb1
  clear hb1 HC
  go_wp2_with fail
  go_ret2
  exact ⟨rfl, HB1.out⟩
theorem ones_err (m : Nat) (hm : 1 ≤ m ∧ m ≤ 40) : scaleErr (List.replicate m 1) = 0 :=
  scaleErr_zero.2 ⟨by rw [List.length_replicate]; omega, by rw [List.length_replicate]; omega, fun x hx => by rw [List.eq_of_mem_replicate hx]; omega, by rw [Ph.total_replicate]; omega⟩
theorem lshares_ok (m : Nat) (w : World) (hm : 1 ≤ m ∧ m ≤ 40) :
    Calls Try.prog 33 #[.slice none 0 0, .int .i64 m] w fun e w' => ∃ A c, e = .returned (.tuple #[.slice A m c, .nilIface]) ∧ RdI w' w'.heap.size A m (Ph.scaled (List.replicate m 1)) ∧ Below w.heap.size w w' := by
  have HC := Lib.hid fun W => lcount_ok m W hm
  have h0 := ones_err m hm
  have hl : (Ph.scaled (List.replicate m 1)).length = m := by
    have hz := scaleErr_zero.1 h0
    have := (Ph.scaled_ok hz.2.1 (fun x hx => (hz.2.2.1 x hx).1) hz.2.2.2).1.1
    rwa [List.length_replicate] at this
  have HL := Lib.hid hl
  have HS := Lib.hid fun W A c hW => sof_ok A m c (List.replicate m 1) W W.heap.size hW (Nat.le_refl _) h0
  clear h0 hl
  go_enter Try.func33, Try.ntmps33
  go_wp2_with fail
  refine (HC.out _).mono ?_
  rintro e w1 ⟨A1, c1, rfl, hr1, hb1⟩
  have HR1 := Lib.hid hr1
  have HB1 := Lib.hid hb1
  clear hr1 hb1 HC
  go_wp2_with fail
  refine (HS.out _ _ _ HR1.out).mono ?_
  rintro e w2 ⟨A2, c2, rfl, ho, hb2⟩
  rw [HL.out] at ho ⊢
  have HO := Lib.hid (RdI.own ho)
  have HB2 := Lib.hid (below_on HB1.out hb2)
  clear ho hb2
  go_wp2_with fail
  go_ret2
  exact ⟨A2, c2, rfl, HO.out, HB2.out⟩
theorem ones_last (m : Nat) (hm : 1 ≤ m ∧ m ≤ 40) : (Ph.scaled (List.replicate m 1)).getD (m - 1) 0 = 256 / (m : Int) := by
  obtain ⟨k, rfl⟩ : ∃ k, m = k + 1 := ⟨m - 1, by omega⟩
  rw [Ph.scaled_alike (n := k) (x := 1) (by omega) (by omega)]
  cases k with
  | zero => simp
  | succ k => simp [List.getD_eq_getElem?_getD]
set_option maxHeartbeats 2000000 in
theorem learnNone_walk (w : World) (m : Int) :
    Calls Try.prog 9 #[.int .i64 m] w fun e w' => e = .returned (.bool true) ∧ Below w.heap.size w w' := by
  by_cases hm : 1 ≤ m ∧ m ≤ 40
  · obtain ⟨M, rfl⟩ : ∃ M : Nat, m = M := ⟨m.toNat, by omega⟩
    have hM : 1 ≤ M ∧ M ≤ 40 := by omega
    have HC := Lib.hid fun W => lcount_ok M W hM
    have HS := Lib.hid fun W => lshares_ok M W hM
    have HX := Lib.hid (ones_last M hM)
    have h1 : ((M : Int) != (M : Int)) = false := by simp
    clear hm
    go_enter Try.func9, Try.ntmps9
    go_wp2_with fail
    refine (HC.out _).mono ?_
    rintro e w1 ⟨A1, c1, rfl, hr1, hb1⟩
    have HR1 := Lib.hid hr1
    have HB1 := Lib.hid hb1
    clear hr1 hb1 HC
    go_wp2_with fail
    go_loop [5] (fun i => ∃ k : Nat, k ≤ M ∧ i = .int .i64 k) (fun i => M - (intOf i).toNat)
    case atStart => exact ⟨0, Nat.zero_le _, rfl⟩
    case round =>
      obtain ⟨k, hk, rfl⟩ := hrel
      by_cases hlt : k < M
      · obtain ⟨b, off, rfl, _, hc⟩ := HR1.out.at_ hlt
        rw [show (List.replicate M (1 : Int)).getD k 0 = 1 by rw [List.getD_eq_getElem?_getD, List.getElem?_replicate, if_pos hlt]; rfl] at hc
        have hlt' : (k : Int) < (M : Int) := by omega
        go_wp2_with fail
        go_round
        case rel => exact ⟨k + 1, by omega, by go_num⟩
        case measure => simp [intOf]; omega
      · obtain rfl : k = M := by omega
        go_wp2_with fail
        refine (HS.out _).mono ?_
        rintro e w2 ⟨A2, c2, rfl, hr2, hb2⟩
        have HB2 := Lib.hid (below_on HB1.out hb2)
        obtain ⟨b, off, rfl, _, hc⟩ := hr2.at_ (k := k - 1) (by omega)
        rw [HX.out] at hc
        have d1 : (0 : Int) ≤ (k : Int) - 1 := by omega
        have d2 : (k : Int) - 1 < (k : Int) := by omega
        have d3 : ((k : Int) - 1).toNat = k - 1 := by omega
        have d4 : (256 : Int).tdiv (k : Int) = 256 / (k : Int) := Int.tdiv_eq_ediv_of_nonneg (by omega)
        have d5 : ¬ (k : Int) = 0 := by omega
        have q0 : 0 ≤ 256 / (k : Int) := Int.ediv_nonneg (by omega) (by omega)
        have q1 : 256 / (k : Int) ≤ 256 := Int.ediv_le_self _ (by omega)
        have d6 : IntKind.i64.wrap (256 / (k : Int)) = 256 / (k : Int) := IntWalk.i64_in _ (by omega)
        clear hr2 hb2
        go_wp2_with fail
        go_quiet (fail)
        go_wp2_with fail
        go_ret
        exact ⟨ret_true (by simp), below_drewN' HB2.out _⟩
  · have HC := Lib.hid fun W => lcount_no m W hm
    have hc : m < 1 ∨ (¬ m < 1 ∧ 40 < m) := by omega
    clear hm
    rcases hc with h1 | ⟨h1, h2⟩
    all_goals
      go_enter Try.func9, Try.ntmps9
      go_wp2_with fail
      refine (HC.out _).mono ?_
      rintro e w1 ⟨rfl, hb1⟩
      have HB1 := Lib.hid hb1
      clear hb1
      go_wp2_with fail
      go_ret
      exact ⟨rfl, HB1.out⟩
end Go.Proofs.Ytgadgpkhkncnnaa
