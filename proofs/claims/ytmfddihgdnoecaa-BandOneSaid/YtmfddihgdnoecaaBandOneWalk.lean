/- The walk of the law BandOne. -/
import Derived.Test.YtmfddihgdnoecaaBand2
import Derived.Test.YtmfddihgdnoecaaOpen
namespace Go.Proofs.Ytmfddihgdnoecaa
open Go.RowKit

set_option maxHeartbeats 1000000 in
theorem bandOne_walk (w : World) (A : Option Addr) (n c : Nat) (l : List Int) (h : RdI w w.heap.size A n l) (hb : n ≤ c ∧ c ≤ 17592186044415) (_ : ∀ x ∈ l, Is64 x) :
    Calls Try.prog 10 #[.slice A n c] w fun e w' => e = .returned (.bool true) ∧ Below w.heap.size w w' := by
  have HL := Lib.hid h.len
  have H := Lib.hid (h.onAlloc (.cells #[.int .i64 (n : Int)] 3))
  have HB := Lib.hid (below_alloc0 w (.cells #[.int .i64 (n : Int)] 3))
  have HR := Lib.hid (RdI.lit' w [(n : Int)] 3 #[.int .i64 (n : Int)] rfl)
  by_cases h6 : 1 ≤ n ∧ n ≤ 6
  · have h0 : Ph.bandErr [(n : Int)] = 0 := Ph.bandErr_zero.2 ⟨by simp, by simp, fun x hx => by simp at hx; omega, by simp [Ph.total]; omega⟩
    have hcut : Ph.cut l [(n : Int)] = [l] := by
      simp only [Ph.cut, Int.toNat_natCast]
      rw [List.take_of_length_le (by rw [h.len]; omega)]
    have HS := Lib.hid (split_ok A n c l _ 1 1 [(n : Int)] _ _ H.out hb.1 HR.out (Nat.le_refl _) h0 (by simp [Ph.total]))
    rw [hcut] at HS
    have h1 : Ph.bandErr [(n : Int), 1] = 0 := Ph.bandErr_zero.2 ⟨by simp, by simp, fun x hx => by simp at hx; omega, by simp [Ph.total]; omega⟩
    have HC := Lib.hid fun (W : World) hW => bandCheck_ok (some ⟨W.heap.size, 0, none⟩) 2 2 [(n : Int), 1] (W.alloc (.cells #[.int .i64 (n : Int), .int .i64 1] 3)) (W.alloc (.cells #[.int .i64 (n : Int), .int .i64 1] 3)).heap.size hW h1
    have ht : Ph.total [(n : Int), 1] = (n : Int) + 1 := by simp [Ph.total]
    rw [ht] at HC
    have hn6 : n ≤ 6 := h6.2
    clear h h6 h0 h1 ht hcut
    go_enter Try.func10, Try.ntmps10
    go_wp2_with fail
    refine HS.out.mono ?_
    rintro e w1 ⟨A1, c1, vs, rfl, ho, hv, hb1⟩
    have H1 := Lib.hid (H.out.on hb1)
    have HRR := Lib.hid (RdR.own ho hv.rows)
    have HB1 := Lib.hid (below_on HB.out hb1)
    clear ho hv hb1 HS
    go_wp2_with fail
    refine (HC.out _ (RdI.lit' w1 [(n : Int), 1] 3 #[.int .i64 (n : Int), .int .i64 1] rfl)).mono ?_
    rintro e w2 ⟨rfl, rfl⟩
    have hb2 := below_alloc0 w1 (.cells #[.int .i64 (n : Int), .int .i64 1] 3)
    have H2 := Lib.hid (H1.out.on hb2)
    have HR2 := Lib.hid (HRR.out.on hb2)
    have HB2 := Lib.hid (below_on HB1.out hb2)
    obtain ⟨b, off, A3, c3, rfl, _, hc3, _, hr3⟩ := HR2.out.at_ (k := 0) (by omega)
    have hl : (([l] : List (List Int)).getD 0 []).length = n := HL.out
    rw [hl, Nat.add_zero] at hc3
    rw [hl] at hr3
    have HR3 := Lib.hid hr3
    clear hb2 hr3 hl HRR H1 HB1
    go_wp2_with fail
    refine (ints_any A3 A n c3 n c l l _ _ _ HR3.out H2.out (Nat.le_refl _) (Nat.le_refl _) (by omega)).mono ?_
    rintro e w4 ⟨rfl, hb4⟩
    rw [sameI_true.2 (rfl : l = l)]
    have HB4 := Lib.hid (below_on HB2.out hb4)
    clear hb4 HR3 H2 HB2
    go_wp2_with fail
    go_ret
    exact ⟨ret_true (by simp), HB4.out⟩
  · have h0 : Ph.bandErr [(n : Int)] ≠ 0 := fun h0 => by
      have := (Ph.bandErr_zero.1 h0).2.2.1 n (by simp)
      omega
    have HS := Lib.hid (split_no A n c _ 1 1 [(n : Int)] _ _ HR.out (by omega) h0)
    rw [errV_ne h0] at HS
    have hor : n < 1 ∨ (¬ n < 1 ∧ 6 < n) := by omega
    clear h h6 h0
    rcases hor with a1 | ⟨a1, a2⟩
    all_goals
      go_enter Try.func10, Try.ntmps10
      go_wp2_with fail
      refine HS.out.mono ?_
      rintro e w1 ⟨rfl, rfl⟩
      go_wp2_with fail
      go_ret
      exact ⟨ret_true (by first | rfl | (simp; omega)), HB.out⟩
end Go.Proofs.Ytmfddihgdnoecaa
