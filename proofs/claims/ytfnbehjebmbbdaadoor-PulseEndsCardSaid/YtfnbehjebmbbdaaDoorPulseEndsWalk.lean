/- The walk of the law PulseEnds. -/
import Derived.Test.YtfnbehjebmbbdaaDoorPulse3
import Derived.Test.YtfnbehjebmbbdaaDoorTold
import Derived.Test.YtfnbehjebmbbdaaDoorOpen
namespace Go.Proofs.YtfnbehjebmbbdaaDoor
open Go.RowKit

set_option maxHeartbeats 2000000 in
set_option maxRecDepth 100000 in
theorem pulseEnds_walk (w : World) (n k : Int) (hg : Laid w) :
    Calls Tryd.prog 7 #[.int .i64 n, .int .i64 k] w fun e w' => e = .returned (.bool true) ∧ Below w.heap.size w w' := by
  have HG := Lib.hid hg
  have HF0 : Hid (∀ W, Calls Tryd.prog 28 #[.int .i64 1, .int .i64 1, .int .i64 0] W fun e w' => ∃ A c, e = .returned (.tuple #[.slice A 1 c, .nilIface]) ∧ w'.ownsRow W.heap.size 3 1 (.slice A 1 c) 1 (ivals [-1]) ∧ Below W.heap.size W w') := Lib.hid fun W => by
    have h : Ph.rowOf 1 1 0 = [-1] := by decide +kernel
    have := pOf_ok 1 1 0 W (by omega) (by omega) (by decide +kernel)
    rw [h] at this
    exact this
  clear hg
  cases hok : cntOk n k
  · have HN : Hid (∀ W, Calls Tryd.prog 29 #[.int .i64 n, .int .i64 k] W fun e w' => e = .returned (.tuple #[.int .i64 0, .iface 72 (.int .i64 1)]) ∧ W = w') := Lib.hid (fun W => cOf_no n k W hok)
    clear hok
    go_enter Tryd.func7, Tryd.ntmps7
    go_wp2_with fail
    refine (HF0.out _).mono ?_
    rintro e w1 ⟨A0, c0, rfl, ho, hb1⟩
    obtain ⟨g, rfl, _, _⟩ := own_form ho (by decide)
    have f0 : w1.cell? ⟨g, 0, none⟩ = some (.int .i64 (-1)) := ho.cellAt 0 (by decide)
    have HB1 := Lib.hid hb1
    clear ho hb1 HF0
    go_wp2_with fail
    refine (HN.out _).mono ?_
    rintro e w2 ⟨rfl, rfl⟩
    go_wp2_with fail
    go_ret
    exact ⟨rfl, HB1.out⟩
  · have h := cntOk_iff.1 hok
    obtain ⟨n, rfl⟩ := Int.eq_ofNat_of_zero_le h.1.1
    obtain ⟨k, rfl⟩ := Int.eq_ofNat_of_zero_le h.2.1
    have hn : n ≤ 6 := by omega
    have hk : k ≤ 8 := by omega
    clear hok h
    have HN : Hid (∀ W, Calls Tryd.prog 29 #[.int .i64 n, .int .i64 k] W fun e w' => e = .returned (.tuple #[.int .i64 (Ph.cnt n k : Nat), .nilIface]) ∧ Below W.heap.size W w') := Lib.hid (fun W => cOf_ok n k W hn hk)
    have hc9 := Ph.cnt_le n k hn hk
    have HA := Lib.hid fun W h => pOf_ok n k 0 W hn hk h
    have HB := Lib.hid fun W h => pOf_ok n k (Ph.cnt n k - 1) W hn hk h
    have HC : Hid (∀ W, Calls Tryd.prog 28 #[.int .i64 n, .int .i64 k, .int .i64 (Ph.cnt n k : Nat)] W fun e w' => e = .returned (.tuple #[.slice none 0 0, errV 1]) ∧ Below W.heap.size W w') := Lib.hid fun W => pOf_no n k (Ph.cnt n k : Nat) W (by unfold ofOk; simp)
    have hend : Hid (∀ q, n = q + 1 → (Ph.rowOf n k 0).getD 0 0 = -(k : Int) ∧ (Ph.rowOf n k (Ph.cnt n k - 1)).getD 0 0 = (k : Int)) := Lib.hid fun q hq => by subst hq; exact ⟨Ph.rowOf_first q k, Ph.rowOf_final q k⟩
    have hl1 := Lib.hid (Ph.rowOf_length n k 0)
    have hl2 := Lib.hid (Ph.rowOf_length n k (Ph.cnt n k - 1))
    obtain ⟨r1, hr1⟩ : ∃ r1, r1 = Ph.rowOf n k 0 := ⟨_, rfl⟩
    obtain ⟨r2, hr2⟩ : ∃ r2, r2 = Ph.rowOf n k (Ph.cnt n k - 1) := ⟨_, rfl⟩
    rw [← hr1] at HA hend hl1
    rw [← hr2] at HB hend hl2
    clear hr1 hr2
    obtain ⟨C, hC⟩ : ∃ C, C = Ph.cnt n k := ⟨_, rfl⟩
    rw [← hC] at HN hc9 HA HB HC
    clear hC
    rcases Nat.eq_zero_or_pos C with hC0 | hC0
    · subst hC0
      clear HA HB HC
      go_enter Tryd.func7, Tryd.ntmps7
      go_wp2_with fail
      refine (HF0.out _).mono ?_
      rintro e w1 ⟨A0, c0, rfl, ho, hb1⟩
      obtain ⟨g, rfl, _, _⟩ := own_form ho (by decide)
      have f0 : w1.cell? ⟨g, 0, none⟩ = some (.int .i64 (-1)) := ho.cellAt 0 (by decide)
      have HB1 := Lib.hid hb1
      clear ho hb1 HF0
      go_wp2_with fail
      refine (HN.out _).mono ?_
      rintro e w2 ⟨rfl, hb2⟩
      have HB2 := Lib.hid (below_on HB1.out hb2)
      clear hb2
      go_wp2_with fail
      go_ret
      exact ⟨rfl, HB2.out⟩
    · have hc0 : ((C : Int) == 0) = false := by simp; omega
      have HA' := Lib.hid fun W => HA.out W hC0
      have HB' : Hid (∀ W, Calls Tryd.prog 28 #[.int .i64 n, .int .i64 k, .int .i64 ((C : Int) - 1)] W fun e w' => ∃ A c, e = .returned (.tuple #[.slice A n c, .nilIface]) ∧ w'.ownsRow W.heap.size 3 1 (.slice A n c) n (ivals r2) ∧ Below W.heap.size W w') := Lib.hid fun W => by
        have := HB.out W (by omega)
        rw [show ((C - 1 : Nat) : Int) = (C : Int) - 1 by omega] at this
        exact this
      clear HA HB
      go_enter Tryd.func7, Tryd.ntmps7
      go_wp2_with fail
      refine (HF0.out _).mono ?_
      rintro e w1 ⟨A0, c0, rfl, ho, hb1⟩
      obtain ⟨g, rfl, _, _⟩ := own_form ho (by decide)
      have f0 : w1.cell? ⟨g, 0, none⟩ = some (.int .i64 (-1)) := ho.cellAt 0 (by decide)
      have HB1 := Lib.hid hb1
      clear ho hb1 HF0
      go_wp2_with fail
      refine (HN.out _).mono ?_
      rintro e w2 ⟨rfl, hb2⟩
      have HB2 := Lib.hid (below_on HB1.out hb2)
      clear hb2 HB1 HN f0
      go_wp2_with fail
      refine (HA'.out _).mono ?_
      rintro e w3 ⟨A3, c3, rfl, ho3, hb3⟩
      have HR3 := Lib.hid (RdI.own ho3)
      have HB3 := Lib.hid (below_on HB2.out hb3)
      clear ho3 hb3 HB2 HA'
      go_wp2_with fail
      refine (HB'.out _).mono ?_
      rintro e w4 ⟨A4, c4, rfl, ho4, hb4⟩
      have HR3' := Lib.hid (HR3.out.on hb4)
      have HR4 := Lib.hid (RdI.own ho4)
      have HB4 := Lib.hid (below_on HB3.out hb4)
      clear ho4 hb4 HB3 HB' HR3
      go_wp2_with fail
      refine (HC.out _).mono ?_
      rintro e w5 ⟨rfl, hb5⟩
      have HR5 := Lib.hid (HR3'.out.on hb5)
      have HR6 := Lib.hid (HR4.out.on hb5)
      have HB5 := Lib.hid (below_on HB4.out hb5)
      clear hb5 HB4 HC HR3' HR4
      go_wp2_with fail
      refine (herr_yes 1 _ (HG.out.below HB5.out) (by omega)).mono ?_
      rintro e w6 ⟨rfl, hb6⟩
      have HR7 := Lib.hid (HR5.out.on hb6)
      have HR8 := Lib.hid (HR6.out.on hb6)
      have HB6 := Lib.hid (below_on HB5.out hb6)
      clear hb6 HB5 HR5 HR6
      rcases Nat.eq_zero_or_pos n with hn0 | hn0
      · subst hn0
        go_wp2_with fail
        go_ret
        exact ⟨rfl, HB6.out⟩
      · have hn1 : ((n : Int) == 0) = false := by simp; omega
        have hn2 : (0 : Int) < (n : Int) := by omega
        have he := hend.out (n - 1) (by omega)
        obtain ⟨b3, o3, rfl, _, hc3⟩ := HR7.out.at_ (k := 0) hn0
        obtain ⟨b4, o4, rfl, _, hc4⟩ := HR8.out.at_ (k := 0) hn0
        rw [he.1, Nat.add_zero] at hc3
        rw [he.2, Nat.add_zero] at hc4
        clear he hend
        go_wp2_with fail
        go_ret
        exact ⟨ret_true (by simp), HB6.out⟩
end Go.Proofs.YtfnbehjebmbbdaaDoor
