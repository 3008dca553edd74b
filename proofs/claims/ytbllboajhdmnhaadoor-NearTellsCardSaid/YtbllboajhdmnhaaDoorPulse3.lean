/- Walks: the row of a rank, asked (chapter 6). -/
import Derived.Test.YtbllboajhdmnhaaDoorPulse2
namespace Go.Proofs.YtbllboajhdmnhaaDoor
open Go.RowKit

/-- Is there such a rank? -/
def ofOk (n k r : Int) : Bool := cntOk n k && (decide (0 ≤ r) && decide (r < (Ph.cnt n.toNat k.toNat : Nat)))
theorem ofOk_iff {n k r : Int} : ofOk n k r = true ↔ ((0 ≤ n ∧ n ≤ 6) ∧ (0 ≤ k ∧ k ≤ 8)) ∧ 0 ≤ r ∧ r < (Ph.cnt n.toNat k.toNat : Nat) := by unfold ofOk cntOk; simp
theorem pOf_ok (n k r : Nat) (w : World) (hn : n ≤ 6) (hk : k ≤ 8) (hr : r < Ph.cnt n k) :
    Calls Tryd.prog 22 #[.int .i64 n, .int .i64 k, .int .i64 r] w fun e w' => ∃ A c, e = .returned (.tuple #[.slice A n c, .nilIface]) ∧ w'.ownsRow w.heap.size 3 1 (.slice A n c) n (ivals (Ph.rowOf n k r)) ∧ Below w.heap.size w w' := by
  have b1 : (decide ((0 : Int) ≤ (n : Int)) && decide ((n : Int) ≤ 6)) = true := by simp; omega
  have b2 : (decide ((0 : Int) ≤ (k : Int)) && decide ((k : Int) ≤ 8)) = true := by simp; omega
  have c1 : ∀ W, Calls Tryd.prog 79 #[.int .i64 n] W fun e w' => e = .returned (.bool true) ∧ W = w' := fun W => by rw [← b1]; exact numbers_any _ W
  have c2 : ∀ W, Calls Tryd.prog 80 #[.int .i64 k] W fun e w' => e = .returned (.bool true) ∧ W = w' := fun W => by rw [← b2]; exact pulses_any _ W
  have C1 := Lib.hid c1
  have C2 := Lib.hid c2
  have C3 := Lib.hid fun W => cAll_any n k W hn hk
  have C4 := Lib.hid fun W => at_any n k r W hn hk hr
  obtain ⟨C, hC⟩ : ∃ C, C = Ph.cnt n k := ⟨_, rfl⟩
  rw [← hC] at hr C3
  have hr' : (r : Int) < (C : Int) := by omega
  clear b1 b2 c1 c2 hC
  go_enter Tryd.func22, Tryd.ntmps22
  go_wp2_with fail
  refine (C1.out _).mono ?_
  rintro e w1 ⟨rfl, rfl⟩
  go_wp2_with fail
  refine (C2.out _).mono ?_
  rintro e w1 ⟨rfl, rfl⟩
  go_wp2_with fail
  refine (C3.out _).mono ?_
  rintro e w1 ⟨rfl, hb1⟩
  have HB1 := Lib.hid hb1
  clear hb1
  go_wp2_with fail
  refine (C4.out _).mono ?_
  rintro e w2 ⟨A, c, rfl, ho, hb2⟩
  have HO := Lib.hid ho
  have HB2 := Lib.hid (below_on HB1.out hb2)
  clear ho hb2
  go_wp2_with fail
  go_ret2
  exact ⟨A, c, rfl, own_more HO.out HB1.out.size, HB2.out⟩
theorem pOf_no (n k r : Int) (w : World) (h : ofOk n k r = false) :
    Calls Tryd.prog 22 #[.int .i64 n, .int .i64 k, .int .i64 r] w fun e w' => e = .returned (.tuple #[.slice none 0 0, errV 1]) ∧ Below w.heap.size w w' := by
  have he : errV 1 = .iface 80 (.int .i64 1) := errV_ne (by omega)
  rw [he]
  clear he
  unfold ofOk cntOk at h
  cases b1 : (decide (0 ≤ n) && decide (n ≤ 6))
  · have c1 : ∀ W, Calls Tryd.prog 79 #[.int .i64 n] W fun e w' => e = .returned (.bool false) ∧ W = w' := fun W => by rw [← b1]; exact numbers_any _ W
    have C1 := Lib.hid c1
    clear b1 c1 h
    go_enter Tryd.func22, Tryd.ntmps22
    go_wp2_with fail
    refine (C1.out _).mono ?_
    rintro e w1 ⟨rfl, rfl⟩
    go_wp2_with fail
    go_ret2
    exact ⟨rfl, Below.refl _ _⟩
  · have c1 : ∀ W, Calls Tryd.prog 79 #[.int .i64 n] W fun e w' => e = .returned (.bool true) ∧ W = w' := fun W => by rw [← b1]; exact numbers_any _ W
    have C1 := Lib.hid c1
    cases b2 : (decide (0 ≤ k) && decide (k ≤ 8))
    · have c2 : ∀ W, Calls Tryd.prog 80 #[.int .i64 k] W fun e w' => e = .returned (.bool false) ∧ W = w' := fun W => by rw [← b2]; exact pulses_any _ W
      have C2 := Lib.hid c2
      clear b1 b2 c1 c2 h
      go_enter Tryd.func22, Tryd.ntmps22
      go_wp2_with fail
      refine (C1.out _).mono ?_
      rintro e w1 ⟨rfl, rfl⟩
      go_wp2_with fail
      refine (C2.out _).mono ?_
      rintro e w1 ⟨rfl, rfl⟩
      go_wp2_with fail
      go_ret2
      exact ⟨rfl, Below.refl _ _⟩
    · have c2 : ∀ W, Calls Tryd.prog 80 #[.int .i64 k] W fun e w' => e = .returned (.bool true) ∧ W = w' := fun W => by rw [← b2]; exact pulses_any _ W
      have C2 := Lib.hid c2
      have q1 : (0 ≤ n ∧ n ≤ 6) ∧ (0 ≤ k ∧ k ≤ 8) := by simp at b1 b2; omega
      have hr : r < 0 ∨ (¬ r < 0 ∧ (Ph.cnt n.toNat k.toNat : Int) ≤ r) := by
        rw [b1, b2] at h
        simp at h
        omega
      have C3 : Hid (∀ W, Calls Tryd.prog 81 #[.int .i64 n, .int .i64 k] W fun e w' => e = .returned (.int .i64 (Ph.cnt n.toNat k.toNat : Nat)) ∧ Below W.heap.size W w') := Lib.hid fun W => by
        have := cAll_any n.toNat k.toNat W (by omega) (by omega)
        rw [Int.toNat_of_nonneg q1.1.1, Int.toNat_of_nonneg q1.2.1] at this
        exact this
      obtain ⟨C, hC⟩ : ∃ C, C = Ph.cnt n.toNat k.toNat := ⟨_, rfl⟩
      rw [← hC] at hr C3
      clear b1 b2 c1 c2 h hC
      rcases hr with hr | ⟨hr, hr2⟩
      · go_enter Tryd.func22, Tryd.ntmps22
        go_wp2_with fail
        refine (C1.out _).mono ?_
        rintro e w1 ⟨rfl, rfl⟩
        go_wp2_with fail
        refine (C2.out _).mono ?_
        rintro e w1 ⟨rfl, rfl⟩
        go_wp2_with fail
        go_ret2
        exact ⟨rfl, Below.refl _ _⟩
      · go_enter Tryd.func22, Tryd.ntmps22
        go_wp2_with fail
        refine (C1.out _).mono ?_
        rintro e w1 ⟨rfl, rfl⟩
        go_wp2_with fail
        refine (C2.out _).mono ?_
        rintro e w1 ⟨rfl, rfl⟩
        go_wp2_with fail
        refine (C3.out _).mono ?_
        rintro e w1 ⟨rfl, hb1⟩
        have HB1 := Lib.hid hb1
        clear hb1
        go_wp2_with fail
        go_ret2
        exact ⟨rfl, HB1.out⟩
end Go.Proofs.YtbllboajhdmnhaaDoor
