/- Walks: how many rows there are (chapter 5). -/
import Derived.Test.YtjdpgakkphdjlaaGreatDoorSound
import Derived.Test.YtjdpgakkphdjlaaGreatDoorMem
import Derived.Test.YtjdpgakkphdjlaaGreatDoorPhAll
import Derived.Test.YtjdpgakkphdjlaaGreatDoorShelf
import Derived.Outline
namespace Go.Proofs.YtjdpgakkphdjlaaGreatDoor
open Go.RowKit

/-- A row of the table: of n numbers and 0 to k pulses. -/
def cntL (n k : Nat) : List Int := (List.range (k + 1)).map fun j => (Ph.cnt n j : Int)
/-- The row that is being made: the first j are those of f, the rest are 0. -/
def part (f : Nat → Int) (k j : Nat) : List Int := (List.range k).map fun i => if i < j then f i else 0
theorem part_zero (f : Nat → Int) (k : Nat) : part f k 0 = List.replicate k 0 := by
  unfold part
  apply List.ext_getElem
  · simp
  · intro i h1 h2; simp
theorem part_all (f : Nat → Int) (k : Nat) : part f k k = (List.range k).map f := by
  unfold part
  apply List.map_congr_left
  intro i hi
  rw [if_pos (List.mem_range.1 hi)]
theorem part_set (f : Nat → Int) (k j : Nat) : (part f k j).set j (f j) = part f k (j + 1) := by
  unfold part
  apply List.ext_getElem
  · simp
  · intro i h1 h2
    simp only [List.getElem_set, List.getElem_map, List.getElem_range]
    by_cases e : j = i
    · subst e; simp
    · rw [if_neg e]
      by_cases h : i < j
      · rw [if_pos h, if_pos (by omega)]
      · rw [if_neg h, if_neg (by omega)]
theorem part_length (f : Nat → Int) (k j : Nat) : (part f k j).length = k := by simp [part]
theorem part_getD (f : Nat → Int) (k j i : Nat) (hi : i < k) : (part f k j).getD i 0 = if i < j then f i else 0 := by
  unfold part
  rw [Ph.getD_map_range _ _ _ hi]
theorem cntL_zero (k : Nat) : cntL 0 k = part (fun j => (Ph.cnt 0 j : Int)) (k + 1) 1 := by
  unfold cntL part
  apply List.map_congr_left
  intro i _
  by_cases h : i < 1
  · rw [if_pos h]
  · rw [if_neg h]
    obtain ⟨q, rfl⟩ : ∃ q, i = q + 1 := ⟨i - 1, by omega⟩
    rw [Ph.cnt_none]; rfl
theorem cntL_all (n k : Nat) : cntL n k = part (fun j => (Ph.cnt n j : Int)) (k + 1) (k + 1) := (part_all _ _).symm
theorem make_ints1 (k : Nat) (hk : k ≤ 1000000) (W : World) : (Instr.makeSlice 49 (.int .i64 ((k : Int) + 1)) (.int .i64 ((k : Int) + 1))).run Tryz.prog W = .ok (.slice (some ⟨W.heap.size, 0, none⟩) (k + 1) (k + 1)) (W.alloc (.cells (madeCells #[.int .i64 0] (k + 1)) 3)) := by
  have := make_ints (k + 1) (by omega) W
  simpa using this
theorem made_own (W : World) (k : Nat) (hk : k ≤ 1000000) : (W.alloc (.cells (madeCells #[.int .i64 0] k) 3)).ownsRow W.heap.size 3 1 (.slice (some ⟨W.heap.size, 0, none⟩) k k) k (ivals (List.replicate k 0)) := by
  have := World.ownsRow_lit (base := W.heap.size) (e := 3) (size := 1) W (madeCells #[.int .i64 0] k) k (Nat.le_refl _) (by unfold maxLen; omega) (by rw [size_madeCells, Nat.mul_one])
  rw [toList_madeCells_one] at this
  rw [show ivals (List.replicate k 0) = List.replicate k (.int .i64 0) by simp [ivals]]
  exact this
theorem numbers_any (n : Int) (w : World) : Calls Tryz.prog 60 #[.int .i64 n] w fun e w' => e = .returned (.bool (decide (0 ≤ n) && decide (n ≤ 6))) ∧ w = w' := by
  by_cases h1 : 0 ≤ n <;> by_cases h2 : n ≤ 6
  all_goals go_enter Tryz.func60, Tryz.ntmps60
  all_goals go_wp2
  all_goals go_ret
  all_goals exact ⟨ret_bool (by simp; try omega), rfl⟩
theorem pulses_any (n : Int) (w : World) : Calls Tryz.prog 61 #[.int .i64 n] w fun e w' => e = .returned (.bool (decide (0 ≤ n) && decide (n ≤ 8))) ∧ w = w' := by
  by_cases h1 : 0 ≤ n <;> by_cases h2 : n ≤ 8
  all_goals go_enter Tryz.func61, Tryz.ntmps61
  all_goals go_wp2
  all_goals go_ret
  all_goals exact ⟨ret_bool (by simp; try omega), rfl⟩
theorem made_own1 (W : World) (k : Nat) (hk : k ≤ 1000000) (f : Nat → Int) (x : Int) (hx : f 0 = x) : (W.alloc (.cells ((madeCells #[.int .i64 0] (k + 1)).setIfInBounds 0 (.int .i64 x)) 3)).ownsRow W.heap.size 3 1 (.slice (some ⟨W.heap.size, 0, none⟩) (k + 1) (k + 1)) (k + 1) (ivals (part f (k + 1) 1)) := by
  have := World.ownsRow_lit (base := W.heap.size) (e := 3) (size := 1) W ((madeCells #[.int .i64 0] (k + 1)).setIfInBounds 0 (.int .i64 x)) (k + 1) (Nat.le_refl _) (by unfold maxLen; omega) (by rw [Array.size_setIfInBounds, size_madeCells, Nat.mul_one])
  rw [Array.toList_setIfInBounds, toList_madeCells_one] at this
  rw [← part_set f (k + 1) 0, part_zero, ← ivals_set, hx, show ivals (List.replicate (k + 1) 0) = List.replicate (k + 1) (.int .i64 0) by simp [ivals]]
  exact this
theorem made_cell0 (k : Nat) : (madeCells #[Value.int .i64 0] (k + 1))[0]? = some (.int .i64 0) := by
  rw [← Array.getElem?_toList, toList_madeCells_one]; rfl
theorem cnt_bd (n k : Nat) (hn : n ≤ 6) (hk : k ≤ 8) : 0 ≤ (Ph.cnt n k : Int) ∧ (Ph.cnt n k : Int) ≤ 100000 := by
  have := Ph.cnt_le n k hn hk
  omega
set_option maxHeartbeats 1000000 in
theorem cAll_any (n k : Nat) (w : World) (hn : n ≤ 6) (hk : k ≤ 8) :
    Calls Tryz.prog 62 #[.int .i64 n, .int .i64 k] w fun e w' => e = .returned (.int .i64 (Ph.cnt n k : Nat)) ∧ Below w.heap.size w w' := by
  have hmk := make_ints1 k (by omega)
  have hm0 := made_cell0 k
  have hown0 := Lib.hid (made_own1 w k (by omega) (fun j => (Ph.cnt 0 j : Int)) 1 rfl)
  go_enter Tryz.func62, Tryz.ntmps62
  go_wp2_with fail
  go_loopw [5, 14] (fun v i wr => ∃ (m g : Nat), m ≤ n ∧ i = .int .i64 m ∧ v = .slice (some ⟨g, 0, none⟩) (k + 1) (k + 1) ∧ wr.ownsRow w.heap.size 3 1 (.slice (some ⟨g, 0, none⟩) (k + 1) (k + 1)) (k + 1) (ivals (cntL m k)) ∧ Below w.heap.size w wr) (fun _ i _ => n - (intOf i).toNat)
  case atStart => exact ⟨0, w.heap.size, by omega, rfl, rfl, by rw [cntL_zero]; exact hown0.out, (Below.refl _ _).alloc (Nat.le_refl _) _⟩
  case round =>
    obtain ⟨m, g, hm, rfl, rfl, hown, hbw⟩ := hrel
    have HO := Lib.hid hown
    have HBW := Lib.hid hbw
    clear hown hbw hown0
    by_cases hlt : m < n
    · go_wp2_with fail
      rename World => wa
      have hown1 := Lib.hid (made_own1 wa k (by omega) (fun j => (Ph.cnt (m + 1) j : Int)) 1 (by simp [Ph.cnt_zero]))
      go_loopw [7] (fun i wr2 => ∃ j : Nat, 1 ≤ j ∧ j ≤ k + 1 ∧ i = .int .i64 j ∧ wr2.ownsRow wa.heap.size 3 1 (.slice (some ⟨wa.heap.size, 0, none⟩) (k + 1) (k + 1)) (k + 1) (ivals (part (fun j => (Ph.cnt (m + 1) j : Int)) (k + 1) j)) ∧ Below wa.heap.size wa wr2) (fun i _ => k + 1 - (intOf i).toNat)
      case atStart => exact ⟨1, by omega, by omega, rfl, hown1.out, (Below.refl _ _).alloc (Nat.le_refl _) _⟩
      case round =>
        obtain ⟨j, hj0, hj, rfl, hown2, hbw2⟩ := hrel
        have HO2 := Lib.hid hown2
        have HB2 := Lib.hid hbw2
        clear hown2 hbw2 hown1
        by_cases hjk : j ≤ k
        · obtain ⟨q, rfl⟩ : ∃ q, j = q + 1 := ⟨j - 1, by omega⟩
          obtain ⟨X, hX⟩ : ∃ X, X = (Ph.cnt m (q + 1) : Int) := ⟨_, rfl⟩
          obtain ⟨Y, hY⟩ : ∃ Y, Y = (Ph.cnt (m + 1) q : Int) := ⟨_, rfl⟩
          obtain ⟨Z, hZ⟩ : ∃ Z, Z = (Ph.cnt m q : Int) := ⟨_, rfl⟩
          have hXb := cnt_bd m (q + 1) (by omega) (by omega)
          have hYb := cnt_bd (m + 1) q (by omega) (by omega)
          have hZb := cnt_bd m q (by omega) (by omega)
          have hgb := HO.out.lt g rfl
          have hlen : (cntL m k).length = k + 1 := by simp [cntL]
          have c1 : wr.cell? ⟨g, q + 1, none⟩ = some (.int .i64 X) := by
            rw [HB2.out.cell (by show g < _; omega), HO.out.cellAt (q + 1) (by omega), ivals_get (by omega), hX]
            unfold cntL; rw [Ph.getD_map_range _ _ _ (by omega)]
          have c2 : wr.cell? ⟨g, q, none⟩ = some (.int .i64 Z) := by
            rw [HB2.out.cell (by show g < _; omega), HO.out.cellAt q (by omega), ivals_get (by omega), hZ]
            unfold cntL; rw [Ph.getD_map_range _ _ _ (by omega)]
          have c3 : wr.cell? ⟨wa.heap.size, q, none⟩ = some (.int .i64 Y) := by
            rw [HO2.out.cellAt q (by omega), ivals_get (by rw [part_length]; omega), part_getD _ _ _ _ (by omega), if_pos (by omega), hY]
          have c4 : wr.cell? ⟨wa.heap.size, q + 1, none⟩ = some (.int .i64 0) := by
            rw [HO2.out.cellAt (q + 1) (by omega), ivals_get (by rw [part_length]; omega), part_getD _ _ _ _ (by omega), if_neg (by omega)]
          have f4 : wr.frozen? ⟨wa.heap.size, q + 1, none⟩ = false := HO2.out.frozenAt (q + 1)
          rw [← hX] at hXb
          rw [← hY] at hYb
          rw [← hZ] at hZb
          have k1 : IntKind.i64.wrap (X + Y) = X + Y := IntWalk.i64_in _ (by omega)
          have k2 : IntKind.i64.wrap (X + Y + Z) = X + Y + Z := IntWalk.i64_in _ (by omega)
          have k3 : IntKind.i64.wrap (((q + 1 : Nat) : Int) - 1) = (q : Int) := by rw [show ((q + 1 : Nat) : Int) - 1 = (q : Int) by omega]; exact IntWalk.i64_in _ (by omega)
          have k4 : IntKind.i64.wrap ((q : Int) + 1 - 1) = (q : Int) := by rw [show (q : Int) + 1 - 1 = (q : Int) by omega]; exact IntWalk.i64_in _ (by omega)
          have HX := Lib.hid hX
          have HY := Lib.hid hY
          have HZ := Lib.hid hZ
          clear hX hY hZ hgb hlen
          have hqk : (q : Int) + 1 < (k : Int) + 1 := by omega
          have hqk2 : (q : Int) < (k : Int) + 1 := by omega
          have hq0 : (0 : Int) ≤ (q : Int) + 1 := by omega
          have hq1 : ((q : Int) + 1).toNat = q + 1 := by omega
          go_wp2_with fail
          go_region
          all_goals go_wp2_with fail
          all_goals go_roundw
          all_goals first
            | (simp [intOf]; omega)
            | (refine ⟨q + 2, by omega, by omega, by go_num, ?_, ?_⟩
               · have hs := (HO2.out.stored (q + 1) (.int .i64 (X + Y + Z))).1
                 have e : X + Y + Z = ((Ph.cnt (m + 1) (q + 1) : Nat) : Int) := by rw [HX.out, HY.out, HZ.out, Ph.cnt_succ]; omega
                 rw [ivals_set, e, part_set (fun j => (Ph.cnt (m + 1) j : Int))] at hs
                 rw [e]
                 exact own_drew hs
               · exact below_same (HB2.out.setCell (p := ⟨wa.heap.size, q + 1, none⟩) (Nat.le_refl _) (.int .i64 (X + Y + Z))) rfl rfl rfl rfl)
        · obtain rfl : j = k + 1 := by omega
          go_wp2_with fail
          go_roundw
          case rel => exact ⟨m + 1, wa.heap.size, by omega, by go_num, rfl, own_more (by rw [cntL_all]; exact HO2.out) HBW.out.size, HBW.out.trans (HB2.out.mono HBW.out.size)⟩
          case measure => simp [intOf]; omega
    · obtain rfl : m = n := by omega
      have c1 : wr.cell? ⟨g, k, none⟩ = some (.int .i64 (Ph.cnt m k : Nat)) := by
        rw [HO.out.cellAt k (by omega), ivals_get (by simp [cntL])]
        unfold cntL; rw [Ph.getD_map_range _ _ _ (by omega)]
      go_wp2_with fail
      go_ret
      exact ⟨rfl, HBW.out⟩
end Go.Proofs.YtjdpgakkphdjlaaGreatDoor
/- Walks: how many rows there are, asked; and how many bits they need (chapter 5). -/
namespace Go.Proofs.YtjdpgakkphdjlaaGreatDoor
open Go.RowKit

theorem bitLen_log {n : Nat} (h0 : n ≠ 0) (h : n < 2 ^ 64) : Lib.bitLen n = Nat.log2 n + 1 := by
  have h1 : 2 ^ Nat.log2 n ≤ n := (Nat.le_log2 h0).1 (Nat.le_refl _)
  have h2 : n < 2 ^ (Nat.log2 n + 1) := (Nat.log2_lt h0).1 (Nat.lt_succ_self _)
  rw [Lib.bitLen_shift (Nat.log2 n) n h1 h]
  have h3 : n / 2 ^ Nat.log2 n = 1 := by
    apply Nat.div_eq_of_lt_le
    · rw [Nat.one_mul]; exact h1
    · rw [Nat.pow_succ] at h2; omega
  rw [h3]; rfl
theorem bitLen_zero : Lib.bitLen 0 = 0 := by decide
theorem bitLen_bits (m : Nat) (h : m ≤ 100000) : Lib.bitLen (m - 1) = Ph.bitsOf m := by
  unfold Ph.bitsOf
  split
  · have : m - 1 = 0 := by omega
    rw [this]; rfl
  · exact bitLen_log (by omega) (by omega)
theorem cOf_ok (n k : Nat) (w : World) (hn : n ≤ 6) (hk : k ≤ 8) :
    Calls Tryz.prog 44 #[.int .i64 n, .int .i64 k] w fun e w' => e = .returned (.tuple #[.int .i64 (Ph.cnt n k : Nat), .nilIface]) ∧ Below w.heap.size w w' := by
  have b1 : (decide ((0 : Int) ≤ (n : Int)) && decide ((n : Int) ≤ 6)) = true := by simp; omega
  have b2 : (decide ((0 : Int) ≤ (k : Int)) && decide ((k : Int) ≤ 8)) = true := by simp; omega
  have c1 : ∀ W, Calls Tryz.prog 60 #[.int .i64 n] W fun e w' => e = .returned (.bool true) ∧ W = w' := fun W => by rw [← b1]; exact numbers_any _ W
  have c2 : ∀ W, Calls Tryz.prog 61 #[.int .i64 k] W fun e w' => e = .returned (.bool true) ∧ W = w' := fun W => by rw [← b2]; exact pulses_any _ W
  have C1 := Lib.hid c1
  have C2 := Lib.hid c2
  clear b1 b2 c1 c2
  go_enter Tryz.func44, Tryz.ntmps44
  go_wp2_with (first | (go_at_call 60; refine (C1.out _).mono ?_; rintro e w' ⟨rfl, rfl⟩) | (go_at_call 61; refine (C2.out _).mono ?_; rintro e w' ⟨rfl, rfl⟩) | (go_at_call 62; refine (cAll_any n k _ hn hk).mono ?_; rintro e w1 ⟨rfl, hb1⟩))
  go_ret2
  exact ⟨rfl, hb1⟩
/-- Which may be counted. -/
def cntOk (n k : Int) : Bool := (decide (0 ≤ n) && decide (n ≤ 6)) && (decide (0 ≤ k) && decide (k ≤ 8))
theorem cOf_no (n k : Int) (w : World) (h : cntOk n k = false) :
    Calls Tryz.prog 44 #[.int .i64 n, .int .i64 k] w fun e w' => e = .returned (.tuple #[.int .i64 0, .iface 69 (.int .i64 1)]) ∧ w = w' := by
  unfold cntOk at h
  cases b1 : (decide (0 ≤ n) && decide (n ≤ 6))
  · have c1 : ∀ W, Calls Tryz.prog 60 #[.int .i64 n] W fun e w' => e = .returned (.bool false) ∧ W = w' := fun W => by rw [← b1]; exact numbers_any _ W
    have C1 := Lib.hid c1
    clear b1 c1 h
    go_enter Tryz.func44, Tryz.ntmps44
    go_wp2_with (go_at_call 60; refine (C1.out _).mono ?_; rintro e w' ⟨rfl, rfl⟩)
    go_ret2
    exact ⟨rfl, rfl⟩
  · have b2 : (decide (0 ≤ k) && decide (k ≤ 8)) = false := by rw [b1] at h; simpa using h
    have c1 : ∀ W, Calls Tryz.prog 60 #[.int .i64 n] W fun e w' => e = .returned (.bool true) ∧ W = w' := fun W => by rw [← b1]; exact numbers_any _ W
    have c2 : ∀ W, Calls Tryz.prog 61 #[.int .i64 k] W fun e w' => e = .returned (.bool false) ∧ W = w' := fun W => by rw [← b2]; exact pulses_any _ W
    have C1 := Lib.hid c1
    have C2 := Lib.hid c2
    clear b1 b2 c1 c2 h
    go_enter Tryz.func44, Tryz.ntmps44
    go_wp2_with (first | (go_at_call 60; refine (C1.out _).mono ?_; rintro e w' ⟨rfl, rfl⟩) | (go_at_call 61; refine (C2.out _).mono ?_; rintro e w' ⟨rfl, rfl⟩))
    go_ret2
    exact ⟨rfl, rfl⟩
/-- Whatever is asked. -/
theorem cntOk_iff {n k : Int} : cntOk n k = true ↔ (0 ≤ n ∧ n ≤ 6) ∧ (0 ≤ k ∧ k ≤ 8) := by unfold cntOk; simp
end Go.Proofs.YtjdpgakkphdjlaaGreatDoor
