/- Walks: the reference of a tank; a tank's turn told, whatever comes (chapter 15). -/
import Derived.Test.YtjdpgakkphdjlaaGreatDoorTank4
namespace Go.Proofs.YtjdpgakkphdjlaaGreatDoor
open Go.RowKit

theorem rtank_any (s e h : Int) (w : World) : Calls Tryz.prog 38 #[tankV s e h] w fun r w' => r = .returned (.int .i64 (Ph.tankErr ⟨s, e, h⟩)) ∧ Below w.heap.size w w' := by
  unfold tankV
  have hh : (Ph.tankErr ⟨s, e, h⟩ = 1 ∧ (s < 0 ∨ (¬ s < 0 ∧ 1000000 < s) ∨ (¬ s < 0 ∧ ¬ 1000000 < s ∧ e < 0) ∨ (¬ s < 0 ∧ ¬ 1000000 < s ∧ ¬ e < 0 ∧ s < e) ∨ (¬ s < 0 ∧ ¬ 1000000 < s ∧ ¬ e < 0 ∧ ¬ s < e ∧ h < 0) ∨ (¬ s < 0 ∧ ¬ 1000000 < s ∧ ¬ e < 0 ∧ ¬ s < e ∧ ¬ h < 0 ∧ s < h))) ∨ (Ph.tankErr ⟨s, e, h⟩ = 0 ∧ ¬ s < 0 ∧ ¬ 1000000 < s ∧ ¬ e < 0 ∧ ¬ s < e ∧ ¬ h < 0 ∧ ¬ s < h) := by
    by_cases hz : Ph.tankErr ⟨s, e, h⟩ = 0
    · have := Ph.tankErr_zero.1 hz
      simp only at this
      exact .inr ⟨hz, by omega⟩
    · have := tank_bad hz
      exact .inl ⟨(tankErr_two _).resolve_left hz, by omega⟩
  obtain ⟨E, hE⟩ : ∃ E, E = Ph.tankErr ⟨s, e, h⟩ := ⟨_, rfl⟩
  rw [← hE] at hh ⊢
  clear hE
  rcases hh with ⟨rfl, a1 | ⟨a1, a2⟩ | ⟨a1, a2, a3⟩ | ⟨a1, a2, a3, a4⟩ | ⟨a1, a2, a3, a4, a5⟩ | ⟨a1, a2, a3, a4, a5, a6⟩⟩ | ⟨rfl, a1, a2, a3, a4, a5, a6⟩
  all_goals
    go_enter Tryz.func38, Tryz.ntmps38
    go_wp2_with fail
    go_ret
    exact ⟨rfl, below_alloc0 _ _⟩
theorem rmay_any (s e h : Int) (w : World) (h1 : 0 ≤ s ∧ s ≤ 1000000) (h2 : 0 ≤ e ∧ e ≤ s) (h3 : 0 ≤ h ∧ h ≤ s) :
    Calls Tryz.prog 28 #[tankV s e h] w fun r w' => r = .returned (.int .i64 (Ph.full ⟨s, e, h⟩)) ∧ Below w.heap.size w w' := by
  unfold tankV Ph.full
  rcases Int.lt_or_le s (h + e) with hc | hc
  · rw [if_neg (by simp only; omega)]
    go_enter Tryz.func28, Tryz.ntmps28
    go_wp2_with fail
    go_ret
    exact ⟨rfl, below_alloc0 _ _⟩
  · have hc' : ¬ s < h + e := by omega
    have hv : (if (Ph.Tank.mk s e h).has + (Ph.Tank.mk s e h).each < (Ph.Tank.mk s e h).size then (Ph.Tank.mk s e h).has + (Ph.Tank.mk s e h).each else (Ph.Tank.mk s e h).size) = h + e := by simp only; split <;> omega
    rw [hv]
    clear hv
    go_enter Tryz.func28, Tryz.ntmps28
    go_wp2_with fail
    go_ret
    exact ⟨rfl, below_alloc0 _ _⟩
/-- What stays of a result, if nothing is wrong. -/
def kept (k x : Int) : Int := if k = 0 then x else 0
theorem kept_zero (x : Int) : kept 0 x = x := if_pos rfl
theorem kept_ne {k : Int} (h : k ≠ 0) (x : Int) : kept k x = 0 := if_neg h
theorem turn_cases {s e h b : Int} (h0 : Ph.turnErr ⟨s, e, h⟩ b ≠ 0) (ht : Ph.tankErr ⟨s, e, h⟩ = 0) :
    (Ph.turnErr ⟨s, e, h⟩ b = 1 ∧ (b < 0 ∨ (¬ b < 0 ∧ 1000000 < b))) ∨ (Ph.turnErr ⟨s, e, h⟩ b = 8 ∧ ¬ b < 0 ∧ ¬ 1000000 < b ∧ Ph.full ⟨s, e, h⟩ < b) := by
  unfold Ph.turnErr at h0 ⊢
  rw [if_neg (by rw [ht]; omega)] at h0 ⊢
  by_cases hb : b < 0 ∨ 1000000 < b
  · left; rw [if_pos hb]; exact ⟨rfl, by omega⟩
  · rw [if_neg hb] at h0 ⊢
    right
    by_cases hf : Ph.full ⟨s, e, h⟩ < b
    · rw [if_pos hf]; exact ⟨rfl, by omega, by omega, hf⟩
    · rw [if_neg hf] at h0; exact absurd rfl h0
theorem rturn_ok (s e h b : Int) (w : World) (h1 : 0 ≤ s ∧ s ≤ 1000000) (h2 : 0 ≤ e ∧ e ≤ s) (h3 : 0 ≤ h ∧ h ≤ s) (hb : 0 ≤ b ∧ b ≤ 1000000) (hf : b ≤ Ph.full ⟨s, e, h⟩) (ht : Ph.tankErr ⟨s, e, h⟩ = 0) :
    Calls Tryz.prog 27 #[tankV s e h, .int .i64 b] w fun r w' => r = .returned (.tuple #[tankV s e (Ph.full ⟨s, e, h⟩ - b), .int .i64 0]) ∧ Below w.heap.size w w' := by
  have HC := Lib.hid fun W => rtank_any s e h W
  have HM := Lib.hid fun W => rmay_any s e h W h1 h2 h3
  have hfb : 0 ≤ Ph.full ⟨s, e, h⟩ ∧ Ph.full ⟨s, e, h⟩ ≤ 1000000 := by unfold Ph.full; simp only; split <;> omega
  rw [ht] at HC
  obtain ⟨F, hF⟩ : ∃ F, F = Ph.full ⟨s, e, h⟩ := ⟨_, rfl⟩
  rw [← hF] at HM hf hfb ⊢
  clear hF ht
  unfold tankV at HC HM ⊢
  go_enter Tryz.func27, Tryz.ntmps27
  go_wp2_with fail
  refine (HC.out _).mono ?_
  rintro r w1 ⟨rfl, hb1⟩
  have c0 : w1.cell? ⟨w.heap.size, 0, none⟩ = some (.int .i64 s) := (hb1.cell (p := ⟨w.heap.size, 0, none⟩) (by simp; omega)).trans (by simp)
  have c1 : w1.cell? ⟨w.heap.size, 1, none⟩ = some (.int .i64 e) := (hb1.cell (p := ⟨w.heap.size, 1, none⟩) (by simp; omega)).trans (by simp)
  have c2 : w1.cell? ⟨w.heap.size, 2, none⟩ = some (.int .i64 h) := (hb1.cell (p := ⟨w.heap.size, 2, none⟩) (by simp; omega)).trans (by simp)
  have d0 : w1.cell? ⟨w.heap.size + 1, 0, none⟩ = some (.int .i64 0) := (hb1.cell (p := ⟨w.heap.size + 1, 0, none⟩) (by simp)).trans (by simp)
  have d1 : w1.cell? ⟨w.heap.size + 1, 1, none⟩ = some (.int .i64 0) := (hb1.cell (p := ⟨w.heap.size + 1, 1, none⟩) (by simp)).trans (by simp)
  have d2 : w1.cell? ⟨w.heap.size + 1, 2, none⟩ = some (.int .i64 0) := (hb1.cell (p := ⟨w.heap.size + 1, 2, none⟩) (by simp)).trans (by simp)
  have f2 : w1.frozen? ⟨w.heap.size, 2, none⟩ = false := (hb1.frozen (p := ⟨w.heap.size, 2, none⟩) (by simp; omega)).trans (by simp)
  have e0 : w1.frozen? ⟨w.heap.size + 1, 0, none⟩ = false := (hb1.frozen (p := ⟨w.heap.size + 1, 0, none⟩) (by simp)).trans (by simp)
  have e1 : w1.frozen? ⟨w.heap.size + 1, 1, none⟩ = false := (hb1.frozen (p := ⟨w.heap.size + 1, 1, none⟩) (by simp)).trans (by simp)
  have e2 : w1.frozen? ⟨w.heap.size + 1, 2, none⟩ = false := (hb1.frozen (p := ⟨w.heap.size + 1, 2, none⟩) (by simp)).trans (by simp)
  have hsz : w.heap.size + 1 < w1.heap.size := by have := hb1.size; simp at this; omega
  have HB1 := Lib.hid (((below_alloc0 w _).alloc (by simp) _).trans (hb1.mono (by simp; omega)))
  clear hb1
  go_wp2_with fail
  refine (HM.out _).mono ?_
  rintro r w2 ⟨rfl, hb2⟩
  replace c0 := (hb2.cell (p := ⟨w.heap.size, 0, none⟩) (by simp; omega)).trans c0
  replace c1 := (hb2.cell (p := ⟨w.heap.size, 1, none⟩) (by simp; omega)).trans c1
  replace c2 := (hb2.cell (p := ⟨w.heap.size, 2, none⟩) (by simp; omega)).trans c2
  replace d0 := (hb2.cell (p := ⟨w.heap.size + 1, 0, none⟩) (by simp; omega)).trans d0
  replace d1 := (hb2.cell (p := ⟨w.heap.size + 1, 1, none⟩) (by simp; omega)).trans d1
  replace d2 := (hb2.cell (p := ⟨w.heap.size + 1, 2, none⟩) (by simp; omega)).trans d2
  replace f2 := (hb2.frozen (p := ⟨w.heap.size, 2, none⟩) (by simp; omega)).trans f2
  replace e0 := (hb2.frozen (p := ⟨w.heap.size + 1, 0, none⟩) (by simp; omega)).trans e0
  replace e1 := (hb2.frozen (p := ⟨w.heap.size + 1, 1, none⟩) (by simp; omega)).trans e1
  replace e2 := (hb2.frozen (p := ⟨w.heap.size + 1, 2, none⟩) (by simp; omega)).trans e2
  have hsz2 : w.heap.size + 1 < w2.heap.size := by have := hb2.size; omega
  have HB2 := Lib.hid (below_on HB1.out hb2)
  clear hb2 HB1 hsz
  go_wp2_with fail
  exact bodyPost_ret (v := .tuple #[.agg #[.int .i64 s, .int .i64 e, .int .i64 (F - b)], .int .i64 0]) (by simp [results, Tryz.results27, go_sem, d0, d1, d2]) rfl ⟨rfl, by first | exact ((((HB2.out.setCell (by simp) _).setCell (by simp) _).setCell (by simp) _).setCell (by simp) _) | exact HB2.out | exact (HB2.out.setCell (by simp) _) | exact ((HB2.out.setCell (by simp) _).setCell (by simp) _) | exact (((HB2.out.setCell (by simp) _).setCell (by simp) _).setCell (by simp) _)⟩
theorem rturn_bad (s e h b : Int) (w : World) (ht : Ph.tankErr ⟨s, e, h⟩ = 1) :
    Calls Tryz.prog 27 #[tankV s e h, .int .i64 b] w fun r w' => r = .returned (.tuple #[tankV 0 0 0, .int .i64 1]) ∧ Below w.heap.size w w' := by
  have HC := Lib.hid fun W => rtank_any s e h W
  rw [ht] at HC
  clear ht
  unfold tankV at HC ⊢
  go_enter Tryz.func27, Tryz.ntmps27
  go_wp2_with fail
  refine (HC.out _).mono ?_
  rintro r w1 ⟨rfl, hb1⟩
  have c0 : w1.cell? ⟨w.heap.size, 0, none⟩ = some (.int .i64 s) := (hb1.cell (p := ⟨w.heap.size, 0, none⟩) (by simp; omega)).trans (by simp)
  have c1 : w1.cell? ⟨w.heap.size, 1, none⟩ = some (.int .i64 e) := (hb1.cell (p := ⟨w.heap.size, 1, none⟩) (by simp; omega)).trans (by simp)
  have c2 : w1.cell? ⟨w.heap.size, 2, none⟩ = some (.int .i64 h) := (hb1.cell (p := ⟨w.heap.size, 2, none⟩) (by simp; omega)).trans (by simp)
  have d0 : w1.cell? ⟨w.heap.size + 1, 0, none⟩ = some (.int .i64 0) := (hb1.cell (p := ⟨w.heap.size + 1, 0, none⟩) (by simp)).trans (by simp)
  have d1 : w1.cell? ⟨w.heap.size + 1, 1, none⟩ = some (.int .i64 0) := (hb1.cell (p := ⟨w.heap.size + 1, 1, none⟩) (by simp)).trans (by simp)
  have d2 : w1.cell? ⟨w.heap.size + 1, 2, none⟩ = some (.int .i64 0) := (hb1.cell (p := ⟨w.heap.size + 1, 2, none⟩) (by simp)).trans (by simp)
  have f2 : w1.frozen? ⟨w.heap.size, 2, none⟩ = false := (hb1.frozen (p := ⟨w.heap.size, 2, none⟩) (by simp; omega)).trans (by simp)
  have e0 : w1.frozen? ⟨w.heap.size + 1, 0, none⟩ = false := (hb1.frozen (p := ⟨w.heap.size + 1, 0, none⟩) (by simp)).trans (by simp)
  have e1 : w1.frozen? ⟨w.heap.size + 1, 1, none⟩ = false := (hb1.frozen (p := ⟨w.heap.size + 1, 1, none⟩) (by simp)).trans (by simp)
  have e2 : w1.frozen? ⟨w.heap.size + 1, 2, none⟩ = false := (hb1.frozen (p := ⟨w.heap.size + 1, 2, none⟩) (by simp)).trans (by simp)
  have hsz : w.heap.size + 1 < w1.heap.size := by have := hb1.size; simp at this; omega
  have HB1 := Lib.hid (((below_alloc0 w _).alloc (by simp) _).trans (hb1.mono (by simp; omega)))
  clear hb1
  go_wp2_with fail
  exact bodyPost_ret (v := .tuple #[.agg #[.int .i64 0, .int .i64 0, .int .i64 0], .int .i64 1]) (by simp [results, Tryz.results27, go_sem, d0, d1, d2]) rfl ⟨rfl, by first | exact (((HB1.out.setCell (by simp) _).setCell (by simp) _).setCell (by simp) _) | exact HB1.out | exact (HB1.out.setCell (by simp) _) | exact ((HB1.out.setCell (by simp) _).setCell (by simp) _) | exact ((((HB1.out.setCell (by simp) _).setCell (by simp) _).setCell (by simp) _).setCell (by simp) _)⟩
theorem rturn_off (s e h b : Int) (w : World) (ht : Ph.tankErr ⟨s, e, h⟩ = 0) (hb : b < 0 ∨ (¬ b < 0 ∧ 1000000 < b)) :
    Calls Tryz.prog 27 #[tankV s e h, .int .i64 b] w fun r w' => r = .returned (.tuple #[tankV 0 0 0, .int .i64 1]) ∧ Below w.heap.size w w' := by
  have HC := Lib.hid fun W => rtank_any s e h W
  rw [ht] at HC
  clear ht
  unfold tankV at HC ⊢
  rcases hb with f1 | ⟨f1, f2⟩
  all_goals
    go_enter Tryz.func27, Tryz.ntmps27
    go_wp2_with fail
    refine (HC.out _).mono ?_
    rintro r w1 ⟨rfl, hb1⟩
    have c0 : w1.cell? ⟨w.heap.size, 0, none⟩ = some (.int .i64 s) := (hb1.cell (p := ⟨w.heap.size, 0, none⟩) (by simp; omega)).trans (by simp)
    have c1 : w1.cell? ⟨w.heap.size, 1, none⟩ = some (.int .i64 e) := (hb1.cell (p := ⟨w.heap.size, 1, none⟩) (by simp; omega)).trans (by simp)
    have c2 : w1.cell? ⟨w.heap.size, 2, none⟩ = some (.int .i64 h) := (hb1.cell (p := ⟨w.heap.size, 2, none⟩) (by simp; omega)).trans (by simp)
    have d0 : w1.cell? ⟨w.heap.size + 1, 0, none⟩ = some (.int .i64 0) := (hb1.cell (p := ⟨w.heap.size + 1, 0, none⟩) (by simp)).trans (by simp)
    have d1 : w1.cell? ⟨w.heap.size + 1, 1, none⟩ = some (.int .i64 0) := (hb1.cell (p := ⟨w.heap.size + 1, 1, none⟩) (by simp)).trans (by simp)
    have d2 : w1.cell? ⟨w.heap.size + 1, 2, none⟩ = some (.int .i64 0) := (hb1.cell (p := ⟨w.heap.size + 1, 2, none⟩) (by simp)).trans (by simp)
    have f2 : w1.frozen? ⟨w.heap.size, 2, none⟩ = false := (hb1.frozen (p := ⟨w.heap.size, 2, none⟩) (by simp; omega)).trans (by simp)
    have e0 : w1.frozen? ⟨w.heap.size + 1, 0, none⟩ = false := (hb1.frozen (p := ⟨w.heap.size + 1, 0, none⟩) (by simp)).trans (by simp)
    have e1 : w1.frozen? ⟨w.heap.size + 1, 1, none⟩ = false := (hb1.frozen (p := ⟨w.heap.size + 1, 1, none⟩) (by simp)).trans (by simp)
    have e2 : w1.frozen? ⟨w.heap.size + 1, 2, none⟩ = false := (hb1.frozen (p := ⟨w.heap.size + 1, 2, none⟩) (by simp)).trans (by simp)
    have hsz : w.heap.size + 1 < w1.heap.size := by have := hb1.size; simp at this; omega
    have HB1 := Lib.hid (((below_alloc0 w _).alloc (by simp) _).trans (hb1.mono (by simp; omega)))
    clear hb1
    go_wp2_with fail
    exact bodyPost_ret (v := .tuple #[.agg #[.int .i64 0, .int .i64 0, .int .i64 0], .int .i64 1]) (by simp [results, Tryz.results27, go_sem, d0, d1, d2]) rfl ⟨rfl, by first | exact (((HB1.out.setCell (by simp) _).setCell (by simp) _).setCell (by simp) _) | exact HB1.out | exact (HB1.out.setCell (by simp) _) | exact ((HB1.out.setCell (by simp) _).setCell (by simp) _) | exact ((((HB1.out.setCell (by simp) _).setCell (by simp) _).setCell (by simp) _).setCell (by simp) _)⟩
theorem rturn_low (s e h b : Int) (w : World) (h1 : 0 ≤ s ∧ s ≤ 1000000) (h2 : 0 ≤ e ∧ e ≤ s) (h3 : 0 ≤ h ∧ h ≤ s) (ht : Ph.tankErr ⟨s, e, h⟩ = 0) (f1 : ¬ b < 0) (f2 : ¬ 1000000 < b) (f3 : Ph.full ⟨s, e, h⟩ < b) :
    Calls Tryz.prog 27 #[tankV s e h, .int .i64 b] w fun r w' => r = .returned (.tuple #[tankV 0 0 0, .int .i64 8]) ∧ Below w.heap.size w w' := by
  have HC := Lib.hid fun W => rtank_any s e h W
  have HM := Lib.hid fun W => rmay_any s e h W h1 h2 h3
  rw [ht] at HC
  obtain ⟨F, hF⟩ : ∃ F, F = Ph.full ⟨s, e, h⟩ := ⟨_, rfl⟩
  rw [← hF] at HM f3
  clear hF ht
  unfold tankV at HC HM ⊢
  go_enter Tryz.func27, Tryz.ntmps27
  go_wp2_with fail
  refine (HC.out _).mono ?_
  rintro r w1 ⟨rfl, hb1⟩
  have c0 : w1.cell? ⟨w.heap.size, 0, none⟩ = some (.int .i64 s) := (hb1.cell (p := ⟨w.heap.size, 0, none⟩) (by simp; omega)).trans (by simp)
  have c1 : w1.cell? ⟨w.heap.size, 1, none⟩ = some (.int .i64 e) := (hb1.cell (p := ⟨w.heap.size, 1, none⟩) (by simp; omega)).trans (by simp)
  have c2 : w1.cell? ⟨w.heap.size, 2, none⟩ = some (.int .i64 h) := (hb1.cell (p := ⟨w.heap.size, 2, none⟩) (by simp; omega)).trans (by simp)
  have d0 : w1.cell? ⟨w.heap.size + 1, 0, none⟩ = some (.int .i64 0) := (hb1.cell (p := ⟨w.heap.size + 1, 0, none⟩) (by simp)).trans (by simp)
  have d1 : w1.cell? ⟨w.heap.size + 1, 1, none⟩ = some (.int .i64 0) := (hb1.cell (p := ⟨w.heap.size + 1, 1, none⟩) (by simp)).trans (by simp)
  have d2 : w1.cell? ⟨w.heap.size + 1, 2, none⟩ = some (.int .i64 0) := (hb1.cell (p := ⟨w.heap.size + 1, 2, none⟩) (by simp)).trans (by simp)
  have f2 : w1.frozen? ⟨w.heap.size, 2, none⟩ = false := (hb1.frozen (p := ⟨w.heap.size, 2, none⟩) (by simp; omega)).trans (by simp)
  have e0 : w1.frozen? ⟨w.heap.size + 1, 0, none⟩ = false := (hb1.frozen (p := ⟨w.heap.size + 1, 0, none⟩) (by simp)).trans (by simp)
  have e1 : w1.frozen? ⟨w.heap.size + 1, 1, none⟩ = false := (hb1.frozen (p := ⟨w.heap.size + 1, 1, none⟩) (by simp)).trans (by simp)
  have e2 : w1.frozen? ⟨w.heap.size + 1, 2, none⟩ = false := (hb1.frozen (p := ⟨w.heap.size + 1, 2, none⟩) (by simp)).trans (by simp)
  have hsz : w.heap.size + 1 < w1.heap.size := by have := hb1.size; simp at this; omega
  have HB1 := Lib.hid (((below_alloc0 w _).alloc (by simp) _).trans (hb1.mono (by simp; omega)))
  clear hb1
  go_wp2_with fail
  refine (HM.out _).mono ?_
  rintro r w2 ⟨rfl, hb2⟩
  replace c0 := (hb2.cell (p := ⟨w.heap.size, 0, none⟩) (by simp; omega)).trans c0
  replace c1 := (hb2.cell (p := ⟨w.heap.size, 1, none⟩) (by simp; omega)).trans c1
  replace c2 := (hb2.cell (p := ⟨w.heap.size, 2, none⟩) (by simp; omega)).trans c2
  replace d0 := (hb2.cell (p := ⟨w.heap.size + 1, 0, none⟩) (by simp; omega)).trans d0
  replace d1 := (hb2.cell (p := ⟨w.heap.size + 1, 1, none⟩) (by simp; omega)).trans d1
  replace d2 := (hb2.cell (p := ⟨w.heap.size + 1, 2, none⟩) (by simp; omega)).trans d2
  replace f2 := (hb2.frozen (p := ⟨w.heap.size, 2, none⟩) (by simp; omega)).trans f2
  replace e0 := (hb2.frozen (p := ⟨w.heap.size + 1, 0, none⟩) (by simp; omega)).trans e0
  replace e1 := (hb2.frozen (p := ⟨w.heap.size + 1, 1, none⟩) (by simp; omega)).trans e1
  replace e2 := (hb2.frozen (p := ⟨w.heap.size + 1, 2, none⟩) (by simp; omega)).trans e2
  have hsz2 : w.heap.size + 1 < w2.heap.size := by have := hb2.size; omega
  have HB2 := Lib.hid (below_on HB1.out hb2)
  clear hb2 HB1 hsz
  go_wp2_with fail
  exact bodyPost_ret (v := .tuple #[.agg #[.int .i64 0, .int .i64 0, .int .i64 0], .int .i64 8]) (by simp [results, Tryz.results27, go_sem, d0, d1, d2]) rfl ⟨rfl, by first | exact (((HB2.out.setCell (by simp) _).setCell (by simp) _).setCell (by simp) _) | exact HB2.out | exact (HB2.out.setCell (by simp) _) | exact ((HB2.out.setCell (by simp) _).setCell (by simp) _) | exact ((((HB2.out.setCell (by simp) _).setCell (by simp) _).setCell (by simp) _).setCell (by simp) _)⟩
/-- A turn, whatever comes: of the package and of its reference. -/
theorem turn_told (s e h b : Int) (w : World) :
    Calls Tryz.prog 73 #[tankV s e h, .int .i64 b] w fun r w' => r = .returned (.tuple #[tankV (kept (Ph.turnErr ⟨s, e, h⟩ b) s) (kept (Ph.turnErr ⟨s, e, h⟩ b) e) (kept (Ph.turnErr ⟨s, e, h⟩ b) (Ph.full ⟨s, e, h⟩ - b)), errV (Ph.turnErr ⟨s, e, h⟩ b)]) ∧ Below w.heap.size w w' := by
  by_cases h0 : Ph.turnErr ⟨s, e, h⟩ b = 0
  · have hp := turn_parts h0
    rw [h0, kept_zero, kept_zero, kept_zero, errV_of rfl]
    exact tturn_ok s e h b w hp.1 hp.2.1 hp.2.2.1 hp.2.2.2.1 hp.2.2.2.2
  · rw [kept_ne h0, kept_ne h0, kept_ne h0]
    by_cases ht : Ph.tankErr ⟨s, e, h⟩ = 0
    · have hp := Ph.tankErr_zero.1 ht
      simp only at hp
      exact tturn_no s e h b w (by omega) (by omega) (by omega) h0
    · have h1 : Ph.turnErr ⟨s, e, h⟩ b = 1 := by unfold Ph.turnErr; rw [if_pos ht]
      rw [h1]
      exact tturn_bad s e h b w ht
theorem rturn_told (s e h b : Int) (w : World) :
    Calls Tryz.prog 27 #[tankV s e h, .int .i64 b] w fun r w' => r = .returned (.tuple #[tankV (kept (Ph.turnErr ⟨s, e, h⟩ b) s) (kept (Ph.turnErr ⟨s, e, h⟩ b) e) (kept (Ph.turnErr ⟨s, e, h⟩ b) (Ph.full ⟨s, e, h⟩ - b)), .int .i64 (Ph.turnErr ⟨s, e, h⟩ b)]) ∧ Below w.heap.size w w' := by
  by_cases h0 : Ph.turnErr ⟨s, e, h⟩ b = 0
  · have hp := turn_parts h0
    rw [h0, kept_zero, kept_zero, kept_zero]
    exact rturn_ok s e h b w hp.1 hp.2.1 hp.2.2.1 hp.2.2.2.1 hp.2.2.2.2 (Ph.turned_ok h0).1
  · rw [kept_ne h0, kept_ne h0, kept_ne h0]
    by_cases ht : Ph.tankErr ⟨s, e, h⟩ = 0
    · have hp := Ph.tankErr_zero.1 ht
      simp only at hp
      rcases turn_cases h0 ht with ⟨h1, hb⟩ | ⟨h1, f1, f2, f3⟩
      · rw [h1]; exact rturn_off s e h b w ht hb
      · rw [h1]; exact rturn_low s e h b w (by omega) (by omega) (by omega) ht f1 f2 f3
    · have h1 : Ph.turnErr ⟨s, e, h⟩ b = 1 := by unfold Ph.turnErr; rw [if_pos ht]
      rw [h1]
      exact rturn_bad s e h b w ((tankErr_two _).resolve_left ht)
end Go.Proofs.YtjdpgakkphdjlaaGreatDoor
