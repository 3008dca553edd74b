/- Walks: a tank: how many may go; what is refused (chapter 15). -/
import Derived.Test.YtfnbehjebmbbdaaDoorTank2
namespace Go.Proofs.YtfnbehjebmbbdaaDoor
open Go.RowKit

theorem tank_bad {s e h : Int} (h0 : Ph.tankErr ⟨s, e, h⟩ ≠ 0) : s < 0 ∨ 1000000 < s ∨ e < 0 ∨ s < e ∨ h < 0 ∨ s < h := by
  unfold Ph.tankErr at h0
  simp only at h0
  split at h0
  · omega
  · exact absurd rfl h0
theorem tmay_ok (s e h : Int) (w : World) (h1 : 0 ≤ s ∧ s ≤ 1000000) (h2 : 0 ≤ e ∧ e ≤ s) (h3 : 0 ≤ h ∧ h ≤ s) :
    Calls Tryd.prog 22 #[tankV s e h] w fun r w' => r = .returned (.tuple #[.int .i64 (Ph.full ⟨s, e, h⟩), .nilIface]) ∧ Below w.heap.size w w' := by
  have HC := Lib.hid fun W => tcheck_ok s e h W h1 h2 h3
  have HF := Lib.hid fun W => tfull_any s e h W h1 h2 h3
  obtain ⟨F, hF⟩ : ∃ F, F = Ph.full ⟨s, e, h⟩ := ⟨_, rfl⟩
  rw [← hF] at HF ⊢
  clear hF
  unfold tankV at HC HF ⊢
  go_enter Tryd.func22, Tryd.ntmps22
  go_wp2_with fail
  refine (HC.out _).mono ?_
  rintro r w1 ⟨rfl, hb1⟩
  have c0 : w1.cell? ⟨w.heap.size, 0, none⟩ = some (.int .i64 s) := (hb1.cell (p := ⟨w.heap.size, 0, none⟩) (by simp)).trans (by simp)
  have c1 : w1.cell? ⟨w.heap.size, 1, none⟩ = some (.int .i64 e) := (hb1.cell (p := ⟨w.heap.size, 1, none⟩) (by simp)).trans (by simp)
  have c2 : w1.cell? ⟨w.heap.size, 2, none⟩ = some (.int .i64 h) := (hb1.cell (p := ⟨w.heap.size, 2, none⟩) (by simp)).trans (by simp)
  have HB1 := Lib.hid ((below_alloc0 w (.cells #[.int .i64 s, .int .i64 e, .int .i64 h] 36)).trans (hb1.mono (by simp)))
  clear hb1
  go_wp2_with fail
  refine (HF.out _).mono ?_
  rintro r w2 ⟨rfl, hb2⟩
  have HB2 := Lib.hid (below_on HB1.out hb2)
  clear hb2
  go_wp2_with fail
  go_ret2
  exact ⟨rfl, HB2.out⟩
theorem tmay_no (s e h : Int) (w : World) (h0 : Ph.tankErr ⟨s, e, h⟩ ≠ 0) :
    Calls Tryd.prog 22 #[tankV s e h] w fun r w' => r = .returned (.tuple #[.int .i64 0, errV 1]) ∧ Below w.heap.size w w' := by
  have HC := Lib.hid fun W => tcheck_no s e h W (tank_bad h0)
  have he : errV 1 = .iface 72 (.int .i64 1) := errV_ne (by omega)
  rw [he]
  clear he
  unfold tankV at HC ⊢
  go_enter Tryd.func22, Tryd.ntmps22
  go_wp2_with fail
  refine (HC.out _).mono ?_
  rintro r w1 ⟨rfl, hb1⟩
  have HB1 := Lib.hid ((below_alloc0 w (.cells #[.int .i64 s, .int .i64 e, .int .i64 h] 36)).trans (hb1.mono (by simp)))
  clear hb1
  go_wp2_with fail
  go_ret2
  exact ⟨rfl, HB1.out⟩
theorem tturn_bad (s e h b : Int) (w : World) (h0 : Ph.tankErr ⟨s, e, h⟩ ≠ 0) :
    Calls Tryd.prog 21 #[tankV s e h, .int .i64 b] w fun r w' => r = .returned (.tuple #[tankV 0 0 0, errV 1]) ∧ Below w.heap.size w w' := by
  have HC := Lib.hid fun W => tcheck_no s e h W (tank_bad h0)
  have he : errV 1 = .iface 72 (.int .i64 1) := errV_ne (by omega)
  rw [he]
  clear he
  unfold tankV at HC ⊢
  go_enter Tryd.func21, Tryd.ntmps21
  go_wp2_with fail
  refine (HC.out _).mono ?_
  rintro r w1 ⟨rfl, hb1⟩
  have d0 : w1.cell? ⟨w.heap.size + 1, 0, none⟩ = some (.int .i64 0) := (hb1.cell (p := ⟨w.heap.size + 1, 0, none⟩) (by simp)).trans (by simp)
  have d1 : w1.cell? ⟨w.heap.size + 1, 1, none⟩ = some (.int .i64 0) := (hb1.cell (p := ⟨w.heap.size + 1, 1, none⟩) (by simp)).trans (by simp)
  have d2 : w1.cell? ⟨w.heap.size + 1, 2, none⟩ = some (.int .i64 0) := (hb1.cell (p := ⟨w.heap.size + 1, 2, none⟩) (by simp)).trans (by simp)
  have e0 : w1.frozen? ⟨w.heap.size + 1, 0, none⟩ = false := (hb1.frozen (p := ⟨w.heap.size + 1, 0, none⟩) (by simp)).trans (by simp)
  have e1 : w1.frozen? ⟨w.heap.size + 1, 1, none⟩ = false := (hb1.frozen (p := ⟨w.heap.size + 1, 1, none⟩) (by simp)).trans (by simp)
  have e2 : w1.frozen? ⟨w.heap.size + 1, 2, none⟩ = false := (hb1.frozen (p := ⟨w.heap.size + 1, 2, none⟩) (by simp)).trans (by simp)
  have hsz : w.heap.size + 1 < w1.heap.size := by have := hb1.size; simp at this; omega
  have HB1 := Lib.hid (((below_alloc0 w _).alloc (by simp) _).trans (hb1.mono (by simp; omega)))
  clear hb1
  go_wp2_with fail
  exact bodyPost_ret (v := .tuple #[.agg #[.int .i64 0, .int .i64 0, .int .i64 0], .iface 72 (.int .i64 1)]) (by simp [results, Tryd.results21, go_sem, d0, d1, d2]) rfl ⟨rfl, by first | exact HB1.out | exact (((HB1.out.setCell (by simp) _).setCell (by simp) _).setCell (by simp) _)⟩
theorem tturn_no (s e h b : Int) (w : World) (h1 : 0 ≤ s ∧ s ≤ 1000000) (h2 : 0 ≤ e ∧ e ≤ s) (h3 : 0 ≤ h ∧ h ≤ s) (h0 : Ph.turnErr ⟨s, e, h⟩ b ≠ 0) :
    Calls Tryd.prog 21 #[tankV s e h, .int .i64 b] w fun r w' => r = .returned (.tuple #[tankV 0 0 0, errV (Ph.turnErr ⟨s, e, h⟩ b)]) ∧ Below w.heap.size w w' := by
  have ht : Ph.tankErr ⟨s, e, h⟩ = 0 := Ph.tankErr_zero.2 (by simp only; omega)
  have HC := Lib.hid fun W => tcheck_ok s e h W h1 h2 h3
  have HF := Lib.hid fun W => tfull_any s e h W h1 h2 h3
  have he : Ph.turnErr ⟨s, e, h⟩ b = if b < 0 ∨ 1000000 < b then 1 else 8 := by
    unfold Ph.turnErr at h0 ⊢
    rw [if_neg (by rw [ht]; omega)] at h0 ⊢
    by_cases hb : b < 0 ∨ 1000000 < b
    · rw [if_pos hb, if_pos hb]
    · rw [if_neg hb] at h0 ⊢
      rw [if_neg hb]
      split at h0
      · rename_i hf; rw [if_pos hf]
      · exact absurd rfl h0
  have hf : (b < 0 ∨ (¬ b < 0 ∧ 1000000 < b)) ∨ (¬ b < 0 ∧ ¬ 1000000 < b ∧ Ph.full ⟨s, e, h⟩ < b) := by
    unfold Ph.turnErr at h0
    rw [if_neg (by rw [ht]; omega)] at h0
    by_cases hb : b < 0 ∨ 1000000 < b
    · left; omega
    · rw [if_neg hb] at h0
      split at h0
      · rename_i hf; right; omega
      · exact absurd rfl h0
  rw [he]
  have hfb : 0 ≤ Ph.full ⟨s, e, h⟩ ∧ Ph.full ⟨s, e, h⟩ ≤ 1000000 := by unfold Ph.full; simp only; split <;> omega
  obtain ⟨F, hF⟩ : ∃ F, F = Ph.full ⟨s, e, h⟩ := ⟨_, rfl⟩
  rw [← hF] at HF hf hfb
  unfold tankV at HC HF ⊢
  clear hF he h0 ht
  rcases hf with hf | ⟨f1, f2, f3⟩
  · rw [if_pos (by omega), errV_ne (by omega)]
    rcases hf with f1 | ⟨f1, f2⟩
    all_goals
      go_enter Tryd.func21, Tryd.ntmps21
      go_wp2_with fail
      refine (HC.out _).mono ?_
      rintro r w1 ⟨rfl, hb1⟩
      have c0 : w1.cell? ⟨w.heap.size, 0, none⟩ = some (.int .i64 s) := (hb1.cell (p := ⟨w.heap.size, 0, none⟩) (by simp; omega)).trans (by simp)
      have c1 : w1.cell? ⟨w.heap.size, 1, none⟩ = some (.int .i64 e) := (hb1.cell (p := ⟨w.heap.size, 1, none⟩) (by simp; omega)).trans (by simp)
      have c2 : w1.cell? ⟨w.heap.size, 2, none⟩ = some (.int .i64 h) := (hb1.cell (p := ⟨w.heap.size, 2, none⟩) (by simp; omega)).trans (by simp)
      have d0 : w1.cell? ⟨w.heap.size + 1, 0, none⟩ = some (.int .i64 0) := (hb1.cell (p := ⟨w.heap.size + 1, 0, none⟩) (by simp)).trans (by simp)
      have d1 : w1.cell? ⟨w.heap.size + 1, 1, none⟩ = some (.int .i64 0) := (hb1.cell (p := ⟨w.heap.size + 1, 1, none⟩) (by simp)).trans (by simp)
      have d2 : w1.cell? ⟨w.heap.size + 1, 2, none⟩ = some (.int .i64 0) := (hb1.cell (p := ⟨w.heap.size + 1, 2, none⟩) (by simp)).trans (by simp)
      have e0 : w1.frozen? ⟨w.heap.size + 1, 0, none⟩ = false := (hb1.frozen (p := ⟨w.heap.size + 1, 0, none⟩) (by simp)).trans (by simp)
      have e1 : w1.frozen? ⟨w.heap.size + 1, 1, none⟩ = false := (hb1.frozen (p := ⟨w.heap.size + 1, 1, none⟩) (by simp)).trans (by simp)
      have e2 : w1.frozen? ⟨w.heap.size + 1, 2, none⟩ = false := (hb1.frozen (p := ⟨w.heap.size + 1, 2, none⟩) (by simp)).trans (by simp)
      have hsz : w.heap.size + 1 < w1.heap.size := by have := hb1.size; simp at this; omega
      have HB1 := Lib.hid (((below_alloc0 w _).alloc (by simp) _).trans (hb1.mono (by simp; omega)))
      clear hb1
      go_wp2_with fail
      exact bodyPost_ret (v := .tuple #[.agg #[.int .i64 0, .int .i64 0, .int .i64 0], .iface 72 (.int .i64 1)]) (by simp [results, Tryd.results21, go_sem, d0, d1, d2]) rfl ⟨rfl, by first | exact HB1.out | exact (((HB1.out.setCell (by simp) _).setCell (by simp) _).setCell (by simp) _)⟩
  · rw [if_neg (by omega), errV_ne (by omega)]
    go_enter Tryd.func21, Tryd.ntmps21
    go_wp2_with fail
    refine (HC.out _).mono ?_
    rintro r w1 ⟨rfl, hb1⟩
    have c0 : w1.cell? ⟨w.heap.size, 0, none⟩ = some (.int .i64 s) := (hb1.cell (p := ⟨w.heap.size, 0, none⟩) (by simp; omega)).trans (by simp)
    have c1 : w1.cell? ⟨w.heap.size, 1, none⟩ = some (.int .i64 e) := (hb1.cell (p := ⟨w.heap.size, 1, none⟩) (by simp; omega)).trans (by simp)
    have c2 : w1.cell? ⟨w.heap.size, 2, none⟩ = some (.int .i64 h) := (hb1.cell (p := ⟨w.heap.size, 2, none⟩) (by simp; omega)).trans (by simp)
    have d0 : w1.cell? ⟨w.heap.size + 1, 0, none⟩ = some (.int .i64 0) := (hb1.cell (p := ⟨w.heap.size + 1, 0, none⟩) (by simp)).trans (by simp)
    have d1 : w1.cell? ⟨w.heap.size + 1, 1, none⟩ = some (.int .i64 0) := (hb1.cell (p := ⟨w.heap.size + 1, 1, none⟩) (by simp)).trans (by simp)
    have d2 : w1.cell? ⟨w.heap.size + 1, 2, none⟩ = some (.int .i64 0) := (hb1.cell (p := ⟨w.heap.size + 1, 2, none⟩) (by simp)).trans (by simp)
    have e0 : w1.frozen? ⟨w.heap.size + 1, 0, none⟩ = false := (hb1.frozen (p := ⟨w.heap.size + 1, 0, none⟩) (by simp)).trans (by simp)
    have e1 : w1.frozen? ⟨w.heap.size + 1, 1, none⟩ = false := (hb1.frozen (p := ⟨w.heap.size + 1, 1, none⟩) (by simp)).trans (by simp)
    have e2 : w1.frozen? ⟨w.heap.size + 1, 2, none⟩ = false := (hb1.frozen (p := ⟨w.heap.size + 1, 2, none⟩) (by simp)).trans (by simp)
    have hsz : w.heap.size + 1 < w1.heap.size := by have := hb1.size; simp at this; omega
    have HB1 := Lib.hid (((below_alloc0 w _).alloc (by simp) _).trans (hb1.mono (by simp; omega)))
    clear hb1
    go_wp2_with fail
    refine (HF.out _).mono ?_
    rintro r w2 ⟨rfl, hb2⟩
    replace d0 := (hb2.cell (p := ⟨w.heap.size + 1, 0, none⟩) (by simp; omega)).trans d0
    replace d1 := (hb2.cell (p := ⟨w.heap.size + 1, 1, none⟩) (by simp; omega)).trans d1
    replace d2 := (hb2.cell (p := ⟨w.heap.size + 1, 2, none⟩) (by simp; omega)).trans d2
    replace e0 := (hb2.frozen (p := ⟨w.heap.size + 1, 0, none⟩) (by simp; omega)).trans e0
    replace e1 := (hb2.frozen (p := ⟨w.heap.size + 1, 1, none⟩) (by simp; omega)).trans e1
    replace e2 := (hb2.frozen (p := ⟨w.heap.size + 1, 2, none⟩) (by simp; omega)).trans e2
    have hsz2 : w.heap.size + 1 < w2.heap.size := by have := hb2.size; omega
    have HB2 := Lib.hid (below_on HB1.out hb2)
    clear hb2 HB1 hsz
    go_wp2_with fail
    exact bodyPost_ret (v := .tuple #[.agg #[.int .i64 0, .int .i64 0, .int .i64 0], .iface 72 (.int .i64 8)]) (by simp [results, Tryd.results21, go_sem, d0, d1, d2]) rfl ⟨rfl, by first | exact HB2.out | exact (((HB2.out.setCell (by simp) _).setCell (by simp) _).setCell (by simp) _)⟩
end Go.Proofs.YtfnbehjebmbbdaaDoor
