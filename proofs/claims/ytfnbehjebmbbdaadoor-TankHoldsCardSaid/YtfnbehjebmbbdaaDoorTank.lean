/- Walks: a tank (chapter 15). -/
import Derived.Test.YtfnbehjebmbbdaaDoorSound
import Derived.Test.YtfnbehjebmbbdaaDoorPhShare
import Derived.Outline
namespace Go.Proofs.YtfnbehjebmbbdaaDoor
open Go.RowKit

/-- A tank as a value. -/
def tankV (s e h : Int) : Value := .agg #[.int .i64 s, .int .i64 e, .int .i64 h]
theorem tcheck_ok (s e h : Int) (w : World) (h1 : 0 ≤ s ∧ s ≤ 1000000) (h2 : 0 ≤ e ∧ e ≤ s) (h3 : 0 ≤ h ∧ h ≤ s) :
    Calls Tryd.prog 23 #[tankV s e h] w fun e w' => e = .returned .nilIface ∧ Below w.heap.size w w' := by
  unfold tankV
  go_enter Tryd.func23, Tryd.ntmps23
  go_wp2_with fail
  go_ret
  exact ⟨rfl, below_alloc0 _ _⟩
theorem tcheck_no (s e h : Int) (w : World) (hb : s < 0 ∨ 1000000 < s ∨ e < 0 ∨ s < e ∨ h < 0 ∨ s < h) :
    Calls Tryd.prog 23 #[tankV s e h] w fun e w' => e = .returned (.iface 72 (.int .i64 1)) ∧ Below w.heap.size w w' := by
  unfold tankV
  have hh : s < 0 ∨ (¬ s < 0 ∧ 1000000 < s) ∨ (¬ s < 0 ∧ ¬ 1000000 < s ∧ e < 0) ∨ (¬ s < 0 ∧ ¬ 1000000 < s ∧ ¬ e < 0 ∧ s < e) ∨ (¬ s < 0 ∧ ¬ 1000000 < s ∧ ¬ e < 0 ∧ ¬ s < e ∧ h < 0) ∨ (¬ s < 0 ∧ ¬ 1000000 < s ∧ ¬ e < 0 ∧ ¬ s < e ∧ ¬ h < 0 ∧ s < h) := by omega
  rcases hh with a1 | ⟨a1, a2⟩ | ⟨a1, a2, a3⟩ | ⟨a1, a2, a3, a4⟩ | ⟨a1, a2, a3, a4, a5⟩ | ⟨a1, a2, a3, a4, a5, a6⟩
  all_goals
    clear hb
    go_enter Tryd.func23, Tryd.ntmps23
    go_wp2_with fail
    go_ret
    exact ⟨rfl, below_alloc0 _ _⟩
theorem tfull_any (s e h : Int) (w : World) (h1 : 0 ≤ s ∧ s ≤ 1000000) (h2 : 0 ≤ e ∧ e ≤ s) (h3 : 0 ≤ h ∧ h ≤ s) :
    Calls Tryd.prog 67 #[tankV s e h] w fun r w' => r = .returned (.int .i64 (Ph.full ⟨s, e, h⟩)) ∧ Below w.heap.size w w' := by
  unfold tankV Ph.full
  rcases Int.lt_or_le (h + e) s with hc | hc
  · have hc' : h + e < s := hc
    simp only [if_pos hc]
    go_enter Tryd.func67, Tryd.ntmps67
    go_wp2_with fail
    go_ret
    exact ⟨rfl, below_alloc0 _ _⟩
  · have hc' : ¬ h + e < s := by omega
    simp only [if_neg hc']
    go_enter Tryd.func67, Tryd.ntmps67
    go_wp2_with fail
    go_ret
    exact ⟨rfl, below_alloc0 _ _⟩
theorem tturn_ok (s e h b : Int) (w : World) (h1 : 0 ≤ s ∧ s ≤ 1000000) (h2 : 0 ≤ e ∧ e ≤ s) (h3 : 0 ≤ h ∧ h ≤ s) (hb : 0 ≤ b ∧ b ≤ 1000000) (hf : b ≤ Ph.full ⟨s, e, h⟩) :
    Calls Tryd.prog 21 #[tankV s e h, .int .i64 b] w fun r w' => r = .returned (.tuple #[tankV s e (Ph.full ⟨s, e, h⟩ - b), .nilIface]) ∧ Below w.heap.size w w' := by
  have HC := Lib.hid fun W => tcheck_ok s e h W h1 h2 h3
  have HF := Lib.hid fun W => tfull_any s e h W h1 h2 h3
  have hfb : 0 ≤ Ph.full ⟨s, e, h⟩ ∧ Ph.full ⟨s, e, h⟩ ≤ 1000000 := by unfold Ph.full; simp only; split <;> omega
  obtain ⟨F, hF⟩ : ∃ F, F = Ph.full ⟨s, e, h⟩ := ⟨_, rfl⟩
  rw [← hF] at HF hf hfb ⊢
  clear hF
  unfold tankV at HC HF ⊢
  go_enter Tryd.func21, Tryd.ntmps21
  go_wp2_with fail
  refine (HC.out _).mono ?_
  rintro r w1 ⟨rfl, hb1⟩
  have c0 : w1.cell? ⟨w.heap.size, 0, none⟩ = some (.int .i64 s) := (hb1.cell (p := ⟨w.heap.size, 0, none⟩) (by simp; omega)).trans (by simp)
  have c1 : w1.cell? ⟨w.heap.size, 1, none⟩ = some (.int .i64 e) := (hb1.cell (p := ⟨w.heap.size, 1, none⟩) (by simp; omega)).trans (by simp)
  have c2 : w1.cell? ⟨w.heap.size, 2, none⟩ = some (.int .i64 h) := (hb1.cell (p := ⟨w.heap.size, 2, none⟩) (by simp; omega)).trans (by simp)
  have f2 : w1.frozen? ⟨w.heap.size, 2, none⟩ = false := (hb1.frozen (p := ⟨w.heap.size, 2, none⟩) (by simp; omega)).trans (by simp)
  have d0 : w1.cell? ⟨w.heap.size + 1, 0, none⟩ = some (.int .i64 0) := (hb1.cell (p := ⟨w.heap.size + 1, 0, none⟩) (by simp)).trans (by simp)
  have d1 : w1.cell? ⟨w.heap.size + 1, 1, none⟩ = some (.int .i64 0) := (hb1.cell (p := ⟨w.heap.size + 1, 1, none⟩) (by simp)).trans (by simp)
  have d2 : w1.cell? ⟨w.heap.size + 1, 2, none⟩ = some (.int .i64 0) := (hb1.cell (p := ⟨w.heap.size + 1, 2, none⟩) (by simp)).trans (by simp)
  have e0 : w1.frozen? ⟨w.heap.size + 1, 0, none⟩ = false := (hb1.frozen (p := ⟨w.heap.size + 1, 0, none⟩) (by simp)).trans (by simp)
  have e1 : w1.frozen? ⟨w.heap.size + 1, 1, none⟩ = false := (hb1.frozen (p := ⟨w.heap.size + 1, 1, none⟩) (by simp)).trans (by simp)
  have e2 : w1.frozen? ⟨w.heap.size + 1, 2, none⟩ = false := (hb1.frozen (p := ⟨w.heap.size + 1, 2, none⟩) (by simp)).trans (by simp)
  have hsz : w.heap.size + 1 < w1.heap.size := by have := hb1.size; simp at this; omega
  have HB1 := Lib.hid (((below_alloc0 w _).alloc (by simp) _).trans (hb1.mono (by simp; omega)))
  clear hb1
  go_wp2_with fail
  refine (HF.out _).mono ?_
  rintro r w2 ⟨rfl, hb2⟩
  replace c0 := (hb2.cell (p := ⟨w.heap.size, 0, none⟩) (by simp; omega)).trans c0
  replace c1 := (hb2.cell (p := ⟨w.heap.size, 1, none⟩) (by simp; omega)).trans c1
  replace c2 := (hb2.cell (p := ⟨w.heap.size, 2, none⟩) (by simp; omega)).trans c2
  replace f2 := (hb2.frozen (p := ⟨w.heap.size, 2, none⟩) (by simp; omega)).trans f2
  replace d0 := (hb2.cell (p := ⟨w.heap.size + 1, 0, none⟩) (by simp; omega)).trans d0
  replace d1 := (hb2.cell (p := ⟨w.heap.size + 1, 1, none⟩) (by simp; omega)).trans d1
  replace d2 := (hb2.cell (p := ⟨w.heap.size + 1, 2, none⟩) (by simp; omega)).trans d2
  replace e0 := (hb2.frozen (p := ⟨w.heap.size + 1, 0, none⟩) (by simp; omega)).trans e0
  replace e1 := (hb2.frozen (p := ⟨w.heap.size + 1, 1, none⟩) (by simp; omega)).trans e1
  replace e2 := (hb2.frozen (p := ⟨w.heap.size + 1, 2, none⟩) (by simp; omega)).trans e2
  have hsz2 : w.heap.size + 1 < w2.heap.size := by have := hb2.size; omega
  have HB2 := Lib.hid (below_on HB1.out hb2)
  clear hb2 HB1 hsz
  go_wp2_with fail
  refine (HF.out _).mono ?_
  rintro r w3 ⟨rfl, hb3⟩
  replace c0 := (hb3.cell (p := ⟨w.heap.size, 0, none⟩) (by simp; omega)).trans c0
  replace c1 := (hb3.cell (p := ⟨w.heap.size, 1, none⟩) (by simp; omega)).trans c1
  replace c2 := (hb3.cell (p := ⟨w.heap.size, 2, none⟩) (by simp; omega)).trans c2
  replace f2 := (hb3.frozen (p := ⟨w.heap.size, 2, none⟩) (by simp; omega)).trans f2
  replace d0 := (hb3.cell (p := ⟨w.heap.size + 1, 0, none⟩) (by simp; omega)).trans d0
  replace d1 := (hb3.cell (p := ⟨w.heap.size + 1, 1, none⟩) (by simp; omega)).trans d1
  replace d2 := (hb3.cell (p := ⟨w.heap.size + 1, 2, none⟩) (by simp; omega)).trans d2
  replace e0 := (hb3.frozen (p := ⟨w.heap.size + 1, 0, none⟩) (by simp; omega)).trans e0
  replace e1 := (hb3.frozen (p := ⟨w.heap.size + 1, 1, none⟩) (by simp; omega)).trans e1
  replace e2 := (hb3.frozen (p := ⟨w.heap.size + 1, 2, none⟩) (by simp; omega)).trans e2
  have hsz3 : w.heap.size + 1 < w3.heap.size := by have := hb3.size; omega
  have HB3 := Lib.hid (below_on HB2.out hb3)
  clear hb3 HB2 hsz2
  go_wp2_with fail
  exact bodyPost_ret (v := .tuple #[.agg #[.int .i64 s, .int .i64 e, .int .i64 (F - b)], .nilIface]) (by simp [results, Tryd.results21, go_sem, d0, d1, d2]) rfl ⟨rfl, ((HB3.out.setCell (by simp) _).setCell (by simp) _).setCell (by simp) _ |>.setCell (by simp) _⟩
end Go.Proofs.YtfnbehjebmbbdaaDoor
