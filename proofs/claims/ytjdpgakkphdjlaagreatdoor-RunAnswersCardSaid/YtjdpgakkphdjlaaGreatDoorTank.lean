/- Walks: a tank (chapter 15). -/
import Derived.Test.YtjdpgakkphdjlaaGreatDoorSound
import Derived.Test.YtjdpgakkphdjlaaGreatDoorPhAll
import Derived.Outline
namespace Go.Proofs.YtjdpgakkphdjlaaGreatDoor
open Go.RowKit

/-- A tank as a value. -/
def tankV (s e h : Int) : Value := .agg #[.int .i64 s, .int .i64 e, .int .i64 h]
theorem tcheck_ok (s e h : Int) (w : World) (h1 : 0 ≤ s ∧ s ≤ 1000000) (h2 : 0 ≤ e ∧ e ≤ s) (h3 : 0 ≤ h ∧ h ≤ s) :
    Calls Tryz.prog 74 #[tankV s e h] w fun e w' => e = .returned .nilIface ∧ Below w.heap.size w w' := by
  unfold tankV
  go_enter Tryz.func74, Tryz.ntmps74
  go_wp2_with fail
  go_ret
  exact ⟨rfl, below_alloc0 _ _⟩
theorem tcheck_no (s e h : Int) (w : World) (hb : s < 0 ∨ 1000000 < s ∨ e < 0 ∨ s < e ∨ h < 0 ∨ s < h) :
    Calls Tryz.prog 74 #[tankV s e h] w fun e w' => e = .returned (.iface 69 (.int .i64 1)) ∧ Below w.heap.size w w' := by
  unfold tankV
  have hh : s < 0 ∨ (¬ s < 0 ∧ 1000000 < s) ∨ (¬ s < 0 ∧ ¬ 1000000 < s ∧ e < 0) ∨ (¬ s < 0 ∧ ¬ 1000000 < s ∧ ¬ e < 0 ∧ s < e) ∨ (¬ s < 0 ∧ ¬ 1000000 < s ∧ ¬ e < 0 ∧ ¬ s < e ∧ h < 0) ∨ (¬ s < 0 ∧ ¬ 1000000 < s ∧ ¬ e < 0 ∧ ¬ s < e ∧ ¬ h < 0 ∧ s < h) := by omega
  rcases hh with a1 | ⟨a1, a2⟩ | ⟨a1, a2, a3⟩ | ⟨a1, a2, a3, a4⟩ | ⟨a1, a2, a3, a4, a5⟩ | ⟨a1, a2, a3, a4, a5, a6⟩
  all_goals
    clear hb
    go_enter Tryz.func74, Tryz.ntmps74
    go_wp2_with fail
    go_ret
    exact ⟨rfl, below_alloc0 _ _⟩
theorem tfull_any (s e h : Int) (w : World) (h1 : 0 ≤ s ∧ s ≤ 1000000) (h2 : 0 ≤ e ∧ e ≤ s) (h3 : 0 ≤ h ∧ h ≤ s) :
    Calls Tryz.prog 75 #[tankV s e h] w fun r w' => r = .returned (.int .i64 (Ph.full ⟨s, e, h⟩)) ∧ Below w.heap.size w w' := by
  unfold tankV Ph.full
  rcases Int.lt_or_le (h + e) s with hc | hc
  · have hc' : h + e < s := hc
    simp only [if_pos hc]
    go_enter Tryz.func75, Tryz.ntmps75
    go_wp2_with fail
    go_ret
    exact ⟨rfl, below_alloc0 _ _⟩
  · have hc' : ¬ h + e < s := by omega
    simp only [if_neg hc']
    go_enter Tryz.func75, Tryz.ntmps75
    go_wp2_with fail
    go_ret
    exact ⟨rfl, below_alloc0 _ _⟩
theorem tturn_ok (s e h b : Int) (w : World) (h1 : 0 ≤ s ∧ s ≤ 1000000) (h2 : 0 ≤ e ∧ e ≤ s) (h3 : 0 ≤ h ∧ h ≤ s) (hb : 0 ≤ b ∧ b ≤ 1000000) (hf : b ≤ Ph.full ⟨s, e, h⟩) :
    Calls Tryz.prog 73 #[tankV s e h, .int .i64 b] w fun r w' => r = .returned (.tuple #[tankV s e (Ph.full ⟨s, e, h⟩ - b), .nilIface]) ∧ Below w.heap.size w w' := by
  have HC := Lib.hid fun W => tcheck_ok s e h W h1 h2 h3
  have HF := Lib.hid fun W => tfull_any s e h W h1 h2 h3
  have hfb : 0 ≤ Ph.full ⟨s, e, h⟩ ∧ Ph.full ⟨s, e, h⟩ ≤ 1000000 := by unfold Ph.full; simp only; split <;> omega
  obtain ⟨F, hF⟩ : ∃ F, F = Ph.full ⟨s, e, h⟩ := ⟨_, rfl⟩
  rw [← hF] at HF hf hfb ⊢
  clear hF
  unfold tankV at HC HF ⊢
  go_enter Tryz.func73, Tryz.ntmps73
  go_wp2_with fail
  refine (HC.out _).mono ?_
  rintro r w1 ⟨rfl, hb1⟩
  have c0 : w1.cell? ⟨w.heap.size, 0, none⟩ = some (.int .i64 s) := (hb1.cell (p := ⟨w.heap.size, 0, none⟩) (by simp; omega)).trans (by simp)
  have c1 : w1.cell? ⟨w.heap.size, 1, none⟩ = some (.int .i64 e) := (hb1.cell (p := ⟨w.heap.size, 1, none⟩) (by simp; omega)).trans (by simp)
  have c2 : w1.cell? ⟨w.heap.size, 2, none⟩ = some (.int .i64 h) := (hb1.cell (p := ⟨w.heap.size, 2, none⟩) (by simp; omega)).trans (by simp)
  have f2 : w1.frozen? ⟨w.heap.size, 2, none⟩ = false := (hb1.frozen (p := ⟨w.heap.size, 2, none⟩) (by simp; omega)).trans (by simp)
  have d0 : w1.cell? ⟨w.heap.size + 1, 0, none⟩ = some (.int .i64 0) := (hb1.cell (p := ⟨w.heap.size + 1, 0, none⟩) (by simp)).trans (by simp)
  have d1 : w1.cell? ⟨w.heap.size + 1, 1, none⟩ = some (.int .i64 0) := (hb1.cell (p := ⟨w.heap.size + 1, 1, none⟩) (by simp)).trans (by simp)
  have d2 : w1.cell? ⟨w.heap.size + 1, 2, none⟩ = some (.int .i64 0) := (hb1.cell (p := ⟨w.heap.size + 1, 2, none⟩) (by simp)).trans (by simp)
  have e0 : w1.frozen? ⟨w.heap.size + 1, 0, none⟩ = false := (hb1.frozen (p := ⟨w.heap.size + 1, 0, none⟩) (by simp)).trans (by simp)
  have e1 : w1.frozen? ⟨w.heap.size + 1, 1, none⟩ = false := (hb1.frozen (p := ⟨w.heap.size + 1, 1, none⟩) (by simp)).trans (by simp)
  have e2 : w1.frozen? ⟨w.heap.size + 1, 2, none⟩ = false := (hb1.frozen (p := ⟨w.heap.size + 1, 2, none⟩) (by simp)).trans (by simp)
  have hsz : w.heap.size + 1 < w1.heap.size := by have := hb1.size; simp at this; omega
  have HB1 := Lib.hid (((below_alloc0 w _).alloc (by simp) _).trans (hb1.mono (by simp; omega)))
  clear hb1
  go_wp2_with fail
  refine (HF.out _).mono ?_
  rintro r w2 ⟨rfl, hb2⟩
  replace c0 := (hb2.cell (p := ⟨w.heap.size, 0, none⟩) (by simp; omega)).trans c0
  replace c1 := (hb2.cell (p := ⟨w.heap.size, 1, none⟩) (by simp; omega)).trans c1
  replace c2 := (hb2.cell (p := ⟨w.heap.size, 2, none⟩) (by simp; omega)).trans c2
  replace f2 := (hb2.frozen (p := ⟨w.heap.size, 2, none⟩) (by simp; omega)).trans f2
  replace d0 := (hb2.cell (p := ⟨w.heap.size + 1, 0, none⟩) (by simp; omega)).trans d0
  replace d1 := (hb2.cell (p := ⟨w.heap.size + 1, 1, none⟩) (by simp; omega)).trans d1
  replace d2 := (hb2.cell (p := ⟨w.heap.size + 1, 2, none⟩) (by simp; omega)).trans d2
  replace e0 := (hb2.frozen (p := ⟨w.heap.size + 1, 0, none⟩) (by simp; omega)).trans e0
  replace e1 := (hb2.frozen (p := ⟨w.heap.size + 1, 1, none⟩) (by simp; omega)).trans e1
  replace e2 := (hb2.frozen (p := ⟨w.heap.size + 1, 2, none⟩) (by simp; omega)).trans e2
  have hsz2 : w.heap.size + 1 < w2.heap.size := by have := hb2.size; omega
  have HB2 := Lib.hid (below_on HB1.out hb2)
  clear hb2 HB1 hsz
  go_wp2_with fail
  refine (HF.out _).mono ?_
  rintro r w3 ⟨rfl, hb3⟩
  replace c0 := (hb3.cell (p := ⟨w.heap.size, 0, none⟩) (by simp; omega)).trans c0
  replace c1 := (hb3.cell (p := ⟨w.heap.size, 1, none⟩) (by simp; omega)).trans c1
  replace c2 := (hb3.cell (p := ⟨w.heap.size, 2, none⟩) (by simp; omega)).trans c2
  replace f2 := (hb3.frozen (p := ⟨w.heap.size, 2, none⟩) (by simp; omega)).trans f2
  replace d0 := (hb3.cell (p := ⟨w.heap.size + 1, 0, none⟩) (by simp; omega)).trans d0
  replace d1 := (hb3.cell (p := ⟨w.heap.size + 1, 1, none⟩) (by simp; omega)).trans d1
  replace d2 := (hb3.cell (p := ⟨w.heap.size + 1, 2, none⟩) (by simp; omega)).trans d2
  replace e0 := (hb3.frozen (p := ⟨w.heap.size + 1, 0, none⟩) (by simp; omega)).trans e0
  replace e1 := (hb3.frozen (p := ⟨w.heap.size + 1, 1, none⟩) (by simp; omega)).trans e1
  replace e2 := (hb3.frozen (p := ⟨w.heap.size + 1, 2, none⟩) (by simp; omega)).trans e2
  have hsz3 : w.heap.size + 1 < w3.heap.size := by have := hb3.size; omega
  have HB3 := Lib.hid (below_on HB2.out hb3)
  clear hb3 HB2 hsz2
  go_wp2_with fail
  exact bodyPost_ret (v := .tuple #[.agg #[.int .i64 s, .int .i64 e, .int .i64 (F - b)], .nilIface]) (by simp [results, Tryz.results73, go_sem, d0, d1, d2]) rfl ⟨rfl, ((HB3.out.setCell (by simp) _).setCell (by simp) _).setCell (by simp) _ |>.setCell (by simp) _⟩
end Go.Proofs.YtjdpgakkphdjlaaGreatDoor
/- Walks: a tank, turns in a row (chapter 15). -/
namespace Go.Proofs.YtjdpgakkphdjlaaGreatDoor
open Go.RowKit

theorem turn_parts {s e h b : Int} (h0 : Ph.turnErr ⟨s, e, h⟩ b = 0) : (0 ≤ s ∧ s ≤ 1000000) ∧ (0 ≤ e ∧ e ≤ s) ∧ (0 ≤ h ∧ h ≤ s) ∧ (0 ≤ b ∧ b ≤ 1000000) ∧ b ≤ Ph.full ⟨s, e, h⟩ := by
  have h1 := Ph.turned_ok h0
  have h2 := Ph.tankErr_zero.1 h1.1
  simp only at h2
  have h4 : Ph.full ⟨s, e, h⟩ ≤ s := by unfold Ph.full; simp only; split <;> omega
  have h5 := h1.2.1
  have h6 := h1.2.2.1
  exact ⟨by omega, by omega, by omega, ⟨h5, by omega⟩, h6⟩
theorem run_next {l : List Int} {k : Nat} (hk : k < l.length) (t : Ph.Tank) (h : Ph.runErr (l.drop k) t = 0) :
    Ph.turnErr t (l.getD k 0) = 0 ∧ Ph.runErr (l.drop (k + 1)) (Ph.turned t (l.getD k 0)) = 0 ∧ Ph.runT (l.drop k) t = Ph.runT (l.drop (k + 1)) (Ph.turned t (l.getD k 0)) := by
  have e : l.drop k = l.getD k 0 :: l.drop (k + 1) := by
    rw [List.getD_eq_getElem?_getD, List.getElem?_eq_getElem hk]
    exact List.drop_eq_getElem_cons hk
  rw [e] at h ⊢
  simp only [Ph.runErr] at h
  split at h
  · omega
  · rename_i h1
    exact ⟨by omega, h, rfl⟩
end Go.Proofs.YtjdpgakkphdjlaaGreatDoor
/- Walks: a tank: how many may go; what is refused (chapter 15). -/
namespace Go.Proofs.YtjdpgakkphdjlaaGreatDoor
open Go.RowKit

theorem tank_bad {s e h : Int} (h0 : Ph.tankErr ⟨s, e, h⟩ ≠ 0) : s < 0 ∨ 1000000 < s ∨ e < 0 ∨ s < e ∨ h < 0 ∨ s < h := by
  unfold Ph.tankErr at h0
  simp only at h0
  split at h0
  · omega
  · exact absurd rfl h0
theorem tmay_ok (s e h : Int) (w : World) (h1 : 0 ≤ s ∧ s ≤ 1000000) (h2 : 0 ≤ e ∧ e ≤ s) (h3 : 0 ≤ h ∧ h ≤ s) :
    Calls Tryz.prog 51 #[tankV s e h] w fun r w' => r = .returned (.tuple #[.int .i64 (Ph.full ⟨s, e, h⟩), .nilIface]) ∧ Below w.heap.size w w' := by
  have HC := Lib.hid fun W => tcheck_ok s e h W h1 h2 h3
  have HF := Lib.hid fun W => tfull_any s e h W h1 h2 h3
  obtain ⟨F, hF⟩ : ∃ F, F = Ph.full ⟨s, e, h⟩ := ⟨_, rfl⟩
  rw [← hF] at HF ⊢
  clear hF
  unfold tankV at HC HF ⊢
  go_enter Tryz.func51, Tryz.ntmps51
  go_wp2_with fail
  refine (HC.out _).mono ?_
  rintro r w1 ⟨rfl, hb1⟩
  have c0 : w1.cell? ⟨w.heap.size, 0, none⟩ = some (.int .i64 s) := (hb1.cell (p := ⟨w.heap.size, 0, none⟩) (by simp)).trans (by simp)
  have c1 : w1.cell? ⟨w.heap.size, 1, none⟩ = some (.int .i64 e) := (hb1.cell (p := ⟨w.heap.size, 1, none⟩) (by simp)).trans (by simp)
  have c2 : w1.cell? ⟨w.heap.size, 2, none⟩ = some (.int .i64 h) := (hb1.cell (p := ⟨w.heap.size, 2, none⟩) (by simp)).trans (by simp)
  have HB1 := Lib.hid ((below_alloc0 w (.cells #[.int .i64 s, .int .i64 e, .int .i64 h] 26)).trans (hb1.mono (by simp)))
  clear hb1
  go_wp2_with fail
  refine (HF.out _).mono ?_
  rintro r w2 ⟨rfl, hb2⟩
  have HB2 := Lib.hid (below_on HB1.out hb2)
  clear hb2
  go_wp2_with fail
  go_ret2
  exact ⟨rfl, HB2.out⟩
theorem tmay_no (s e h : Int) (w : World) (h0 : Ph.tankErr ⟨s, e, h⟩ ≠ 0) :
    Calls Tryz.prog 51 #[tankV s e h] w fun r w' => r = .returned (.tuple #[.int .i64 0, errV 1]) ∧ Below w.heap.size w w' := by
  have HC := Lib.hid fun W => tcheck_no s e h W (tank_bad h0)
  have he : errV 1 = .iface 69 (.int .i64 1) := errV_ne (by omega)
  rw [he]
  clear he
  unfold tankV at HC ⊢
  go_enter Tryz.func51, Tryz.ntmps51
  go_wp2_with fail
  refine (HC.out _).mono ?_
  rintro r w1 ⟨rfl, hb1⟩
  have HB1 := Lib.hid ((below_alloc0 w (.cells #[.int .i64 s, .int .i64 e, .int .i64 h] 26)).trans (hb1.mono (by simp)))
  clear hb1
  go_wp2_with fail
  go_ret2
  exact ⟨rfl, HB1.out⟩
theorem tturn_bad (s e h b : Int) (w : World) (h0 : Ph.tankErr ⟨s, e, h⟩ ≠ 0) :
    Calls Tryz.prog 73 #[tankV s e h, .int .i64 b] w fun r w' => r = .returned (.tuple #[tankV 0 0 0, errV 1]) ∧ Below w.heap.size w w' := by
  have HC := Lib.hid fun W => tcheck_no s e h W (tank_bad h0)
  have he : errV 1 = .iface 69 (.int .i64 1) := errV_ne (by omega)
  rw [he]
  clear he
  unfold tankV at HC ⊢
  go_enter Tryz.func73, Tryz.ntmps73
  go_wp2_with fail
  refine (HC.out _).mono ?_
  rintro r w1 ⟨rfl, hb1⟩
  have d0 : w1.cell? ⟨w.heap.size + 1, 0, none⟩ = some (.int .i64 0) := (hb1.cell (p := ⟨w.heap.size + 1, 0, none⟩) (by simp)).trans (by simp)
  have d1 : w1.cell? ⟨w.heap.size + 1, 1, none⟩ = some (.int .i64 0) := (hb1.cell (p := ⟨w.heap.size + 1, 1, none⟩) (by simp)).trans (by simp)
  have d2 : w1.cell? ⟨w.heap.size + 1, 2, none⟩ = some (.int .i64 0) := (hb1.cell (p := ⟨w.heap.size + 1, 2, none⟩) (by simp)).trans (by simp)
  have e0 : w1.frozen? ⟨w.heap.size + 1, 0, none⟩ = false := (hb1.frozen (p := ⟨w.heap.size + 1, 0, none⟩) (by simp)).trans (by simp)
  have e1 : w1.frozen? ⟨w.heap.size + 1, 1, none⟩ = false := (hb1.frozen (p := ⟨w.heap.size + 1, 1, none⟩) (by simp)).trans (by simp)
  have e2 : w1.frozen? ⟨w.heap.size + 1, 2, none⟩ = false := (hb1.frozen (p := ⟨w.heap.size + 1, 2, none⟩) (by simp)).trans (by simp)
  have hsz : w.heap.size + 1 < w1.heap.size := by have := hb1.size; simp at this; omega
  have HB1 := Lib.hid (((below_alloc0 w _).alloc (by simp) _).trans (hb1.mono (by simp; omega)))
  clear hb1
  go_wp2_with fail
  exact bodyPost_ret (v := .tuple #[.agg #[.int .i64 0, .int .i64 0, .int .i64 0], .iface 69 (.int .i64 1)]) (by simp [results, Tryz.results73, go_sem, d0, d1, d2]) rfl ⟨rfl, by first | exact HB1.out | exact (((HB1.out.setCell (by simp) _).setCell (by simp) _).setCell (by simp) _)⟩
theorem tturn_no (s e h b : Int) (w : World) (h1 : 0 ≤ s ∧ s ≤ 1000000) (h2 : 0 ≤ e ∧ e ≤ s) (h3 : 0 ≤ h ∧ h ≤ s) (h0 : Ph.turnErr ⟨s, e, h⟩ b ≠ 0) :
    Calls Tryz.prog 73 #[tankV s e h, .int .i64 b] w fun r w' => r = .returned (.tuple #[tankV 0 0 0, errV (Ph.turnErr ⟨s, e, h⟩ b)]) ∧ Below w.heap.size w w' := by
  have ht : Ph.tankErr ⟨s, e, h⟩ = 0 := Ph.tankErr_zero.2 (by simp only; omega)
  have HC := Lib.hid fun W => tcheck_ok s e h W h1 h2 h3
  have HF := Lib.hid fun W => tfull_any s e h W h1 h2 h3
  have he : Ph.turnErr ⟨s, e, h⟩ b = if b < 0 ∨ 1000000 < b then 1 else 8 := by
    unfold Ph.turnErr at h0 ⊢
    rw [if_neg (by rw [ht]; omega)] at h0 ⊢
    by_cases hb : b < 0 ∨ 1000000 < b
    · rw [if_pos hb, if_pos hb]
    · rw [if_neg hb] at h0 ⊢
      rw [if_neg hb]
      split at h0
      · rename_i hf; rw [if_pos hf]
      · exact absurd rfl h0
  have hf : (b < 0 ∨ (¬ b < 0 ∧ 1000000 < b)) ∨ (¬ b < 0 ∧ ¬ 1000000 < b ∧ Ph.full ⟨s, e, h⟩ < b) := by
    unfold Ph.turnErr at h0
    rw [if_neg (by rw [ht]; omega)] at h0
    by_cases hb : b < 0 ∨ 1000000 < b
    · left; omega
    · rw [if_neg hb] at h0
      split at h0
      · rename_i hf; right; omega
      · exact absurd rfl h0
  rw [he]
  have hfb : 0 ≤ Ph.full ⟨s, e, h⟩ ∧ Ph.full ⟨s, e, h⟩ ≤ 1000000 := by unfold Ph.full; simp only; split <;> omega
  obtain ⟨F, hF⟩ : ∃ F, F = Ph.full ⟨s, e, h⟩ := ⟨_, rfl⟩
  rw [← hF] at HF hf hfb
  unfold tankV at HC HF ⊢
  clear hF he h0 ht
  rcases hf with hf | ⟨f1, f2, f3⟩
  · rw [if_pos (by omega), errV_ne (by omega)]
    rcases hf with f1 | ⟨f1, f2⟩
    all_goals
      go_enter Tryz.func73, Tryz.ntmps73
      go_wp2_with fail
      refine (HC.out _).mono ?_
      rintro r w1 ⟨rfl, hb1⟩
      have c0 : w1.cell? ⟨w.heap.size, 0, none⟩ = some (.int .i64 s) := (hb1.cell (p := ⟨w.heap.size, 0, none⟩) (by simp; omega)).trans (by simp)
      have c1 : w1.cell? ⟨w.heap.size, 1, none⟩ = some (.int .i64 e) := (hb1.cell (p := ⟨w.heap.size, 1, none⟩) (by simp; omega)).trans (by simp)
      have c2 : w1.cell? ⟨w.heap.size, 2, none⟩ = some (.int .i64 h) := (hb1.cell (p := ⟨w.heap.size, 2, none⟩) (by simp; omega)).trans (by simp)
      have d0 : w1.cell? ⟨w.heap.size + 1, 0, none⟩ = some (.int .i64 0) := (hb1.cell (p := ⟨w.heap.size + 1, 0, none⟩) (by simp)).trans (by simp)
      have d1 : w1.cell? ⟨w.heap.size + 1, 1, none⟩ = some (.int .i64 0) := (hb1.cell (p := ⟨w.heap.size + 1, 1, none⟩) (by simp)).trans (by simp)
      have d2 : w1.cell? ⟨w.heap.size + 1, 2, none⟩ = some (.int .i64 0) := (hb1.cell (p := ⟨w.heap.size + 1, 2, none⟩) (by simp)).trans (by simp)
      have e0 : w1.frozen? ⟨w.heap.size + 1, 0, none⟩ = false := (hb1.frozen (p := ⟨w.heap.size + 1, 0, none⟩) (by simp)).trans (by simp)
      have e1 : w1.frozen? ⟨w.heap.size + 1, 1, none⟩ = false := (hb1.frozen (p := ⟨w.heap.size + 1, 1, none⟩) (by simp)).trans (by simp)
      have e2 : w1.frozen? ⟨w.heap.size + 1, 2, none⟩ = false := (hb1.frozen (p := ⟨w.heap.size + 1, 2, none⟩) (by simp)).trans (by simp)
      have hsz : w.heap.size + 1 < w1.heap.size := by have := hb1.size; simp at this; omega
      have HB1 := Lib.hid (((below_alloc0 w _).alloc (by simp) _).trans (hb1.mono (by simp; omega)))
      clear hb1
      go_wp2_with fail
      exact bodyPost_ret (v := .tuple #[.agg #[.int .i64 0, .int .i64 0, .int .i64 0], .iface 69 (.int .i64 1)]) (by simp [results, Tryz.results73, go_sem, d0, d1, d2]) rfl ⟨rfl, by first | exact HB1.out | exact (((HB1.out.setCell (by simp) _).setCell (by simp) _).setCell (by simp) _)⟩
  · rw [if_neg (by omega), errV_ne (by omega)]
    go_enter Tryz.func73, Tryz.ntmps73
    go_wp2_with fail
    refine (HC.out _).mono ?_
    rintro r w1 ⟨rfl, hb1⟩
    have c0 : w1.cell? ⟨w.heap.size, 0, none⟩ = some (.int .i64 s) := (hb1.cell (p := ⟨w.heap.size, 0, none⟩) (by simp; omega)).trans (by simp)
    have c1 : w1.cell? ⟨w.heap.size, 1, none⟩ = some (.int .i64 e) := (hb1.cell (p := ⟨w.heap.size, 1, none⟩) (by simp; omega)).trans (by simp)
    have c2 : w1.cell? ⟨w.heap.size, 2, none⟩ = some (.int .i64 h) := (hb1.cell (p := ⟨w.heap.size, 2, none⟩) (by simp; omega)).trans (by simp)
    have d0 : w1.cell? ⟨w.heap.size + 1, 0, none⟩ = some (.int .i64 0) := (hb1.cell (p := ⟨w.heap.size + 1, 0, none⟩) (by simp)).trans (by simp)
    have d1 : w1.cell? ⟨w.heap.size + 1, 1, none⟩ = some (.int .i64 0) := (hb1.cell (p := ⟨w.heap.size + 1, 1, none⟩) (by simp)).trans (by simp)
    have d2 : w1.cell? ⟨w.heap.size + 1, 2, none⟩ = some (.int .i64 0) := (hb1.cell (p := ⟨w.heap.size + 1, 2, none⟩) (by simp)).trans (by simp)
    have e0 : w1.frozen? ⟨w.heap.size + 1, 0, none⟩ = false := (hb1.frozen (p := ⟨w.heap.size + 1, 0, none⟩) (by simp)).trans (by simp)
    have e1 : w1.frozen? ⟨w.heap.size + 1, 1, none⟩ = false := (hb1.frozen (p := ⟨w.heap.size + 1, 1, none⟩) (by simp)).trans (by simp)
    have e2 : w1.frozen? ⟨w.heap.size + 1, 2, none⟩ = false := (hb1.frozen (p := ⟨w.heap.size + 1, 2, none⟩) (by simp)).trans (by simp)
    have hsz : w.heap.size + 1 < w1.heap.size := by have := hb1.size; simp at this; omega
    have HB1 := Lib.hid (((below_alloc0 w _).alloc (by simp) _).trans (hb1.mono (by simp; omega)))
    clear hb1
    go_wp2_with fail
    refine (HF.out _).mono ?_
    rintro r w2 ⟨rfl, hb2⟩
    replace d0 := (hb2.cell (p := ⟨w.heap.size + 1, 0, none⟩) (by simp; omega)).trans d0
    replace d1 := (hb2.cell (p := ⟨w.heap.size + 1, 1, none⟩) (by simp; omega)).trans d1
    replace d2 := (hb2.cell (p := ⟨w.heap.size + 1, 2, none⟩) (by simp; omega)).trans d2
    replace e0 := (hb2.frozen (p := ⟨w.heap.size + 1, 0, none⟩) (by simp; omega)).trans e0
    replace e1 := (hb2.frozen (p := ⟨w.heap.size + 1, 1, none⟩) (by simp; omega)).trans e1
    replace e2 := (hb2.frozen (p := ⟨w.heap.size + 1, 2, none⟩) (by simp; omega)).trans e2
    have hsz2 : w.heap.size + 1 < w2.heap.size := by have := hb2.size; omega
    have HB2 := Lib.hid (below_on HB1.out hb2)
    clear hb2 HB1 hsz
    go_wp2_with fail
    exact bodyPost_ret (v := .tuple #[.agg #[.int .i64 0, .int .i64 0, .int .i64 0], .iface 69 (.int .i64 8)]) (by simp [results, Tryz.results73, go_sem, d0, d1, d2]) rfl ⟨rfl, by first | exact HB2.out | exact (((HB2.out.setCell (by simp) _).setCell (by simp) _).setCell (by simp) _)⟩
end Go.Proofs.YtjdpgakkphdjlaaGreatDoor
