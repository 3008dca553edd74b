/- Walks: a tank, turns in a row (chapter 15). -/
import Derived.Test.YtfnbehjebmbbdaaDoorTank
namespace Go.Proofs.YtfnbehjebmbbdaaDoor
open Go.RowKit

theorem turn_parts {s e h b : Int} (h0 : Ph.turnErr ⟨s, e, h⟩ b = 0) : (0 ≤ s ∧ s ≤ 1000000) ∧ (0 ≤ e ∧ e ≤ s) ∧ (0 ≤ h ∧ h ≤ s) ∧ (0 ≤ b ∧ b ≤ 1000000) ∧ b ≤ Ph.full ⟨s, e, h⟩ := by
  have h1 := Ph.turned_ok h0
  have h2 := Ph.tankErr_zero.1 h1.1
  simp only at h2
  have h4 : Ph.full ⟨s, e, h⟩ ≤ s := by unfold Ph.full; simp only; split <;> omega
  have h5 := h1.2.1
  have h6 := h1.2.2.1
  exact ⟨by omega, by omega, by omega, ⟨h5, by omega⟩, h6⟩
theorem run_next {l : List Int} {k : Nat} (hk : k < l.length) (t : Ph.Tank) (h : Ph.runErr (l.drop k) t = 0) :
    Ph.turnErr t (l.getD k 0) = 0 ∧ Ph.runErr (l.drop (k + 1)) (Ph.turned t (l.getD k 0)) = 0 ∧ Ph.runT (l.drop k) t = Ph.runT (l.drop (k + 1)) (Ph.turned t (l.getD k 0)) := by
  have e : l.drop k = l.getD k 0 :: l.drop (k + 1) := by
    rw [List.getD_eq_getElem?_getD, List.getElem?_eq_getElem hk]
    exact List.drop_eq_getElem_cons hk
  rw [e] at h ⊢
  simp only [Ph.runErr] at h
  split at h
  · omega
  · rename_i h1
    exact ⟨by omega, h, rfl⟩
set_option maxHeartbeats 1000000 in
theorem trun_ok (s e h : Int) (A : Option Addr) (n c : Nat) (l : List Int) (w : World) (B : Nat) (hr : RdI w B A n l) (hB : B ≤ w.heap.size) (hn : n ≤ 60) (ht : Ph.tankErr ⟨s, e, h⟩ = 0) (h0 : Ph.runErr l ⟨s, e, h⟩ = 0) :
    Calls Tryd.prog 24 #[tankV s e h, .slice A n c] w fun r w' => r = .returned (.tuple #[.int .i64 (Ph.runT l ⟨s, e, h⟩).has, .nilIface]) ∧ Below w.heap.size w w' := by
  have hp := Ph.tankErr_zero.1 ht
  simp only at hp
  have HC := Lib.hid fun W => tcheck_ok s e h W (by omega) (by omega) (by omega)
  have H := Lib.hid (hr.more hB)
  have HL := Lib.hid hr.len
  have HT := Lib.hid ht
  have HE := Lib.hid h0
  clear hr ht h0
  unfold tankV at HC ⊢
  go_enter Tryd.func24, Tryd.ntmps24
  go_wp2_with fail
  refine (HC.out _).mono ?_
  rintro r w1 ⟨rfl, hb1⟩
  have c0 : w1.cell? ⟨w.heap.size, 0, none⟩ = some (.int .i64 s) := (hb1.cell (p := ⟨w.heap.size, 0, none⟩) (by simp)).trans (by simp)
  have c1 : w1.cell? ⟨w.heap.size, 1, none⟩ = some (.int .i64 e) := (hb1.cell (p := ⟨w.heap.size, 1, none⟩) (by simp)).trans (by simp)
  have c2 : w1.cell? ⟨w.heap.size, 2, none⟩ = some (.int .i64 h) := (hb1.cell (p := ⟨w.heap.size, 2, none⟩) (by simp)).trans (by simp)
  have f0 : w1.frozen? ⟨w.heap.size, 0, none⟩ = false := (hb1.frozen (p := ⟨w.heap.size, 0, none⟩) (by simp)).trans (by simp)
  have f1 : w1.frozen? ⟨w.heap.size, 1, none⟩ = false := (hb1.frozen (p := ⟨w.heap.size, 1, none⟩) (by simp)).trans (by simp)
  have f2 : w1.frozen? ⟨w.heap.size, 2, none⟩ = false := (hb1.frozen (p := ⟨w.heap.size, 2, none⟩) (by simp)).trans (by simp)
  have hsz : w.heap.size < w1.heap.size := by have := hb1.size; simp at this; omega
  have HB1 := Lib.hid ((below_alloc0 w (.cells #[.int .i64 s, .int .i64 e, .int .i64 h] 36)).trans (hb1.mono (by simp)))
  have HC0 := Lib.hid (And.intro c0 (And.intro c1 (And.intro c2 (And.intro f0 (And.intro f1 f2)))))
  clear hb1 c0 c1 c2 f0 f1 f2
  go_wp2_with fail
  go_loopw [22] (fun i wr => ∃ (k : Nat) (hk : Int), k ≤ n ∧ i = .int .i64 k ∧ Hid (Ph.tankErr ⟨s, e, hk⟩ = 0 ∧ Ph.runErr (l.drop k) ⟨s, e, hk⟩ = 0 ∧ Ph.runT (l.drop k) ⟨s, e, hk⟩ = Ph.runT l ⟨s, e, h⟩) ∧ (wr.cell? ⟨w.heap.size, 0, none⟩ = some (.int .i64 s) ∧ wr.cell? ⟨w.heap.size, 1, none⟩ = some (.int .i64 e) ∧ wr.cell? ⟨w.heap.size, 2, none⟩ = some (.int .i64 hk) ∧ wr.frozen? ⟨w.heap.size, 0, none⟩ = false ∧ wr.frozen? ⟨w.heap.size, 1, none⟩ = false ∧ wr.frozen? ⟨w.heap.size, 2, none⟩ = false) ∧ w.heap.size < wr.heap.size ∧ Below w.heap.size w wr) (fun i _ => n - (intOf i).toNat)
  case atStart => exact ⟨0, h, Nat.zero_le _, rfl, Lib.hid ⟨HT.out, HE.out, rfl⟩, HC0.out, hsz, HB1.out⟩
  case round =>
    obtain ⟨k, hk, hkn, rfl, HR, ⟨c0, c1, c2, f0, f1, f2⟩, hsz2, hbw⟩ := hrel
    have H2 := Lib.hid (H.out.below hbw)
    clear HC0
    by_cases hlt : k < n
    · obtain ⟨b, off, rfl, hbb, hc⟩ := H2.out.at_ hlt
      have hnx := run_next (l := l) (k := k) (by rw [HL.out]; exact hlt) _ HR.out.2.1
      have htp := turn_parts hnx.1
      have HTu := Lib.hid fun W => tturn_ok s e hk (l.getD k 0) W htp.1 htp.2.1 htp.2.2.1 htp.2.2.2.1 htp.2.2.2.2
      have hx := htp.2.2.2.1
      have hfu := htp.2.2.2.2
      obtain ⟨x, hxe⟩ : ∃ x, x = l.getD k 0 := ⟨_, rfl⟩
      rw [← hxe] at hc hnx HTu hx hfu
      have HX := Lib.hid hxe
      have HN := Lib.hid hnx
      unfold tankV at HTu
      obtain ⟨F, hF⟩ : ∃ F, F = Ph.full ⟨s, e, hk⟩ := ⟨_, rfl⟩
      rw [← hF] at HTu hfu
      have HF := Lib.hid hF
      have HBW := Lib.hid hbw
      clear hxe hnx htp hF hbw
      go_wp2_with fail
      refine (HTu.out _).mono ?_
      rintro r w2 ⟨rfl, hb2⟩
      replace c0 := (hb2.cell (p := ⟨w.heap.size, 0, none⟩) (by simpa using hsz2)).trans c0
      replace c1 := (hb2.cell (p := ⟨w.heap.size, 1, none⟩) (by simpa using hsz2)).trans c1
      replace c2 := (hb2.cell (p := ⟨w.heap.size, 2, none⟩) (by simpa using hsz2)).trans c2
      replace f0 := (hb2.frozen (p := ⟨w.heap.size, 0, none⟩) (by simpa using hsz2)).trans f0
      replace f1 := (hb2.frozen (p := ⟨w.heap.size, 1, none⟩) (by simpa using hsz2)).trans f1
      replace f2 := (hb2.frozen (p := ⟨w.heap.size, 2, none⟩) (by simpa using hsz2)).trans f2
      have hsz3 : w.heap.size < w2.heap.size := by have := hb2.size; omega
      have HB2 := Lib.hid (HBW.out.trans (hb2.mono (by omega)))
      clear hb2 HBW hc HTu
      go_wp2_with fail
      go_roundw
      case rel =>
        refine ⟨k + 1, F - x, by omega, by go_num, Lib.hid ?_, ?_, ?_, ?_⟩
        · have h1 := HN.out
          have h2 : Ph.turned ⟨s, e, hk⟩ x = ⟨s, e, F - x⟩ := by unfold Ph.turned; rw [HF.out]
          rw [h2] at h1
          have h3 := (Ph.turned_ok h1.1).2.2.2
          rw [h2] at h3
          exact ⟨h3, h1.2.1, h1.2.2.symm.trans HR.out.2.2⟩
        · have g1 : w.heap.size < ((((w2.setCell ⟨w.heap.size, 0, none⟩ (.int .i64 s)).setCell ⟨w.heap.size, 1, none⟩ (.int .i64 e)).setCell ⟨w.heap.size, 2, none⟩ (.int .i64 (F - x)))).heap.size := by simp; omega
          refine ⟨?_, ?_, ?_, ?_, ?_, ?_⟩
          · go_simp
          · go_simp
          · go_simp
          · go_simp
          · go_simp
          · go_simp
        · simp; omega
        · exact (((HB2.out.setCell (by simp) _).setCell (by simp) _).setCell (by simp) _).alloc (by simp; omega) _
      case measure => simp [intOf]; omega
    · go_wp2_with fail
      go_ret2
      have e1 : l.drop k = [] := List.drop_of_length_le (by rw [HL.out]; omega)
      have e2 := HR.out.2.2
      rw [e1] at e2
      refine ⟨ret_two (congrArg (Value.int .i64) ?_) rfl, hbw⟩
      rw [← e2]; rfl
end Go.Proofs.YtfnbehjebmbbdaaDoor
