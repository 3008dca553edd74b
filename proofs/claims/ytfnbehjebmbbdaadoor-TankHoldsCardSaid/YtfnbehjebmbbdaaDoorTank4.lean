/- Walks: a tank, turns in a row, whatever comes (chapter 15). -/
import Derived.Test.YtfnbehjebmbbdaaDoorTank2
import Derived.Test.YtfnbehjebmbbdaaDoorTank3
namespace Go.Proofs.YtfnbehjebmbbdaaDoor
open Go.RowKit

/-- The fault of turns in a row; how many there are at last. -/
def runE (l : List Int) (t : Ph.Tank) : Int := if 60 < l.length then 4 else if Ph.tankErr t ≠ 0 then 1 else Ph.runErr l t
def runV (l : List Int) (t : Ph.Tank) : Int := if runE l t = 0 then (Ph.runT l t).has else 0
theorem tankErr_two (t : Ph.Tank) : Ph.tankErr t = 0 ∨ Ph.tankErr t = 1 := by unfold Ph.tankErr; split <;> simp
theorem turnErr_bd (t : Ph.Tank) (b : Int) : 0 ≤ Ph.turnErr t b ∧ Ph.turnErr t b ≤ 8 := by
  unfold Ph.turnErr; split <;> (try split) <;> (try split) <;> omega
theorem runErr_bd : ∀ (l : List Int) (t : Ph.Tank), 0 ≤ Ph.runErr l t ∧ Ph.runErr l t ≤ 8
  | [], _ => by simp [Ph.runErr]
  | n :: l, t => by
    unfold Ph.runErr
    split
    · exact turnErr_bd t n
    · exact runErr_bd l _
theorem runE_bd (l : List Int) (t : Ph.Tank) : 0 ≤ runE l t ∧ runE l t ≤ 8 := by
  unfold runE
  split
  · omega
  · split
    · omega
    · exact runErr_bd l t
theorem run_head {l : List Int} {k : Nat} (hk : k < l.length) : l.drop k = l.getD k 0 :: l.drop (k + 1) := by
  rw [List.getD_eq_getElem?_getD, List.getElem?_eq_getElem hk]
  exact List.drop_eq_getElem_cons hk
theorem runErr_stop {l : List Int} {k : Nat} (hk : k < l.length) (t : Ph.Tank) (h : Ph.turnErr t (l.getD k 0) ≠ 0) : Ph.runErr (l.drop k) t = Ph.turnErr t (l.getD k 0) := by
  rw [run_head hk, Ph.runErr, if_pos h]
theorem runErr_go {l : List Int} {k : Nat} (hk : k < l.length) (t : Ph.Tank) (h : Ph.turnErr t (l.getD k 0) = 0) : Ph.runErr (l.drop k) t = Ph.runErr (l.drop (k + 1)) (Ph.turned t (l.getD k 0)) := by
  rw [run_head hk, Ph.runErr, if_neg (by omega)]
theorem runT_go {l : List Int} {k : Nat} (hk : k < l.length) (t : Ph.Tank) : Ph.runT (l.drop k) t = Ph.runT (l.drop (k + 1)) (Ph.turned t (l.getD k 0)) := by
  rw [run_head hk]
  rfl
set_option maxHeartbeats 1000000 in
theorem trun_any (s e h : Int) (A : Option Addr) (n c : Nat) (l : List Int) (w : World) (B : Nat) (hr : RdI w B A n l) (hB : B ≤ w.heap.size) (hn : n ≤ 60) (ht : Ph.tankErr ⟨s, e, h⟩ = 0) :
    Calls Tryd.prog 24 #[tankV s e h, .slice A n c] w fun r w' => r = .returned (.tuple #[.int .i64 (if Ph.runErr l ⟨s, e, h⟩ = 0 then (Ph.runT l ⟨s, e, h⟩).has else 0), errV (Ph.runErr l ⟨s, e, h⟩)]) ∧ Below w.heap.size w w' := by
  have hp := Ph.tankErr_zero.1 ht
  simp only at hp
  have HC := Lib.hid fun W => tcheck_ok s e h W (by omega) (by omega) (by omega)
  have H := Lib.hid (hr.more hB)
  have HL := Lib.hid hr.len
  have HT := Lib.hid ht
  obtain ⟨E, hE⟩ : ∃ E, E = Ph.runErr l ⟨s, e, h⟩ := ⟨_, rfl⟩
  obtain ⟨V, hV⟩ : ∃ V, V = (Ph.runT l ⟨s, e, h⟩).has := ⟨_, rfl⟩
  rw [← hE, ← hV]
  have HEE := Lib.hid hE
  have HVV := Lib.hid hV
  clear hr ht hE hV
  unfold tankV at HC ⊢
  go_enter Tryd.func24, Tryd.ntmps24
  go_wp2_with fail
  refine (HC.out _).mono ?_
  rintro r w1 ⟨rfl, hb1⟩
  have c0 : w1.cell? ⟨w.heap.size, 0, none⟩ = some (.int .i64 s) := (hb1.cell (p := ⟨w.heap.size, 0, none⟩) (by simp)).trans (by simp)
  have c1 : w1.cell? ⟨w.heap.size, 1, none⟩ = some (.int .i64 e) := (hb1.cell (p := ⟨w.heap.size, 1, none⟩) (by simp)).trans (by simp)
  have c2 : w1.cell? ⟨w.heap.size, 2, none⟩ = some (.int .i64 h) := (hb1.cell (p := ⟨w.heap.size, 2, none⟩) (by simp)).trans (by simp)
  have f0 : w1.frozen? ⟨w.heap.size, 0, none⟩ = false := (hb1.frozen (p := ⟨w.heap.size, 0, none⟩) (by simp)).trans (by simp)
  have f1 : w1.frozen? ⟨w.heap.size, 1, none⟩ = false := (hb1.frozen (p := ⟨w.heap.size, 1, none⟩) (by simp)).trans (by simp)
  have f2 : w1.frozen? ⟨w.heap.size, 2, none⟩ = false := (hb1.frozen (p := ⟨w.heap.size, 2, none⟩) (by simp)).trans (by simp)
  have hsz : w.heap.size < w1.heap.size := by have := hb1.size; simp at this; omega
  have HB1 := Lib.hid ((below_alloc0 w (.cells #[.int .i64 s, .int .i64 e, .int .i64 h] 36)).trans (hb1.mono (by simp)))
  have HC0 := Lib.hid (And.intro c0 (And.intro c1 (And.intro c2 (And.intro f0 (And.intro f1 f2)))))
  clear hb1 c0 c1 c2 f0 f1 f2
  go_wp2_with fail
  go_loopw [22] (fun i wr => ∃ (k : Nat) (hk : Int), k ≤ n ∧ i = .int .i64 k ∧ Hid (Ph.tankErr ⟨s, e, hk⟩ = 0 ∧ Ph.runErr (l.drop k) ⟨s, e, hk⟩ = E ∧ (Ph.runT (l.drop k) ⟨s, e, hk⟩).has = V) ∧ (wr.cell? ⟨w.heap.size, 0, none⟩ = some (.int .i64 s) ∧ wr.cell? ⟨w.heap.size, 1, none⟩ = some (.int .i64 e) ∧ wr.cell? ⟨w.heap.size, 2, none⟩ = some (.int .i64 hk) ∧ wr.frozen? ⟨w.heap.size, 0, none⟩ = false ∧ wr.frozen? ⟨w.heap.size, 1, none⟩ = false ∧ wr.frozen? ⟨w.heap.size, 2, none⟩ = false) ∧ w.heap.size < wr.heap.size ∧ Below w.heap.size w wr) (fun i _ => n - (intOf i).toNat)
  case atStart => exact ⟨0, h, Nat.zero_le _, rfl, Lib.hid ⟨HT.out, HEE.out.symm, HVV.out.symm⟩, HC0.out, hsz, HB1.out⟩
  case round =>
    obtain ⟨k, hk, hkn, rfl, HR, ⟨c0, c1, c2, f0, f1, f2⟩, hsz2, hbw⟩ := hrel
    have H2 := Lib.hid (H.out.below hbw)
    clear HC0
    by_cases hlt : k < n
    · obtain ⟨b, off, rfl, hbb, hc⟩ := H2.out.at_ hlt
      have hkl : k < l.length := by rw [HL.out]; exact hlt
      by_cases hte : Ph.turnErr ⟨s, e, hk⟩ (l.getD k 0) = 0
      · have hnx := And.intro hte (And.intro (runErr_go hkl ⟨s, e, hk⟩ hte) (runT_go hkl ⟨s, e, hk⟩))
        have htp := turn_parts hte
        have HTu := Lib.hid fun W => tturn_ok s e hk (l.getD k 0) W htp.1 htp.2.1 htp.2.2.1 htp.2.2.2.1 htp.2.2.2.2
        have hx := htp.2.2.2.1
        have hfu := htp.2.2.2.2
        obtain ⟨x, hxe⟩ : ∃ x, x = l.getD k 0 := ⟨_, rfl⟩
        rw [← hxe] at hc hnx HTu hx hfu
        have HX := Lib.hid hxe
        have HN := Lib.hid hnx
        unfold tankV at HTu
        obtain ⟨F, hF⟩ : ∃ F, F = Ph.full ⟨s, e, hk⟩ := ⟨_, rfl⟩
        rw [← hF] at HTu hfu
        have HF := Lib.hid hF
        have HBW := Lib.hid hbw
        clear hxe hnx htp hF hbw hte hkl
        go_wp2_with fail
        refine (HTu.out _).mono ?_
        rintro r w2 ⟨rfl, hb2⟩
        replace c0 := (hb2.cell (p := ⟨w.heap.size, 0, none⟩) (by simpa using hsz2)).trans c0
        replace c1 := (hb2.cell (p := ⟨w.heap.size, 1, none⟩) (by simpa using hsz2)).trans c1
        replace c2 := (hb2.cell (p := ⟨w.heap.size, 2, none⟩) (by simpa using hsz2)).trans c2
        replace f0 := (hb2.frozen (p := ⟨w.heap.size, 0, none⟩) (by simpa using hsz2)).trans f0
        replace f1 := (hb2.frozen (p := ⟨w.heap.size, 1, none⟩) (by simpa using hsz2)).trans f1
        replace f2 := (hb2.frozen (p := ⟨w.heap.size, 2, none⟩) (by simpa using hsz2)).trans f2
        have hsz3 : w.heap.size < w2.heap.size := by have := hb2.size; omega
        have HB2 := Lib.hid (HBW.out.trans (hb2.mono (by omega)))
        clear hb2 HBW hc HTu
        go_wp2_with fail
        go_roundw
        case rel =>
          refine ⟨k + 1, F - x, by omega, by go_num, Lib.hid ?_, ?_, ?_, ?_⟩
          · have h1 := HN.out
            have h2 : Ph.turned ⟨s, e, hk⟩ x = ⟨s, e, F - x⟩ := by unfold Ph.turned; rw [HF.out]
            have h3 := (Ph.turned_ok h1.1).2.2.2
            rw [h2] at h1 h3
            exact ⟨h3, h1.2.1.symm.trans HR.out.2.1, by rw [← h1.2.2]; exact HR.out.2.2⟩
          · have g1 : w.heap.size < ((((w2.setCell ⟨w.heap.size, 0, none⟩ (.int .i64 s)).setCell ⟨w.heap.size, 1, none⟩ (.int .i64 e)).setCell ⟨w.heap.size, 2, none⟩ (.int .i64 (F - x)))).heap.size := by simp; omega
            refine ⟨?_, ?_, ?_, ?_, ?_, ?_⟩
            · go_simp
            · go_simp
            · go_simp
            · go_simp
            · go_simp
            · go_simp
          · simp; omega
          · exact (((HB2.out.setCell (by simp) _).setCell (by simp) _).setCell (by simp) _).alloc (by simp; omega) _
        case measure => simp [intOf]; omega
      · have hpk := Ph.tankErr_zero.1 HR.out.1
        simp only at hpk
        have HTu := Lib.hid fun W => tturn_no s e hk (l.getD k 0) W (by omega) (by omega) (by omega) hte
        have hre : Ph.turnErr ⟨s, e, hk⟩ (l.getD k 0) = E := (runErr_stop hkl ⟨s, e, hk⟩ hte).symm.trans HR.out.2.1
        rw [hre] at HTu hte
        obtain ⟨x, hxe⟩ : ∃ x, x = l.getD k 0 := ⟨_, rfl⟩
        rw [← hxe] at hc HTu
        rw [errV_ne hte] at HTu
        unfold tankV at HTu
        have HBW := Lib.hid hbw
        have HNE := Lib.hid hte
        clear hxe hbw hte hkl hre hpk HC
        go_wp2_with fail
        refine (HTu.out _).mono ?_
        rintro r w2 ⟨rfl, hb2⟩
        have HB2 := Lib.hid (HBW.out.trans (hb2.mono (by omega)))
        clear hb2 HBW hc HTu
        go_wp2_with fail
        go_ret2
        exact ⟨ret_two (by first | rfl | rw [if_neg HNE.out]) (by first | exact (errV_ne HNE.out).symm | rfl), by first | exact HB2.out | exact HB2.out.alloc (by have := HB2.out.size; simp; omega) _⟩
    · have e1 : l.drop k = [] := List.drop_of_length_le (by rw [HL.out]; omega)
      have e2 := HR.out.2
      rw [e1] at e2
      have e3 : E = 0 := e2.1.symm
      have e4 := e2.2
      have HE3 := Lib.hid e3
      clear e2 e3
      go_wp2_with fail
      go_ret2
      refine ⟨ret_two (congrArg (Value.int .i64) ?_) (by first | rfl | exact (errV_of HE3.out).symm), hbw⟩
      first | exact e4 | (rw [if_pos HE3.out]; exact e4)
theorem runE_long {l : List Int} {t : Ph.Tank} (h : 60 < l.length) : runE l t = 4 := by unfold runE; rw [if_pos h]
theorem runE_bad {l : List Int} {t : Ph.Tank} (h : ¬ 60 < l.length) (ht : Ph.tankErr t ≠ 0) : runE l t = 1 := by unfold runE; rw [if_neg h, if_pos ht]
theorem runE_ok {l : List Int} {t : Ph.Tank} (h : ¬ 60 < l.length) (ht : Ph.tankErr t = 0) : runE l t = Ph.runErr l t := by unfold runE; rw [if_neg h, if_neg (by omega)]
theorem trun_told (s e h : Int) (A : Option Addr) (n c : Nat) (l : List Int) (w : World) (B : Nat) (hr : RdI w B A n l) (hB : B ≤ w.heap.size) :
    Calls Tryd.prog 24 #[tankV s e h, .slice A n c] w fun r w' => r = .returned (.tuple #[.int .i64 (runV l ⟨s, e, h⟩), errV (runE l ⟨s, e, h⟩)]) ∧ Below w.heap.size w w' := by
  unfold runV
  by_cases h60 : 60 < n
  · rw [runE_long (by rw [hr.len]; exact h60), if_neg (by omega), errV_ne (by omega)]
    have h61 : (60 : Int) < n := by omega
    unfold tankV
    clear hr
    go_enter Tryd.func24, Tryd.ntmps24
    go_wp2_with fail
    go_ret2
    exact ⟨rfl, by first | exact below_alloc0 _ _ | exact (below_alloc0 _ _).alloc (by simp) _⟩
  · by_cases ht : Ph.tankErr ⟨s, e, h⟩ = 0
    · rw [runE_ok (by rw [hr.len]; exact h60) ht]
      exact trun_any s e h A n c l w B hr hB (by omega) ht
    · rw [runE_bad (by rw [hr.len]; exact h60) ht, if_neg (by omega), errV_ne (by omega)]
      have HC := Lib.hid fun W => tcheck_no s e h W (tank_bad ht)
      have h61 : ¬ (60 : Int) < n := by omega
      unfold tankV at HC ⊢
      clear hr ht
      go_enter Tryd.func24, Tryd.ntmps24
      go_wp2_with fail
      refine (HC.out _).mono ?_
      rintro r w1 ⟨rfl, hb1⟩
      have HB1 := Lib.hid ((below_alloc0 w (.cells #[.int .i64 s, .int .i64 e, .int .i64 h] 36)).trans (hb1.mono (by simp)))
      clear hb1
      go_wp2_with fail
      go_ret2
      exact ⟨rfl, HB1.out⟩
end Go.Proofs.YtfnbehjebmbbdaaDoor
