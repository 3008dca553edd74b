/- Walks: a tank, turns in a row, whatever comes (chapter 15). -/
import Derived.Test.YtjdpgakkphdjlaaGreatDoorTank
namespace Go.Proofs.YtjdpgakkphdjlaaGreatDoor
open Go.RowKit

/-- The fault of turns in a row; how many there are at last. -/
def runE (l : List Int) (t : Ph.Tank) : Int := if 60 < l.length then 4 else if Ph.tankErr t ≠ 0 then 1 else Ph.runErr l t
def runV (l : List Int) (t : Ph.Tank) : Int := if runE l t = 0 then (Ph.runT l t).has else 0
theorem tankErr_two (t : Ph.Tank) : Ph.tankErr t = 0 ∨ Ph.tankErr t = 1 := by unfold Ph.tankErr; split <;> simp
theorem turnErr_bd (t : Ph.Tank) (b : Int) : 0 ≤ Ph.turnErr t b ∧ Ph.turnErr t b ≤ 8 := by
  unfold Ph.turnErr; split <;> (try split) <;> (try split) <;> omega
theorem runErr_bd : ∀ (l : List Int) (t : Ph.Tank), 0 ≤ Ph.runErr l t ∧ Ph.runErr l t ≤ 8
  | [], _ => by simp [Ph.runErr]
  | n :: l, t => by
    unfold Ph.runErr
    split
    · exact turnErr_bd t n
    · exact runErr_bd l _
theorem runE_bd (l : List Int) (t : Ph.Tank) : 0 ≤ runE l t ∧ runE l t ≤ 8 := by
  unfold runE
  split
  · omega
  · split
    · omega
    · exact runErr_bd l t
theorem run_head {l : List Int} {k : Nat} (hk : k < l.length) : l.drop k = l.getD k 0 :: l.drop (k + 1) := by
  rw [List.getD_eq_getElem?_getD, List.getElem?_eq_getElem hk]
  exact List.drop_eq_getElem_cons hk
theorem runErr_stop {l : List Int} {k : Nat} (hk : k < l.length) (t : Ph.Tank) (h : Ph.turnErr t (l.getD k 0) ≠ 0) : Ph.runErr (l.drop k) t = Ph.turnErr t (l.getD k 0) := by
  rw [run_head hk, Ph.runErr, if_pos h]
theorem runErr_go {l : List Int} {k : Nat} (hk : k < l.length) (t : Ph.Tank) (h : Ph.turnErr t (l.getD k 0) = 0) : Ph.runErr (l.drop k) t = Ph.runErr (l.drop (k + 1)) (Ph.turned t (l.getD k 0)) := by
  rw [run_head hk, Ph.runErr, if_neg (by omega)]
theorem runT_go {l : List Int} {k : Nat} (hk : k < l.length) (t : Ph.Tank) : Ph.runT (l.drop k) t = Ph.runT (l.drop (k + 1)) (Ph.turned t (l.getD k 0)) := by
  rw [run_head hk]
  rfl
theorem runE_long {l : List Int} {t : Ph.Tank} (h : 60 < l.length) : runE l t = 4 := by unfold runE; rw [if_pos h]
theorem runE_bad {l : List Int} {t : Ph.Tank} (h : ¬ 60 < l.length) (ht : Ph.tankErr t ≠ 0) : runE l t = 1 := by unfold runE; rw [if_neg h, if_pos ht]
theorem runE_ok {l : List Int} {t : Ph.Tank} (h : ¬ 60 < l.length) (ht : Ph.tankErr t = 0) : runE l t = Ph.runErr l t := by unfold runE; rw [if_neg h, if_neg (by omega)]
end Go.Proofs.YtjdpgakkphdjlaaGreatDoor
