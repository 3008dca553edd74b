/- Plain facts: the pulses of each part. -/
import Derived.Test.YtlilommhdjdblaaDoorFrame
namespace Go.Proofs.YtlilommhdjdblaaDoor

theorem vals_len (ps : List Ph.Part) : (Ph.vals ps).length = ps.length := by unfold Ph.vals; simp
/-- The pulses of each part. -/
def louds (ps : List Ph.Part) : List Int := ps.map fun p => Ph.loud p.pulses
theorem louds_len (ps : List Ph.Part) : (louds ps).length = ps.length := by unfold louds; simp
theorem louds_take (ps : List Ph.Part) (k : Nat) (h : k < ps.length) : (louds ps).take (k + 1) = (louds ps).take k ++ [Ph.loud (ps.getD k ⟨0, []⟩).pulses] := by
  unfold louds
  rw [List.take_succ_eq_append_getElem (by simpa using h), List.getElem_map, List.getD_eq_getElem?_getD, List.getElem?_eq_getElem h]
  rfl
theorem louds_get (ps : List Ph.Part) (k : Nat) (h : k < ps.length) : (louds ps).getD k 0 = Ph.loud (ps.getD k ⟨0, []⟩).pulses := by
  unfold louds
  rw [List.getD_eq_getElem?_getD, List.getElem?_map, List.getD_eq_getElem?_getD, List.getElem?_eq_getElem h]; rfl
end Go.Proofs.YtlilommhdjdblaaDoor
