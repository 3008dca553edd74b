/- What the second form's bound gives for one argument: a slice of ints of so many places, a string of so many letters. -/
import Derived.Test.YtlilommhdjdblaaDoorRows
import Derived.Test.YtlilommhdjdblaaDoorMem
import Derived.Test.YtlilommhdjdblaaDoorOpen
import Derived.Deep.CondSized
import Derived.JoinedCond
namespace Go.Proofs.YtlilommhdjdblaaDoor
open Go.ChangeShapes Go.WideShapes Go.ChangeAt Go.RowKit

theorem bulk_pos {H : Type} (d : DataW H) : 1 ≤ Rows.uptoBulk d := by
  cases d with
  | lit l => cases l <;> simp [Rows.uptoBulk]
  | nil => simp [Rows.uptoBulk]
  | ptr d => simp [Rows.uptoBulk]
  | slice elems spare => simp [Rows.uptoBulk]
  | agg parts => simp [Rows.uptoBulk]
  | iface t d => simp [Rows.uptoBulk]
  | map entries => simp [Rows.uptoBulk]
  | held h => simp [Rows.uptoBulk]
theorem bulk_len {H : Type} (l : List (DataW H)) : l.length ≤ Rows.uptoBulkAll l := by
  induction l with
  | nil => simp [Rows.uptoBulkAll]
  | cons x r ih => have := bulk_pos x; simp only [Rows.uptoBulkAll, List.length_cons]; omega
theorem bulk_mem {H : Type} {d : DataW H} {l : List (DataW H)} (h : d ∈ l) : Rows.uptoBulk d ≤ Rows.uptoBulkAll l := by
  induction l with
  | nil => cases h
  | cons x r ih =>
    simp only [Rows.uptoBulkAll]
    rcases List.mem_cons.1 h with e | e
    · subst e; omega
    · have := ih e; omega
/-- One argument's share of the bound. -/
theorem upto_part {H : Type} {ds gs : List (DataW H)} (hk : Rows.uptoSmall H (ds ++ gs) = true) {j : Nat} {d : DataW H} (h : ds[j]? = some d) : Rows.uptoBulk d ≤ 1048576 := by
  have h1 : Rows.uptoBulkAll (ds ++ gs) ≤ 1048576 := of_decide_eq_true hk
  have h2 := bulk_mem (List.mem_append_left gs (List.mem_of_getElem? h))
  omega
/-- A slice of ints: its places. -/
theorem ints_small {H : Type} {enc : TypeId × Value → H} {W : World} {ds gs : List (DataW H)} (hk : Rows.uptoSmall H (ds ++ gs) = true) {j : Nat} {A : Option Addr} {n c : Nat} {d : DataW H} {p : List MemPlace}
    (hd : ds[j]? = some d) (h : DataW.Trod enc Tryd.prog W 0 (fun _ => true) true 22 (.slice A n c) d p) : n ≤ 1048576 := by
  have hb := upto_part hk hd
  obtain ⟨fuel, hf⟩ := h
  rcases open_ints Tryd.underlying22 Tryd.underlying3 cells_int hf with ⟨hcs, _⟩ | ⟨x, len, cap, zs, hcs, _, hl, hm, hz, hx, hcell, hwz⟩
  · simp [Value.cells] at hcs
    omega
  · simp [Value.cells] at hcs
    obtain ⟨rfl, rfl, rfl⟩ := hcs
    simp only [if_true] at hz
    have hd2 : d = .slice (lits .i64 (zs.take n)) (lits .i64 (zs.drop n)) := by injection hx
    rw [hd2] at hb
    simp only [Rows.uptoBulk] at hb
    have h1 := bulk_len (lits (H := H) .i64 (zs.take n))
    have h2 : (lits (H := H) .i64 (zs.take n)).length = n := by simp [lits]; omega
    omega
/-- A string's letters. -/
theorem string_small {H : Type} {ds gs : List (DataW H)} (hk : Rows.uptoSmall H (ds ++ gs) = true) {j : Nat} {s : ByteArray} (hd : ds[j]? = some (.lit (.string s.data.toList))) : s.size ≤ 1048576 := by
  have hb := upto_part hk hd
  simp only [Rows.uptoBulk] at hb
  have e : s.data.toList.length = s.size := by rw [Array.length_toList]; rfl
  omega
end Go.Proofs.YtlilommhdjdblaaDoor
