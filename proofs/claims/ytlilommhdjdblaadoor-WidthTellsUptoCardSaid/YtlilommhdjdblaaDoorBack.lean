/- A contract: slices.Backward over numbers: what it yields, from the last to the first. -/
import Derived.Test.YtlilommhdjdblaaDoorTwo
import Derived.Sort.QuietIn
import Derived.WalkKit
import Derived.Shelf.Abstract
import Derived.LoopNIn
namespace Go.Proofs.YtlilommhdjdblaaDoor
open Go.RowKit

attribute [local go_sem] Oper.semAt_some

/-- What a round that goes on keeps: the iterator's own variable, and all below n₀. -/
def KeepB (n₀ Bs : Nat) (W W' : World) : Prop := W'.cell? ⟨Bs, 0, none⟩ = W.cell? ⟨Bs, 0, none⟩ ∧ Below n₀ W W'
theorem KeepB.t {n₀ Bs : Nat} {A B C : World} (h : KeepB n₀ Bs A B) (k : KeepB n₀ Bs B C) : KeepB n₀ Bs A C := ⟨k.1.trans h.1, h.2.trans k.2⟩
theorem KeepB.b {n₀ Bs : Nat} {w : World} (h0 : n₀ ≤ w.heap.size) (h1 : Bs < w.heap.size) (W : World) (l : Nat) (o o' : Obj) (hl : w.heap.size ≤ l) (_ : W.heap[l]? = some o) (_ : o.isCells = false) (_ : o.isWalk = false) : KeepB n₀ Bs W (W.putObj l o') :=
  ⟨World.cell?_of_block (World.putObj_heap_other (by show Bs ≠ l; omega)), ⟨rfl, rfl, rfl, by simp, fun k hk => World.putObj_heap_other (by show k ≠ l; omega)⟩⟩
/-- So many have come: the last k, the last one first. -/
def lastK (m k : Nat) : List (Fin m) := ((List.finRange m).reverse).take k
theorem lastK_succ {m k : Nat} (h : k < m) : lastK m (k + 1) = lastK m k ++ [⟨m - 1 - k, by omega⟩] := by
  unfold lastK
  rw [List.take_add_one]
  congr 1
  rw [List.getElem?_eq_getElem (by simpa using h)]
  simp
theorem lastK_length {m k : Nat} (h : k ≤ m) : (lastK m k).length = k := by simp [lastK]; omega
theorem lastK_all (m : Nat) : lastK m m = (List.finRange m).reverse := List.take_of_length_le (by simp)
end Go.Proofs.YtlilommhdjdblaaDoor
