/- What the card's condition gives a walk that keeps frames: the handle of 'error', and strconv's table; and a world that meets it. -/
import Derived.Test.YtmohilfebgahoaaGreatDoorLaid
import Derived.LaidSub
import Derived.Lib.LaidTab
import Derived.Lib.ItoaNum
namespace Go.Proofs.YtmohilfebgahoaaGreatDoor
open Go.ChangeShapes Go.WideShapes Go.RowKit

/-- What a program's text lays into these variables. -/
def laid4 : List (String × DataW Unit) := [("math/bits.deBruijn32tab", Rows.laid_math_bits_deBruijn32tab), ("math/bits.deBruijn64tab", Rows.laid_math_bits_deBruijn64tab), ("internal/strconv.uint64pow10", Rows.laid_internal_strconv_uint64pow10), ("errors.errorType", Rows.laid_errors_errorType)]
theorem handle_of_laid4 {W : World} (h : laidMetH Tryz.prog laid4 W) : Laid W := by
  have h1 := h.filter fun x => x.1 == "errors.errorType"
  have e : (laid4.filter fun x => x.1 == "errors.errorType") = laidx := by rfl
  rw [e] at h1
  exact handle_of_laid_x h1
theorem tab_of_laid4 {W : World} (h : laidMetH Tryz.prog laid4 W) : Lib.TabIs Tryz.prog W "internal/strconv.uint64pow10" .u64 Lib.pow10Tab := by
  have h1 := (laidMetH_iff.1 h).1.filter fun x => x.1 == "internal/strconv.uint64pow10"
  have e : ((laid4.filter fun x => x.2.handleName?.isNone).filter fun x => x.1 == "internal/strconv.uint64pow10") = [("internal/strconv.uint64pow10", Lib.tabData .u64 Lib.pow10Tab)] := by rfl
  rw [e] at h1
  exact Lib.tabIs_of_head (g := 2) (by kernel_rfl) (by kernel_rfl) Tryz.underlying178 Tryz.underlying152 (by kernel_rfl) (by kernel_rfl) h1
/-- The cells of a table. -/
def tabCells : DataW Unit → List Value
  | .agg l => l.map fun x => match x with
    | .lit (.int k z) => .int k z
    | _ => .nilIface
  | _ => []
noncomputable def laidWorld4 (os : Os) : World :=
  let w0 := laidWorld os
  let put := fun (d : DataW Unit) (o : Obj) => match o with
    | .cells _ t frozen => Obj.cells (tabCells d).toArray t frozen
    | o => o
  { w0 with heap := ((w0.heap.modify 3 (put Rows.laid_math_bits_deBruijn32tab)).modify 4 (put Rows.laid_math_bits_deBruijn64tab)).modify 2 (put Rows.laid_internal_strconv_uint64pow10) }
theorem laidWorld4_met (os : Os) (args : Array Value) : laidMetH Tryz.prog laid4 ((laidWorld4 os).forCall (fun _ _ => 0) ⟨#[], args, []⟩).memory :=
  laidMetH_of_parts (laidMet_of_run' 8 (by kernel_rfl) (by kernel_rfl)) (by kernel_rfl)
end Go.Proofs.YtmohilfebgahoaaGreatDoor
