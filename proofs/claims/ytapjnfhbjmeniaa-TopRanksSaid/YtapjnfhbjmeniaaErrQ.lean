/- Is an error nil, where it is not known which it is? -/
import Derived.Test.YtapjnfhbjmeniaaMem
import Derived.WalkKit
namespace Go.Proofs.Ytapjnfhbjmeniaa
open Go.RowKit

theorem errV_eql (E : Int) (W : World) : (binOp .eql 24 (errV E) .nilIface).run Try.prog W = .ok (.bool (E == 0)) W := by
  by_cases h : E = 0
  · subst h
    rw [errV_zero]
    go_simp
  · rw [errV_ne h]
    have hb : (E == 0) = false := by simp [h]
    rw [hb]
    go_simp
theorem errV_neq (E : Int) (W : World) : (binOp .neq 24 (errV E) .nilIface).run Try.prog W = .ok (.bool (E != 0)) W := by
  by_cases h : E = 0
  · subst h
    rw [errV_zero]
    go_simp
  · rw [errV_ne h]
    have hb : (E != 0) = true := by simp [h]
    rw [hb]
    go_simp
theorem errV_geql (E : Int) (k : Nat) (W : World) : (eqGuard .eql 24 (.tmp k) (.const .nilIface) (errV E) .nilIface).run Try.prog W = .ok () W := by
  by_cases h : E = 0
  · subst h
    rw [errV_zero]
    go_simp
  · rw [errV_ne h]
    go_simp
theorem errV_gneq (E : Int) (k : Nat) (W : World) : (eqGuard .neq 24 (.tmp k) (.const .nilIface) (errV E) .nilIface).run Try.prog W = .ok () W := by
  by_cases h : E = 0
  · subst h
    rw [errV_zero]
    go_simp
  · rw [errV_ne h]
    go_simp
end Go.Proofs.Ytapjnfhbjmeniaa
