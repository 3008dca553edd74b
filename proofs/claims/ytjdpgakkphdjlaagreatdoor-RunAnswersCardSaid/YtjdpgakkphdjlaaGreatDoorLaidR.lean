/- What the card's condition gives a walk of a session: strconv's table and its two errors, the handle of 'error', run's unread; and a world that meets it. -/
import Derived.Test.YtjdpgakkphdjlaaGreatDoorRunW
import Derived.LaidSub
import Derived.Lib.LaidTab
namespace Go.Proofs.YtjdpgakkphdjlaaGreatDoor
open Go.ChangeShapes Go.WideShapes Go.RowKit

/-- What a program's text lays into these variables. -/
def laid9 : List (String × DataW Unit) := [("math/bits.deBruijn32tab", Rows.laid_math_bits_deBruijn32tab), ("math/bits.deBruijn64tab", Rows.laid_math_bits_deBruijn64tab), ("internal/strconv.uint64pow10", Rows.laid_internal_strconv_uint64pow10), ("unicode/utf8.acceptRanges", Rows.laid_unicode_utf8_acceptRanges), ("errors.errorType", Rows.laid_errors_errorType), ("strconv.ErrRange", Rows.laid_strconv_ErrRange), ("strconv.ErrSyntax", Rows.laid_strconv_ErrSyntax), ("pulsehorn/run.unread", Rows.laid_pulsehorn_run_unread), ("unicode/utf8.first", Rows.laid_unicode_utf8_first)]
set_option maxRecDepth 100000 in
theorem one_of_laid9 {W : World} (h : laidMetH Tryz.prog laid9 W) (n : String) : laidMet Tryz.prog ((laid9.filter fun x => x.2.handleName?.isNone).filter fun x => x.1 == n) W :=
  (laidMetH_iff.1 h).1.filter fun x => x.1 == n
set_option maxRecDepth 100000 in
theorem handle_of_laid9 {W : World} (h : laidMetH Tryz.prog laid9 W) : Laid W := by
  have h1 := h.filter fun x => x.1 == "errors.errorType"
  have e : (laid9.filter fun x => x.1 == "errors.errorType") = laidx := by rfl
  rw [e] at h1
  exact handle_of_laid_x h1
set_option maxRecDepth 100000 in
theorem tab_of_laid9 {W : World} (h : laidMetH Tryz.prog laid9 W) : Lib.TabIs Tryz.prog W "internal/strconv.uint64pow10" .u64 Lib.pow10Tab := by
  have h1 := one_of_laid9 h "internal/strconv.uint64pow10"
  have e : ((laid9.filter fun x => x.2.handleName?.isNone).filter fun x => x.1 == "internal/strconv.uint64pow10") = [("internal/strconv.uint64pow10", Lib.tabData .u64 Lib.pow10Tab)] := by rfl
  rw [e] at h1
  exact Lib.tabIs_of_head (g := 5) (by kernel_rfl) (by kernel_rfl) Tryz.underlying171 Tryz.underlying147 (by kernel_rfl) (by kernel_rfl) h1
set_option maxRecDepth 100000 in
/-- What one variable holds. -/
theorem one_var {W : World} {n : String} {d : DataW Unit} {g : Nat} {t : TypeId} (h : laidMet Tryz.prog [(n, d)] W) (hg : Tryz.prog.globalNamed n = some g) (ht : (Tryz.prog.globals[g]?).map (·.type) = some t) :
    ∃ cs fuel p, W.var? Tryz.prog n = some cs ∧ DataW.trod (fun _ => ()) Tryz.prog W 0 (fun _ => true) false fuel t cs.toList = some (d, p) ∧
      ∀ i, i < cs.size → ∀ u v, W.cell? ⟨g, i, none⟩ = some (.iface u v) → Value.okWide Tryz.prog W .any 0 u v := by
  obtain ⟨ps, ⟨g', t', cs, fuel, p, q, hg', ht', hv, hd, _, rfl⟩, _, hok⟩ := h
  obtain rfl := Option.some.inj (hg.symm.trans hg')
  obtain rfl := Option.some.inj (ht.symm.trans ht')
  refine ⟨cs, fuel, p, hv, hd, fun i hi u v hc => (hok g i ?_).2 u v hc⟩
  simp only [List.mem_append]
  exact .inl (.inl (by simp [MemPlace.row]; exact hi))
set_option maxRecDepth 100000 in
theorem err_iface {W : World} {n : String} {nm : String} {d : DataW Unit} {g : Nat} (h : laidMet Tryz.prog [(n, .iface nm d)] W) (hg : Tryz.prog.globalNamed n = some g) (ht : (Tryz.prog.globals[g]?).map (·.type) = some 44) :
    ∃ ev, W.cell? ⟨g, 0, none⟩ = some ev ∧ (ev = .nilIface ∨ ∃ te pe, ev = .iface te pe) := by
  obtain ⟨cs, fuel, p, hv, hd, _⟩ := one_var h hg ht
  obtain ⟨f2, u, v, hcs, _, _⟩ := iface_of_trod Tryz.underlying44 hd
  have hc := World.var?_cell hg hv 0
  obtain rfl : cs = #[.iface u v] := by cases cs; simp_all
  exact ⟨_, hc, .inr ⟨u, v, rfl⟩⟩
set_option maxRecDepth 100000 in
theorem errno_row (u : TypeId) (h : Tryz.prog.typeName? 3 u = some "pulsehorn/api.Errno") : u = 69 := by
  by_cases hlt : u < Tryz.prog.types.size
  · have hr : ((List.range Tryz.prog.types.size).all fun u => Tryz.prog.typeName? 3 u != some "pulsehorn/api.Errno" || u == 69) = true := by kernel_rfl
    have := List.all_eq_true.1 hr u (List.mem_range.2 hlt)
    simpa [h] using this
  · exfalso
    unfold Program.typeName? at h
    cases hi : Tryz.prog.info? u with
    | none => simp [hi] at h
    | some i =>
      have hb := Tables.info?_beyond hlt hi
      simp only [hi] at h
      cases hd : i.desc <;> simp only [hd, TypeDesc.tableOnly] at h hb <;> try cases hb
      all_goals try cases h
      simp only [Option.map_eq_some_iff] at h
      obtain ⟨n', _, hs⟩ := h
      have := congrArg String.toList hs
      simp only [String.toList_append] at this
      exact absurd (congrArg List.head? this) (by simp)
set_option maxRecDepth 100000 in
theorem unread_of {W : World} (h : laidMet Tryz.prog [("pulsehorn/run.unread", Rows.laid_pulsehorn_run_unread)] W) : W.cell? ⟨0, 0, none⟩ = some (.iface 69 (.int .i64 2)) := by
  have hg : Tryz.prog.globalNamed "pulsehorn/run.unread" = some 0 := by kernel_rfl
  obtain ⟨cs, fuel, p, hv, hd, hok⟩ := one_var (g := 0) (t := 68) h hg (by kernel_rfl)
  unfold Rows.laid_pulsehorn_run_unread at hd
  obtain ⟨y0, m, hx, hl, hy⟩ := trod_struct1 Tryz.underlying68 hd
  simp only [Prod.mk.injEq, DataW.agg.injEq, List.cons.injEq, and_true] at hx
  obtain ⟨hx1, _⟩ := hx
  have hcl : cs.toList.length = 1 := hl.trans (by kernel_rfl)
  obtain ⟨c, hc1⟩ : ∃ c, cs = #[c] := by
    match cs, hcl with
    | ⟨[c]⟩, _ => exact ⟨c, rfl⟩
  subst hc1
  have hce : Tryz.prog.cellsOf 44 = 1 := by kernel_rfl
  obtain ⟨z, q⟩ := y0
  simp only at hx1
  subst hx1
  obtain ⟨f2, u, v, hcs, hn, h2⟩ := iface_of_trod Tryz.underlying44 hy
  obtain rfl := errno_row u hn
  obtain ⟨k, hk, hk2, _⟩ := DataW.trod_int Tryz.underlying69 h2
  simp only [Prod.mk.injEq, DataW.lit.injEq, Lit.int.injEq, true_and] at hk2
  obtain ⟨rfl, _⟩ := hk2
  have hc0 := World.var?_cell hg hv 0
  have hce0 : c = .iface 69 v := by
    simpa [hce] using hcs
  subst hce0
  have ok := hok 0 (by simp) _ _ hc0
  have hve : v = .int .i64 2 := by
    unfold Value.okWide at ok
    simp only [Tryz.underlying69] at ok
    unfold Cell.okWide at ok
    cases v <;> simp [Value.cells, Cell.ok, Tryz.underlying69] at ok hk
    simpa using hk
  subst hve
  exact hc0
set_option maxRecDepth 100000 in
theorem runG_of_laid9 {W : World} (h : laidMetH Tryz.prog laid9 W) : RunG W :=
  ⟨tab_of_laid9 h,
   err_iface (d := .ptr (.agg [.lit (.string [105, 110, 118, 97, 108, 105, 100, 32, 115, 121, 110, 116, 97, 120])])) (one_of_laid9 h "strconv.ErrSyntax") (by kernel_rfl) (by kernel_rfl),
   err_iface (d := .ptr (.agg [.lit (.string [118, 97, 108, 117, 101, 32, 111, 117, 116, 32, 111, 102, 32, 114, 97, 110, 103, 101])])) (one_of_laid9 h "strconv.ErrRange") (by kernel_rfl) (by kernel_rfl),
   handle_of_laid9 h, unread_of (one_of_laid9 h "pulsehorn/run.unread")⟩
/-- The cells of plain data. -/
def flatCells : DataW Unit → List Value
  | .agg l => l.flatMap fun x => match x with
    | .lit (.int k z) => [.int k z]
    | .agg [.lit (.int k z), .lit (.int k2 z2)] => [.int k z, .int k2 z2]
    | _ => []
  | _ => []
noncomputable def laidWorld9 (os : Os) : World :=
  let w0 := laidWorld os
  let put := fun (d : DataW Unit) (o : Obj) => match o with
    | .cells c t frozen => Obj.cells ((flatCells d).toArray ++ c.extract (flatCells d).length c.size) t frozen
    | o => o
  let one := fun (v : Value) (o : Obj) => match o with
    | .cells _ t frozen => Obj.cells #[v] t frozen
    | o => o
  let h1 := (((w0.heap.modify 8 (put Rows.laid_math_bits_deBruijn32tab)).modify 9 (put Rows.laid_math_bits_deBruijn64tab)).modify 5 (put Rows.laid_internal_strconv_uint64pow10)).modify 4 (put Rows.laid_unicode_utf8_acceptRanges)
  let h2 := (h1.modify 3 (put Rows.laid_unicode_utf8_first)).modify 0 (one (.iface 69 (.int .i64 2)))
  let n := h2.size
  { w0 with heap := (((h2.modify 7 (one (.iface 179 (.pointer (some ⟨n, 0, none⟩))))).modify 6 (one (.iface 179 (.pointer (some ⟨n + 1, 0, none⟩))))).push
      (.cells #[.string ⟨#[118, 97, 108, 117, 101, 32, 111, 117, 116, 32, 111, 102, 32, 114, 97, 110, 103, 101]⟩] 181 (0, 0))).push (.cells #[.string ⟨#[105, 110, 118, 97, 108, 105, 100, 32, 115, 121, 110, 116, 97, 120]⟩] 181 (0, 0)) }
set_option maxRecDepth 100000 in
theorem laidWorld9_met (os : Os) (args : Array Value) : laidMetH Tryz.prog laid9 ((laidWorld9 os).forCall (fun _ _ => 0) ⟨#[], args, []⟩).memory :=
  laidMetH_of_parts (laidMet_of_run' 8 (by kernel_rfl) (by kernel_rfl)) (by kernel_rfl)
end Go.Proofs.YtjdpgakkphdjlaaGreatDoor
