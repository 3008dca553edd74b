/- Walks of a session (chapter 20): what each word wants (run.wants): a map, and what it tells. -/
import Derived.Test.YtjdpgakkphdjlaaGreatDoorRunN
import Derived.Maps.OwnOps
import Derived.Maps.Views
namespace Go.Proofs.YtjdpgakkphdjlaaGreatDoor
open Go.RowKit Go.Maps

def wantD (x : Pr.Want) : DataW Unit := .agg [.lit (.int .i64 (x.many : Nat)), .lit (.bool x.more), .lit (.int .i64 (x.below : Nat))]
theorem wantV_inj {x y : Pr.Want} (h : wantV x = wantV y) : x = y := by
  unfold wantV at h
  obtain ⟨m, mo, b⟩ := x
  obtain ⟨m2, mo2, b2⟩ := y
  simp at h
  obtain ⟨h1, rfl, h3⟩ := h
  obtain rfl : m = m2 := by omega
  obtain rfl : b = b2 := by omega
  rfl
theorem wantD_inj {x y : Pr.Want} (h : wantD x = wantD y) : x = y := by
  unfold wantD at h
  obtain ⟨m, mo, b⟩ := x
  obtain ⟨m2, mo2, b2⟩ := y
  simp at h
  obtain ⟨h1, rfl, h3⟩ := h
  obtain rfl : m = m2 := by omega
  obtain rfl : b = b2 := by omega
  rfl
open Classical in
/-- How a want reads. -/
noncomputable def wantR (v : Value) : Option (DataW Unit × List MemPlace) := if h : ∃ x, v = wantV x then some (wantD h.choose, []) else none
theorem wantR_mk (x : Pr.Want) : wantR (wantV x) = some (wantD x, []) := by
  have h : ∃ y, wantV x = wantV y := ⟨x, rfl⟩
  unfold wantR
  rw [dif_pos h, ← wantV_inj h.choose_spec]
theorem wantR_inv {v : Value} {x : Pr.Want} {ps : List MemPlace} (h : wantR v = some (wantD x, ps)) : v = wantV x := by
  unfold wantR at h
  split at h
  · rename_i hx
    have h2 : wantD hx.choose = wantD x := by injection h with h; injection h
    rw [hx.choose_spec, wantD_inj h2]
  · cases h
def keyB (l : List UInt8) : Lit := .string l
/-- The table. -/
def wantsD : DataW Unit :=
  ((((((((DataW.map []).put (keyB Pr.wCount) (wantD ⟨2, false, 99⟩)).put (keyB Pr.wRank) (wantD ⟨1, true, 0⟩)).put (keyB Pr.wRow) (wantD ⟨3, false, 99⟩)).put (keyB Pr.wNear) (wantD ⟨2, true, 1⟩)).put (keyB Pr.wGain) (wantD ⟨1, false, 99⟩)).put (keyB Pr.wTurn) (wantD ⟨1, false, 99⟩)).put (keyB Pr.wMay) (wantD ⟨0, false, 99⟩))
theorem skeyed : Keyed Tryz.prog 9 := string_keyed Tryz.underlying9
/-- A map literal's entry. -/
theorem wpList_insert_own {H : Type} {P : Program} (w : World) {ops : Array Oper} {rest : List Oper} {o : Oper} {a : Act} {Q : Exit → Act → World → Prop}
    (hg : o.guard = none) (m x v : Operand) (t : TypeId) (hop : o.op = Op.insert t m x v)
    (k e : TypeId) (K : Keyed P k) (ht : P.underlying t = some (.map k e)) (R : Value → Option (DataW H × List MemPlace)) (b n : Nat) (D : DataW H)
    (hm : a.eval m = .map (some b)) (hown : w.ownsMap P k R b n D) (hn : n < maxLen) (key val : Value) (kl : Lit) (hx : a.eval x = key) (hv : a.eval v = val) (hkey : keyOf P k key = some kl)
    (d : DataW H) (ps : List MemPlace) (hval : R val = some (d, ps))
    (hK : ∀ w', w'.ownsMap P k R b (n + 1) (D.put kl d) → w.grownBy w' (some b) → wpList P ops Q rest (a.put o.dst undef) w') :
    wpList P ops Q (o :: rest) a w := by
  refine wpList_plain hg fun K' hK' => ?_
  obtain ⟨w', hrun, r1, r2⟩ := hown.update K ht hn hkey hval
  unfold Oper.wp
  simp [execOp, hop, hm, hx, hv, hrun, Result.andThen]
  exact hK' _ _ (hK w' r1 r2)
def WantsP (w : World) (e : Ending) (w' : World) : Prop := ∃ b, e = .returned (.map (some b)) ∧ w'.ownsMap Tryz.prog 9 wantR b 7 wantsD ∧ w.heap.size ≤ b ∧ Below w.heap.size w w'
set_option maxHeartbeats 2000000 in
set_option maxRecDepth 100000 in
theorem wants_any (w : World) : Calls Tryz.prog 42 #[] w (WantsP w) := by
  have hmm := @run_makeMap Tryz.prog
  have hk : ∀ l : List UInt8, l.length ≤ 10 → keyOf Tryz.prog 9 (.string (strL l)) = some (keyB l) := fun l hl => by
    have h := Go.WideMaps.keyOf_string_mk Tryz.underlying9 (s := strL l) (by rw [strL_size]; unfold maxLen; omega)
    rw [h]; unfold keyB strL; simp
  have HO := Lib.hid (World.ownsMap_made (H := Unit) w Tryz.prog 9 wantR)
  have HB := Lib.hid (below_alloc0 w (.map #[] 0))
  go_enter Tryz.func42, Tryz.ntmps42
  go_wp2_with (first
    | (refine wpList_insert_own _ (by rfl) _ _ _ 83 (by rfl) 9 81 skeyed Tryz.underlying83 wantR w.heap.size _ _ (by rfl) HO.out (by unfold maxLen; omega) (.string (strL Pr.wCount)) (wantV ⟨2, false, 99⟩) (keyB Pr.wCount) (by rfl) (by rfl) (hk _ (by decide)) (wantD ⟨2, false, 99⟩) [] (wantR_mk _) ?_; intro w1 hown1 hgrow1; replace HB := Lib.hid (HB.out.grown hgrow1 HB.out.size fun j hj => by cases hj; exact Nat.le_refl _); replace HO := Lib.hid hown1; clear hown1 hgrow1)
    | (refine wpList_insert_own _ (by rfl) _ _ _ 83 (by rfl) 9 81 skeyed Tryz.underlying83 wantR w.heap.size _ _ (by rfl) HO.out (by unfold maxLen; omega) (.string (strL Pr.wRank)) (wantV ⟨1, true, 0⟩) (keyB Pr.wRank) (by rfl) (by rfl) (hk _ (by decide)) (wantD ⟨1, true, 0⟩) [] (wantR_mk _) ?_; intro w1 hown1 hgrow1; replace HB := Lib.hid (HB.out.grown hgrow1 HB.out.size fun j hj => by cases hj; exact Nat.le_refl _); replace HO := Lib.hid hown1; clear hown1 hgrow1)
    | (refine wpList_insert_own _ (by rfl) _ _ _ 83 (by rfl) 9 81 skeyed Tryz.underlying83 wantR w.heap.size _ _ (by rfl) HO.out (by unfold maxLen; omega) (.string (strL Pr.wRow)) (wantV ⟨3, false, 99⟩) (keyB Pr.wRow) (by rfl) (by rfl) (hk _ (by decide)) (wantD ⟨3, false, 99⟩) [] (wantR_mk _) ?_; intro w1 hown1 hgrow1; replace HB := Lib.hid (HB.out.grown hgrow1 HB.out.size fun j hj => by cases hj; exact Nat.le_refl _); replace HO := Lib.hid hown1; clear hown1 hgrow1)
    | (refine wpList_insert_own _ (by rfl) _ _ _ 83 (by rfl) 9 81 skeyed Tryz.underlying83 wantR w.heap.size _ _ (by rfl) HO.out (by unfold maxLen; omega) (.string (strL Pr.wNear)) (wantV ⟨2, true, 1⟩) (keyB Pr.wNear) (by rfl) (by rfl) (hk _ (by decide)) (wantD ⟨2, true, 1⟩) [] (wantR_mk _) ?_; intro w1 hown1 hgrow1; replace HB := Lib.hid (HB.out.grown hgrow1 HB.out.size fun j hj => by cases hj; exact Nat.le_refl _); replace HO := Lib.hid hown1; clear hown1 hgrow1)
    | (refine wpList_insert_own _ (by rfl) _ _ _ 83 (by rfl) 9 81 skeyed Tryz.underlying83 wantR w.heap.size _ _ (by rfl) HO.out (by unfold maxLen; omega) (.string (strL Pr.wGain)) (wantV ⟨1, false, 99⟩) (keyB Pr.wGain) (by rfl) (by rfl) (hk _ (by decide)) (wantD ⟨1, false, 99⟩) [] (wantR_mk _) ?_; intro w1 hown1 hgrow1; replace HB := Lib.hid (HB.out.grown hgrow1 HB.out.size fun j hj => by cases hj; exact Nat.le_refl _); replace HO := Lib.hid hown1; clear hown1 hgrow1)
    | (refine wpList_insert_own _ (by rfl) _ _ _ 83 (by rfl) 9 81 skeyed Tryz.underlying83 wantR w.heap.size _ _ (by rfl) HO.out (by unfold maxLen; omega) (.string (strL Pr.wTurn)) (wantV ⟨1, false, 99⟩) (keyB Pr.wTurn) (by rfl) (by rfl) (hk _ (by decide)) (wantD ⟨1, false, 99⟩) [] (wantR_mk _) ?_; intro w1 hown1 hgrow1; replace HB := Lib.hid (HB.out.grown hgrow1 HB.out.size fun j hj => by cases hj; exact Nat.le_refl _); replace HO := Lib.hid hown1; clear hown1 hgrow1)
    | (refine wpList_insert_own _ (by rfl) _ _ _ 83 (by rfl) 9 81 skeyed Tryz.underlying83 wantR w.heap.size _ _ (by rfl) HO.out (by unfold maxLen; omega) (.string (strL Pr.wMay)) (wantV ⟨0, false, 99⟩) (keyB Pr.wMay) (by rfl) (by rfl) (hk _ (by decide)) (wantD ⟨0, false, 99⟩) [] (wantR_mk _) ?_; intro w1 hown1 hgrow1; replace HB := Lib.hid (HB.out.grown hgrow1 HB.out.size fun j hj => by cases hj; exact Nat.le_refl _); replace HO := Lib.hid hown1; clear hown1 hgrow1))
  go_ret
  exact ⟨_, rfl, HO.out, Nat.le_refl _, HB.out⟩
theorem isMap_put {D : DataW Unit} (h : IsMap D) (k : Lit) (d : DataW Unit) : IsMap (D.put k d) := by
  obtain ⟨es, rfl⟩ := h
  exact ⟨_, rfl⟩
theorem keyLit (l : List UInt8) : WideAt.IsKeyLit (keyB l) := by unfold keyB; trivial
theorem keyB_ne {a b : List UInt8} (h : ¬ a = b) : keyB a ≠ keyB b := fun e => h (by unfold keyB at e; injection e)
theorem wantsD_at (l : List UInt8) (z : DataW Unit) : wantsD.atKey (keyB l) z = (match Pr.wantOf l with
    | some x => wantD x
    | none => z) := by
  have m0 : IsMap (DataW.map [] : DataW Unit) := ⟨[], rfl⟩
  unfold wantsD Pr.wantOf
  by_cases h1 : l = Pr.wCount
  · subst h1
    rw [if_pos rfl, atKey_put_other (keyB_ne (by decide)), atKey_put_other (keyB_ne (by decide)), atKey_put_other (keyB_ne (by decide)), atKey_put_other (keyB_ne (by decide)), atKey_put_other (keyB_ne (by decide)), atKey_put_other (keyB_ne (by decide)), atKey_put_same m0 (keyLit _)]
  have m1 := isMap_put m0 (keyB Pr.wCount) (wantD ⟨2, false, 99⟩)
  rw [if_neg h1]
  by_cases h2 : l = Pr.wRank
  · subst h2
    rw [if_pos rfl, atKey_put_other (keyB_ne (by decide)), atKey_put_other (keyB_ne (by decide)), atKey_put_other (keyB_ne (by decide)), atKey_put_other (keyB_ne (by decide)), atKey_put_other (keyB_ne (by decide)), atKey_put_same m1 (keyLit _)]
  have m2 := isMap_put m1 (keyB Pr.wRank) (wantD ⟨1, true, 0⟩)
  rw [if_neg h2]
  by_cases h3 : l = Pr.wRow
  · subst h3
    rw [if_pos rfl, atKey_put_other (keyB_ne (by decide)), atKey_put_other (keyB_ne (by decide)), atKey_put_other (keyB_ne (by decide)), atKey_put_other (keyB_ne (by decide)), atKey_put_same m2 (keyLit _)]
  have m3 := isMap_put m2 (keyB Pr.wRow) (wantD ⟨3, false, 99⟩)
  rw [if_neg h3]
  by_cases h4 : l = Pr.wNear
  · subst h4
    rw [if_pos rfl, atKey_put_other (keyB_ne (by decide)), atKey_put_other (keyB_ne (by decide)), atKey_put_other (keyB_ne (by decide)), atKey_put_same m3 (keyLit _)]
  have m4 := isMap_put m3 (keyB Pr.wNear) (wantD ⟨2, true, 1⟩)
  rw [if_neg h4]
  by_cases h5 : l = Pr.wGain
  · subst h5
    rw [if_pos rfl, atKey_put_other (keyB_ne (by decide)), atKey_put_other (keyB_ne (by decide)), atKey_put_same m4 (keyLit _)]
  have m5 := isMap_put m4 (keyB Pr.wGain) (wantD ⟨1, false, 99⟩)
  rw [if_neg h5]
  by_cases h6 : l = Pr.wTurn
  · subst h6
    rw [if_pos rfl, atKey_put_other (keyB_ne (by decide)), atKey_put_same m5 (keyLit _)]
  have m6 := isMap_put m5 (keyB Pr.wTurn) (wantD ⟨1, false, 99⟩)
  rw [if_neg h6]
  by_cases h7 : l = Pr.wMay
  · subst h7
    rw [if_pos rfl, atKey_put_same m6 (keyLit _)]
  rw [if_neg h7, atKey_put_other (keyB_ne h7), atKey_put_other (keyB_ne h6), atKey_put_other (keyB_ne h5), atKey_put_other (keyB_ne h4), atKey_put_other (keyB_ne h3), atKey_put_other (keyB_ne h2), atKey_put_other (keyB_ne h1)]
  rfl
/-- What the table tells of a word. -/
def wantX (l : List UInt8) : Pr.Want := (Pr.wantOf l).getD ⟨0, false, 0⟩
theorem want_zero (w : World) : (zeroValue 81).run Tryz.prog w = .ok (wantV ⟨0, false, 0⟩) w := by kernel_rfl
theorem wants_look (w : World) (b : Nat) (s : ByteArray) (hs : s.size ≤ 100000) (hown : w.ownsMap Tryz.prog 9 wantR b 7 wantsD) :
    (Instr.lookup 83 (.map (some b)) (.string s) true).run Tryz.prog w = .ok (.tuple #[wantV (wantX s.data.toList), .bool (Pr.wantOf s.data.toList).isSome]) w := by
  have hkey : keyOf Tryz.prog 9 (.string s) = some (keyB s.data.toList) := Go.WideMaps.keyOf_string_mk Tryz.underlying9 (s := s) (by unfold maxLen; omega)
  obtain ⟨es, clock, hb, F, _, hD⟩ := hown
  have hat := wantsD_at s.data.toList
  rw [hD] at hat
  unfold wantX
  rcases Maps.fit_look true skeyed Tryz.underlying83 (want_zero w) hb F hkey with ⟨hrun, _, h2⟩ | ⟨e0, y, _, _, hrun, hRv, h2, _⟩
  · cases ho : Pr.wantOf s.data.toList with
    | none => rw [hrun]; rfl
    | some x =>
      rw [ho] at hat
      have h3 := (h2 (wantD ⟨x.many + 1, x.more, x.below⟩)).symm.trans (hat _)
      have := congrArg Pr.Want.many (wantD_inj h3)
      simp at this
  · cases ho : Pr.wantOf s.data.toList with
    | none =>
      rw [ho] at hat
      have h3 := (hat (wantD ⟨0, false, 0⟩)).symm.trans (h2 _)
      have h4 := (hat (wantD ⟨1, false, 0⟩)).symm.trans (h2 _)
      have := congrArg Pr.Want.many (wantD_inj (h3.trans h4.symm))
      simp at this
    | some x =>
      rw [ho] at hat
      have h3 : y.1 = wantD x := (h2 (wantD x)).symm.trans (hat _)
      have hv : e0.val = wantV x := wantR_inv (ps := y.2) (by rw [hRv, ← h3])
      rw [hrun, hv]; rfl
end Go.Proofs.YtjdpgakkphdjlaaGreatDoor
