/- What a walk of the reference's Line (hornref2) leans on. -/
import Derived.Test.YtjdpgakkphdjlaaGreatDoorRefNum
import Derived.Test.YtjdpgakkphdjlaaGreatDoorRunB
import Derived.Test.YtjdpgakkphdjlaaGreatDoorRefCount
import Derived.Test.YtjdpgakkphdjlaaGreatDoorRefPulse
import Derived.Test.YtjdpgakkphdjlaaGreatDoorRefNear
import Derived.Test.YtjdpgakkphdjlaaGreatDoorRefGain
import Derived.Test.YtjdpgakkphdjlaaGreatDoorRefTank
import Derived.Test.YtjdpgakkphdjlaaGreatDoorRef1
namespace Pr
open Go

theorem word_plain {b : Bool} {x : List UInt8} (h : ¬ (1 < x.length ∧ x.head? = some 45 ∧ b = true)) : wordL b x = if numOk x = true then some (valL x : Int) else none := by
  cases x with
  | nil => rfl
  | cons c r =>
    unfold wordL
    simp only
    by_cases hc : c = 45 ∧ b = true
    · have hr : r = [] := by
        cases r with
        | nil => rfl
        | cons y r => exact absurd ⟨by simp, by rw [hc.1]; rfl, hc.2⟩ h
      rw [if_pos hc, hr, hc.1]
      rfl
    · rw [if_neg hc]
theorem word_minus (r : List UInt8) : wordL true (45 :: r) = if numOk r = true ∧ valL r ≠ 0 then some (-(valL r : Int)) else none := by
  unfold wordL
  simp
theorem args_at (below : Nat) (L : List (List UInt8)) {j : Nat} {ns : List Int} (h : argsL below 0 (L.take j) = some ns) (hj : j < L.length) : argsL below 0 (L.take (j + 1)) = (wordL (decide (below ≤ j)) (L.getD j [])).map fun n => ns ++ [n] := by
  have e : L.take (j + 1) = L.take j ++ [L.getD j []] := by
    rw [List.take_add_one, List.getElem?_eq_getElem hj, List.getD_eq_getElem?_getD, List.getElem?_eq_getElem hj]; rfl
  rw [e, argsL_snoc, h]
  show (wordL (decide (below ≤ 0 + (L.take j).length)) (L.getD j [])).map (fun n => ns ++ [n]) = _
  rw [List.length_take, Nat.min_eq_left (Nat.le_of_lt hj), Nat.zero_add]
theorem args_fail (below : Nat) (L : List (List UInt8)) {j : Nat} (h : argsL below 0 (L.take j) = none) : argsL below 0 L = none := by
  have := argsL_stop below (L.take j) (L.drop j) 0 h
  rwa [List.take_append_drop] at this
end Pr
namespace Go.Proofs.YtjdpgakkphdjlaaGreatDoor
open Go.RowKit

/-- What a word wants, as the reference keeps it. -/
def wantI (w : List UInt8) : Int × Bool × Nat := match Pr.wantOf w with
  | none => (-1, false, 99)
  | some x => ((x.many : Int), x.more, x.below)
theorem wantI_bd (w : List UInt8) : (wantI w).2.2 ≤ 99 ∧ (wantI w).1 ≤ 3 := by
  unfold wantI
  cases hx : Pr.wantOf w with
  | none => exact ⟨by decide, by decide⟩
  | some x =>
    unfold Pr.wantOf at hx
    repeat' split at hx
    all_goals first | (cases hx; exact ⟨by decide, by decide⟩) | cases hx
/-- The answer to a line, and the tank then. -/
def LineR (t : Ph.Tank) (l : List UInt8) (w : World) (e : Ending) (w' : World) : Prop :=
  ∃ q d, e = .returned (.tuple #[.string (strL q), .agg #[.int .i64 d.size, .int .i64 d.each, .int .i64 d.has]]) ∧ Pr.lineL t l = (q, d) ∧ Below w.heap.size w w'
/-- Its two blocks. -/
structure LnW (w : World) (t : Ph.Tank) (W : World) : Prop where
  bt : W.heap[w.heap.size]? = some (.cells #[.int .i64 t.size, .int .i64 t.each, .int .i64 t.has] 26 (0, 0))
  br : W.heap[w.heap.size + 1]? = some (.cells #[.int .i64 0, .int .i64 0, .int .i64 0] 26 (0, 0))
  bel : Below w.heap.size w W
theorem LnW.sz {w W : World} {t : Ph.Tank} (h : LnW w t W) : w.heap.size + 2 ≤ W.heap.size := (Array.getElem?_eq_some_iff.1 h.br).1
theorem LnW.below {w W W' : World} {t : Ph.Tank} (h : LnW w t W) (hb : Below W.heap.size W W') : LnW w t W' :=
  ⟨(hb.block _ (by have := h.sz; omega)).trans h.bt, (hb.block _ (by have := h.sz; omega)).trans h.br, below_on h.bel hb⟩
theorem LnW.drew {w W : World} {t : Ph.Tank} (h : LnW w t W) : LnW w t W.drew := h.below ⟨rfl, rfl, rfl, Nat.le_refl _, fun _ _ => rfl⟩
theorem LnW.alloc {w W : World} {t : Ph.Tank} (h : LnW w t W) (o : Obj) : LnW w t (W.alloc o) := h.below (below_alloc0 _ _)
theorem LnW.tank {w W : World} {t : Ph.Tank} (h : LnW w t W) : W.cell? ⟨w.heap.size, 0, none⟩ = some (.int .i64 t.size) ∧ W.cell? ⟨w.heap.size, 1, none⟩ = some (.int .i64 t.each) ∧ W.cell? ⟨w.heap.size, 2, none⟩ = some (.int .i64 t.has) :=
  ⟨cell_of_row W _ 0 _ _ (0, 0) h.bt, cell_of_row W _ 1 _ _ (0, 0) h.bt, cell_of_row W _ 2 _ _ (0, 0) h.bt⟩
theorem LnW.res {w W : World} {t : Ph.Tank} (h : LnW w t W) : (W.cell? ⟨w.heap.size + 1, 0, none⟩ = some (.int .i64 0) ∧ W.cell? ⟨w.heap.size + 1, 1, none⟩ = some (.int .i64 0) ∧ W.cell? ⟨w.heap.size + 1, 2, none⟩ = some (.int .i64 0)) ∧ (W.frozen? ⟨w.heap.size + 1, 0, none⟩ = false ∧ W.frozen? ⟨w.heap.size + 1, 1, none⟩ = false ∧ W.frozen? ⟨w.heap.size + 1, 2, none⟩ = false) :=
  ⟨⟨cell_of_row W _ 0 _ _ (0, 0) h.br, cell_of_row W _ 1 _ _ (0, 0) h.br, cell_of_row W _ 2 _ _ (0, 0) h.br⟩, frozen_of_row W _ 0 _ _ h.br, frozen_of_row W _ 1 _ _ h.br, frozen_of_row W _ 2 _ _ h.br⟩
theorem LnW.below' {w W : World} {t : Ph.Tank} (h : LnW w t W) (a b c : Value) : Below w.heap.size w (((W.setCell ⟨w.heap.size + 1, 0, none⟩ a).setCell ⟨w.heap.size + 1, 1, none⟩ b).setCell ⟨w.heap.size + 1, 2, none⟩ c) :=
  ((h.bel.setCell (by show w.heap.size ≤ w.heap.size + 1; omega) a).setCell (by show w.heap.size ≤ w.heap.size + 1; omega) b).setCell (by show w.heap.size ≤ w.heap.size + 1; omega) c
theorem keepA {w : World} {o : Obj} {p : Addr} {v : Value} (h : w.cell? p = some v) : (w.alloc o).cell? p = some v := (World.cell?_alloc_lt w o p (cell_lt h)).trans h
theorem keepB {w w' : World} {p : Addr} {v : Value} (h : w.cell? p = some v) (hb : Below w.heap.size w w') : w'.cell? p = some v := (hb.cell (cell_lt h)).trans h
theorem keepS {w : World} {q p : Addr} {u v : Value} (h : w.cell? p = some v) (hne : p.block ≠ q.block) : (w.setCell q u).cell? p = some v := (World.cell?_of_block (heap_setCell_other w q p.block u hne)).trans h
theorem keepR {w W : World} {g off : Nat} {v a b c : Value} (h : W.cell? ⟨g, off, none⟩ = some v) (hne : g ≠ w.heap.size + 1) : (((W.setCell ⟨w.heap.size + 1, 0, none⟩ a).setCell ⟨w.heap.size + 1, 1, none⟩ b).setCell ⟨w.heap.size + 1, 2, none⟩ c).cell? ⟨g, off, none⟩ = some v := keepS (keepS (keepS h hne) hne) hne
theorem gen_act {P : Program} {c : Code} {Q : Exit → Act → World → Prop} {w : World} {a0 : Act} (R : Act → Prop) (hR : R a0) (h : ∀ a, R a → Code.wp P c Q a w) : Code.wp P c Q a0 w := h a0 hR
theorem set_ne (T : Array Value) (k j : Nat) (v : Value) (h : k ≠ j) : (T.setIfInBounds k v)[j]? = T[j]? := by
  rw [Array.getElem?_setIfInBounds, if_neg h]
def BigT (T : Array Value) : Prop := 283 ≤ T.size
theorem set_eq (T : Array Value) (k : Nat) (v : Value) (hB : BigT T) (h : k < 283) : (T.setIfInBounds k v)[k]? = some v := by
  unfold BigT at hB
  rw [Array.getElem?_setIfInBounds, if_pos rfl, if_pos (by omega)]
theorem set_big (T : Array Value) (k : Nat) (v : Value) (hB : BigT T) : BigT (T.setIfInBounds k v) := by
  unfold BigT at hB ⊢
  rw [Array.size_setIfInBounds]
  exact hB
theorem line_bad1 {t : Ph.Tank} {l : List UInt8} {w0 : List UInt8} (h0 : w0 = (Pr.cutL 32 l).headD []) (h : Pr.wantOf w0 = none ∨ Pr.argsL (wantI w0).2.2 0 (Pr.cutL 32 l).tail = none) : Pr.lineL t l = (Pr.badW, t) := by
  unfold Pr.lineL
  rw [← h0]
  cases hw : Pr.wantOf w0 with
  | none => rfl
  | some x =>
    rcases h with h | h
    · rw [hw] at h; cases h
    · unfold wantI at h
      rw [hw] at h
      simp only at h ⊢
      rw [h]
theorem line_bad2 {t : Ph.Tank} {l : List UInt8} {x : Pr.Want} {w0 : List UInt8} {ns : List Int} (h0 : w0 = (Pr.cutL 32 l).headD []) (hw : Pr.wantOf w0 = some x) (ha : Pr.argsL x.below 0 (Pr.cutL 32 l).tail = some ns) (hok : Pr.okArgs x ns = false) : Pr.lineL t l = (Pr.badW, t) := by
  unfold Pr.lineL
  rw [← h0, hw]
  simp only
  rw [ha]
  simp only
  rw [if_neg (by rw [hok]; simp)]
end Go.Proofs.YtjdpgakkphdjlaaGreatDoor
