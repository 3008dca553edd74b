/- Walks of the reference's Line (hornref2): its regions that draw their order, each in a frame of which only the slots that it names are known. -/
import Derived.Test.YtjdpgakkphdjlaaGreatDoorRefLnw
namespace Go.Proofs.YtjdpgakkphdjlaaGreatDoor
open Go.RowKit

/-- The world behind such a region: the tank that is told, and what is kept. -/
def EndW (w : World) (d : Ph.Tank) (W : World) : Prop :=
  (W.cell? ⟨w.heap.size + 1, 0, none⟩ = some (.int .i64 d.size) ∧ W.cell? ⟨w.heap.size + 1, 1, none⟩ = some (.int .i64 d.each) ∧ W.cell? ⟨w.heap.size + 1, 2, none⟩ = some (.int .i64 d.has)) ∧ Below w.heap.size w W
theorem LnW.end_ {w W : World} {t : Ph.Tank} (h : LnW w t W) (d : Ph.Tank) : EndW w d (((W.setCell ⟨w.heap.size + 1, 0, none⟩ (.int .i64 d.size)).setCell ⟨w.heap.size + 1, 1, none⟩ (.int .i64 d.each)).setCell ⟨w.heap.size + 1, 2, none⟩ (.int .i64 d.has)) := by
  have e : (((W.setCell ⟨w.heap.size + 1, 0, none⟩ (.int .i64 d.size)).setCell ⟨w.heap.size + 1, 1, none⟩ (.int .i64 d.each)).setCell ⟨w.heap.size + 1, 2, none⟩ (.int .i64 d.has)).heap[w.heap.size + 1]? = some (.cells #[.int .i64 d.size, .int .i64 d.each, .int .i64 d.has] 26 (0, 0)) := by
    rw [heap_setCell_same _ (w.heap.size + 1) 2 _ _ _ (heap_setCell_same _ (w.heap.size + 1) 1 _ _ _ (heap_setCell_same _ (w.heap.size + 1) 0 _ _ _ h.br))]; rfl
  exact ⟨⟨cell_of_row _ _ 0 _ _ (0, 0) e, cell_of_row _ _ 1 _ _ (0, 0) e, cell_of_row _ _ 2 _ _ (0, 0) e⟩, h.below' _ _ _⟩
theorem loud_bd {l : List Int} (h : Ph.loudN l ≤ 1000000) : ∀ y ∈ l, -1000000000 ≤ y ∧ y ≤ 1000000000 := fun y hy => by
  have h1 := far_mem hy
  have h2 := Ph.loudN_int l
  unfold Ph.far at h1
  split at h1 <;> omega
theorem keepK {W : World} {K g off : Nat} {v a b c : Value} (h : W.cell? ⟨g, off, none⟩ = some v) (hne : g ≠ K) : (((W.setCell ⟨K, 0, none⟩ a).setCell ⟨K, 1, none⟩ b).setCell ⟨K, 2, none⟩ c).cell? ⟨g, off, none⟩ = some v := keepS (keepS (keepS h hne) hne) hne
theorem LnW.setK {w W : World} {t : Ph.Tank} (h : LnW w t W) {K : Nat} (hK : w.heap.size + 2 ≤ K) (i : Nat) (v : Value) : LnW w t (W.setCell ⟨K, i, none⟩ v) :=
  ⟨(heap_setCell_other W ⟨K, i, none⟩ _ v (by show w.heap.size ≠ K; omega)).trans h.bt, (heap_setCell_other W ⟨K, i, none⟩ _ v (by show w.heap.size + 1 ≠ K; omega)).trans h.br, h.bel.setCell (by show w.heap.size ≤ K; omega) v⟩
theorem fresh_set {W : World} {K : Nat} (h : W.heap[K]? = some (.cells #[.int .i64 0, .int .i64 0, .int .i64 0] 26 (0, 0))) (a b c : Value) : (((W.setCell ⟨K, 0, none⟩ a).setCell ⟨K, 1, none⟩ b).setCell ⟨K, 2, none⟩ c).heap[K]? = some (.cells #[a, b, c] 26 (0, 0)) := by
  rw [heap_setCell_same _ K 2 _ _ _ (heap_setCell_same _ K 1 _ _ _ (heap_setCell_same _ K 0 _ _ _ h))]; rfl
theorem fresh_kept {W w21 : World} (hb : Below (W.alloc (.cells #[.int .i64 0, .int .i64 0, .int .i64 0] 26)).drew.heap.size (W.alloc (.cells #[.int .i64 0, .int .i64 0, .int .i64 0] 26)).drew w21) :
    w21.heap[W.heap.size]? = some (.cells #[.int .i64 0, .int .i64 0, .int .i64 0] 26 (0, 0)) ∧ (w21.cell? ⟨W.heap.size, 0, none⟩ = some (.int .i64 0) ∧ w21.cell? ⟨W.heap.size, 1, none⟩ = some (.int .i64 0) ∧ w21.cell? ⟨W.heap.size, 2, none⟩ = some (.int .i64 0)) ∧ (w21.frozen? ⟨W.heap.size, 0, none⟩ = false ∧ w21.frozen? ⟨W.heap.size, 1, none⟩ = false ∧ w21.frozen? ⟨W.heap.size, 2, none⟩ = false) := by
  have h : w21.heap[W.heap.size]? = some (.cells #[.int .i64 0, .int .i64 0, .int .i64 0] 26 (0, 0)) := (hb.block W.heap.size (by show W.heap.size < (W.alloc _).heap.size; simp)).trans (heap_alloc_new W _)
  exact ⟨h, ⟨cell_of_row _ _ 0 _ _ (0, 0) h, cell_of_row _ _ 1 _ _ (0, 0) h, cell_of_row _ _ 2 _ _ (0, 0) h⟩, frozen_of_row _ _ 0 _ _ h, frozen_of_row _ _ 1 _ _ h, frozen_of_row _ _ 2 _ _ h⟩
theorem told_below {f : FuncId} {args : Array Value} {w : World} {v : Value} (h : Calls Tryz.prog f args w fun e w' => e = .returned v ∧ w' = w) : Calls Tryz.prog f args w fun e w' => e = .returned v ∧ Below w.heap.size w w' :=
  h.mono fun e w' ⟨h1, h2⟩ => ⟨h1, by rw [h2]; exact Below.refl _ _⟩
theorem EndW.drew {w W : World} {d : Ph.Tank} (h : EndW w d W) : EndW w d W.drew := ⟨h.1, ⟨h.2.os, h.2.tape, h.2.output, h.2.size, h.2.block⟩⟩
/-- The frame behind such a region. -/
def EndA (w : World) (q : List UInt8) (A A' : Act) : Prop := A'.tmps[4]?.getD undef = .string (strL q) ∧ A'.tmps[5]?.getD undef = .pointer (some ⟨w.heap.size + 1, 0, none⟩) ∧ A'.defers = A.defers
theorem line_end {w W : World} {q : List UInt8} {A A' : Act} {d t : Ph.Tank} {l : List UInt8} (hA : EndA w q A A') (hD : A.defers = []) (hW : EndW w d W) (hl : Pr.lineL t l = (q, d)) :
    bodyPost Tryz.prog Tryz.f8 (LineR t l w) .ret A' W := by
  obtain ⟨h4, h5, hd⟩ := hA
  obtain ⟨⟨d0, d1, d2⟩, hb⟩ := hW
  exact bodyPost_ret (v := .tuple #[.string (strL q), .agg #[.int .i64 d.size, .int .i64 d.each, .int .i64 d.has]]) (by simp [results, Tryz.results8, go_sem, h4, h5, d0, d1, d2]) (hd.trans hD) ⟨q, d, rfl, hl, hb⟩
set_option maxHeartbeats 2000000 in
set_option maxRecDepth 100000 in
theorem reg33 {Q : Exit → Act → World → Prop} (w W : World) (t : Ph.Tank) (A : Act) (hAs : BigT A.tmps) (p2 : A.tmps[2]?.getD undef = .pointer (some ⟨w.heap.size, 0, none⟩)) (p5 : A.tmps[5]?.getD undef = .pointer (some ⟨w.heap.size + 1, 0, none⟩))
     (HL : LnW w t W)
    (hQ : ∀ A' W', EndA w (Pr.badW) A A' → EndW w (t) W' → Q .normal A' W') :
    Code.wp Tryz.prog (Code.region 33 #[{ dst := some 83, op := Op.load 26 (Operand.tmp 2), type := 26, pos := "more.go:617", after := #[{ on := 1, ground := Ground.gcOnly Departure.lateStores }], guard := none }, { dst := some 4, op := Op.assign (Operand.const (Value.string { data := #[98, 97, 100] })), type := 9, pos := "more.go:617", after := #[{ on := 0, ground := Ground.textOnly Departure.lateStores }], guard := none }, { dst := none, op := Op.store 26 (Operand.tmp 5) (Operand.tmp 83), type := 0, pos := "more.go:617", after := #[{ on := 0, ground := Ground.data }, { on := 1, ground := Ground.chain }, { on := 0, ground := Ground.phase }, { on := 1, ground := Ground.phase }], guard := none }] true) Q A W := by
  have G1 := set_ne
  have G2 := set_eq
  have G3 := set_big
  have hk25 : w.heap.size ≠ w.heap.size + 1 := by omega
  obtain ⟨t0, t1, t2⟩ := HL.drew.tank
  have HLH := Lib.hid HL
  have HQ := Lib.hid hQ
  clear HL hQ
  have z83 : 83 < A.tmps.size := by have h := hAs; unfold BigT at h; omega
  obtain ⟨⟨d0, d1, d2⟩, f0, f1, f2⟩ := HLH.out.res
  obtain ⟨s0, s1, s2⟩ := HLH.out.tank
  go_region_held3 (fun w' => (w'.cell? ⟨w.heap.size, 0, none⟩ = some (.int .i64 t.size) ∧ w'.cell? ⟨w.heap.size, 1, none⟩ = some (.int .i64 t.each) ∧ w'.cell? ⟨w.heap.size, 2, none⟩ = some (.int .i64 t.has))) (first | with_reducible exact ⟨t0, t1, t2⟩ | exact ⟨keepR s0 hk25, keepR s1 hk25, keepR s2 hk25⟩ | fail) (fail)
  all_goals exact HQ.out _ _ ⟨by rw [set_eq _ 4 _ (by repeat (first | with_reducible exact hAs | with_reducible apply set_big)) (by decide)]; rfl, by (repeat first | rw [set_ne _ 83 5 _ (by decide)] | rw [set_ne _ 4 5 _ (by decide)]); exact p5, rfl⟩ (HLH.out.end_ t).drew
set_option maxHeartbeats 2000000 in
set_option maxRecDepth 100000 in
theorem reg38 {Q : Exit → Act → World → Prop} (w W : World) (t : Ph.Tank) (A : Act) (hAs : BigT A.tmps) (p2 : A.tmps[2]?.getD undef = .pointer (some ⟨w.heap.size, 0, none⟩)) (p5 : A.tmps[5]?.getD undef = .pointer (some ⟨w.heap.size + 1, 0, none⟩))
     (HL : LnW w t W)
    (hQ : ∀ A' W', EndA w (Pr.badW) A A' → EndW w (t) W' → Q .normal A' W') :
    Code.wp Tryz.prog (Code.region 38 #[{ dst := some 109, op := Op.load 26 (Operand.tmp 2), type := 26, pos := "more.go:625", after := #[{ on := 1, ground := Ground.gcOnly Departure.lateStores }], guard := none }, { dst := some 4, op := Op.assign (Operand.const (Value.string { data := #[98, 97, 100] })), type := 9, pos := "more.go:625", after := #[{ on := 0, ground := Ground.textOnly Departure.lateStores }], guard := none }, { dst := none, op := Op.store 26 (Operand.tmp 5) (Operand.tmp 109), type := 0, pos := "more.go:625", after := #[{ on := 0, ground := Ground.data }, { on := 1, ground := Ground.chain }, { on := 0, ground := Ground.phase }, { on := 1, ground := Ground.phase }], guard := none }] true) Q A W := by
  have G1 := set_ne
  have G2 := set_eq
  have G3 := set_big
  have hk25 : w.heap.size ≠ w.heap.size + 1 := by omega
  obtain ⟨t0, t1, t2⟩ := HL.drew.tank
  have HLH := Lib.hid HL
  have HQ := Lib.hid hQ
  clear HL hQ
  have z109 : 109 < A.tmps.size := by have h := hAs; unfold BigT at h; omega
  obtain ⟨⟨d0, d1, d2⟩, f0, f1, f2⟩ := HLH.out.res
  obtain ⟨s0, s1, s2⟩ := HLH.out.tank
  go_region_held3 (fun w' => (w'.cell? ⟨w.heap.size, 0, none⟩ = some (.int .i64 t.size) ∧ w'.cell? ⟨w.heap.size, 1, none⟩ = some (.int .i64 t.each) ∧ w'.cell? ⟨w.heap.size, 2, none⟩ = some (.int .i64 t.has))) (first | with_reducible exact ⟨t0, t1, t2⟩ | exact ⟨keepR s0 hk25, keepR s1 hk25, keepR s2 hk25⟩ | fail) (fail)
  all_goals exact HQ.out _ _ ⟨by rw [set_eq _ 4 _ (by repeat (first | with_reducible exact hAs | with_reducible apply set_big)) (by decide)]; rfl, by (repeat first | rw [set_ne _ 109 5 _ (by decide)] | rw [set_ne _ 4 5 _ (by decide)]); exact p5, rfl⟩ (HLH.out.end_ t).drew
set_option maxHeartbeats 2000000 in
set_option maxRecDepth 100000 in
theorem reg42 {Q : Exit → Act → World → Prop} (w W : World) (t : Ph.Tank) (A : Act) (hAs : BigT A.tmps) (p2 : A.tmps[2]?.getD undef = .pointer (some ⟨w.heap.size, 0, none⟩)) (p5 : A.tmps[5]?.getD undef = .pointer (some ⟨w.heap.size + 1, 0, none⟩))
     (HL : LnW w t W)
    (hQ : ∀ A' W', EndA w (Pr.nameL 1) A A' → EndW w (t) W' → Q .normal A' W') :
    Code.wp Tryz.prog (Code.region 42 #[{ dst := some 125, op := Op.call { callee := Callee.value (Operand.func 16), args := #[Operand.const (Value.int IntKind.i64 1)], argTypes := #[3] }, type := 9, pos := "more.go:630", after := #[], guard := none }, { dst := some 126, op := Op.load 26 (Operand.tmp 2), type := 26, pos := "more.go:630", after := #[{ on := 2, ground := Ground.gcOnly Departure.lateStores }], guard := none }, { dst := some 4, op := Op.assign (Operand.tmp 125), type := 9, pos := "more.go:630", after := #[{ on := 0, ground := Ground.data }, { on := 0, ground := Ground.chain }, { on := 0, ground := Ground.phase }, { on := 1, ground := Ground.textOnly Departure.lateStores }], guard := none }, { dst := none, op := Op.store 26 (Operand.tmp 5) (Operand.tmp 126), type := 0, pos := "more.go:630", after := #[{ on := 1, ground := Ground.data }, { on := 2, ground := Ground.chain }, { on := 0, ground := Ground.phase }, { on := 1, ground := Ground.phase }, { on := 2, ground := Ground.phase }], guard := none }] true) Q A W := by
  have G1 := set_ne
  have G2 := set_eq
  have G3 := set_big
  have hk25 : w.heap.size ≠ w.heap.size + 1 := by omega
  obtain ⟨t0, t1, t2⟩ := HL.drew.tank
  have HLH := Lib.hid HL
  have HQ := Lib.hid hQ
  clear HL hQ
  have z125 : 125 < A.tmps.size := by have h := hAs; unfold BigT at h; omega
  have z126 : 126 < A.tmps.size := by have h := hAs; unfold BigT at h; omega
  have HNM := Lib.hid fun W => rname_any 1 (.inl rfl) W
  go_region_held3 (fun w' => (w'.cell? ⟨w.heap.size, 0, none⟩ = some (.int .i64 t.size) ∧ w'.cell? ⟨w.heap.size, 1, none⟩ = some (.int .i64 t.each) ∧ w'.cell? ⟨w.heap.size, 2, none⟩ = some (.int .i64 t.has))) (first | with_reducible exact KS.out | with_reducible exact ⟨t0, t1, t2⟩ | with_reducible exact ⟨keepA KS.out.1, keepA KS.out.2.1, keepA KS.out.2.2⟩ | with_reducible exact ⟨keepR (keepA KS.out.1) hk25, keepR (keepA KS.out.2.1) hk25, keepR (keepA KS.out.2.2) hk25⟩ | with_reducible exact ⟨keepR KS.out.1 hk25, keepR KS.out.2.1 hk25, keepR KS.out.2.2 hk25⟩ | fail) (first
    | (go_at_call 16; refine (HNM.out _).mono ?_; rintro e w21 ⟨rfl, hb21⟩; have HL21 := Lib.hid (HLH.out.drew.below hb21); have KS := Lib.hid HL21.out.tank; obtain ⟨⟨d0, d1, d2⟩, f0, f1, f2⟩ := HL21.out.res)
    | fail)
  all_goals exact HQ.out _ _ ⟨by rw [set_eq _ 4 _ (by repeat (first | with_reducible exact hAs | with_reducible apply set_big)) (by decide)]; rfl, by (repeat first | rw [set_ne _ 125 5 _ (by decide)] | rw [set_ne _ 126 5 _ (by decide)] | rw [set_ne _ 4 5 _ (by decide)]); exact p5, rfl⟩ (HL21.out.end_ t)
set_option maxHeartbeats 2000000 in
set_option maxRecDepth 100000 in
theorem reg43 {Q : Exit → Act → World → Prop} (w W : World) (t : Ph.Tank) (A : Act) (hAs : BigT A.tmps) (p2 : A.tmps[2]?.getD undef = .pointer (some ⟨w.heap.size, 0, none⟩)) (p5 : A.tmps[5]?.getD undef = .pointer (some ⟨w.heap.size + 1, 0, none⟩))
    (g9 c9 : Nat) (a b R : Int) (hg5 : g9 ≠ w.heap.size + 1) (p10 : A.tmps[10]?.getD undef = .slice (some ⟨g9, 0, none⟩) 2 c9) (a0 : W.cell? ⟨g9, 0, none⟩ = some (.int .i64 a)) (a1 : W.cell? ⟨g9, 1, none⟩ = some (.int .i64 b)) (HRB : -1000000000 ≤ R ∧ R ≤ 1000000000) (hck : ∀ W, Calls Tryz.prog 18 #[.int .i64 a, .int .i64 b] W fun e w' => e = .returned (.int .i64 R) ∧ Below W.heap.size W w') (HL : LnW w t W)
    (hQ : ∀ A' W', EndA w (Pr.toldL [R]) A A' → EndW w (t) W' → Q .normal A' W') :
    Code.wp Tryz.prog (Code.region 43 #[{ dst := some 127, op := Op.move (Operand.tmp 10), type := 49, pos := "more.go:632", after := #[], guard := none }, { dst := some 128, op := Op.indexAddr 49 (Operand.tmp 127) (Operand.const (Value.int IntKind.i64 0)), type := 0, pos := "more.go:632", after := #[{ on := 0, ground := Ground.data }], guard := none }, { dst := some 129, op := Op.load 3 (Operand.tmp 128), type := 3, pos := "more.go:632", after := #[{ on := 1, ground := Ground.data }], guard := none }, { dst := some 130, op := Op.move (Operand.tmp 10), type := 49, pos := "more.go:632", after := #[], guard := none }, { dst := some 131, op := Op.indexAddr 49 (Operand.tmp 130) (Operand.const (Value.int IntKind.i64 1)), type := 0, pos := "more.go:632", after := #[{ on := 3, ground := Ground.data }], guard := none }, { dst := some 132, op := Op.load 3 (Operand.tmp 131), type := 3, pos := "more.go:632", after := #[{ on := 4, ground := Ground.data }], guard := none }, { dst := some 133, op := Op.call { callee := Callee.value (Operand.func 18), args := #[Operand.tmp 129, Operand.tmp 132], argTypes := #[3, 3] }, type := 3, pos := "more.go:632", after := #[{ on := 2, ground := Ground.data }, { on := 5, ground := Ground.data }], guard := none }, { dst := some 134, op := Op.buildSlice 49 1 #[(0, Operand.tmp 133)], type := 49, pos := "more.go:632", after := #[{ on := 6, ground := Ground.data }], guard := none }, { dst := some 135, op := Op.call { callee := Callee.value (Operand.func 17), args := #[Operand.tmp 134, Operand.const (Value.int IntKind.i64 0)], argTypes := #[49, 3] }, type := 9, pos := "more.go:632", after := #[{ on := 7, ground := Ground.data }, { on := 6, ground := Ground.chain }], guard := none }, { dst := some 136, op := Op.load 26 (Operand.tmp 2), type := 26, pos := "more.go:632", after := #[{ on := 10, ground := Ground.gcOnly Departure.lateStores }], guard := none }, { dst := some 4, op := Op.assign (Operand.tmp 135), type := 9, pos := "more.go:632", after := #[{ on := 8, ground := Ground.data }, { on := 8, ground := Ground.chain }, { on := 0, ground := Ground.phase }, { on := 1, ground := Ground.phase }, { on := 2, ground := Ground.phase }, { on := 3, ground := Ground.phase }, { on := 4, ground := Ground.phase }, { on := 5, ground := Ground.phase }, { on := 6, ground := Ground.phase }, { on := 7, ground := Ground.phase }, { on := 8, ground := Ground.phase }, { on := 9, ground := Ground.textOnly Departure.lateStores }], guard := none }, { dst := none, op := Op.store 26 (Operand.tmp 5) (Operand.tmp 136), type := 0, pos := "more.go:632", after := #[{ on := 9, ground := Ground.data }, { on := 10, ground := Ground.chain }, { on := 0, ground := Ground.phase }, { on := 1, ground := Ground.phase }, { on := 2, ground := Ground.phase }, { on := 3, ground := Ground.phase }, { on := 4, ground := Ground.phase }, { on := 5, ground := Ground.phase }, { on := 6, ground := Ground.phase }, { on := 7, ground := Ground.phase }, { on := 8, ground := Ground.phase }, { on := 9, ground := Ground.phase }, { on := 10, ground := Ground.phase }], guard := none }] true) Q A W := by
  have G1 := set_ne
  have G2 := set_eq
  have G3 := set_big
  have hk25 : w.heap.size ≠ w.heap.size + 1 := by omega
  obtain ⟨t0, t1, t2⟩ := HL.drew.tank
  have HLH := Lib.hid HL
  have HQ := Lib.hid hQ
  clear HL hQ
  have z127 : 127 < A.tmps.size := by have h := hAs; unfold BigT at h; omega
  have z128 : 128 < A.tmps.size := by have h := hAs; unfold BigT at h; omega
  have z129 : 129 < A.tmps.size := by have h := hAs; unfold BigT at h; omega
  have z130 : 130 < A.tmps.size := by have h := hAs; unfold BigT at h; omega
  have z131 : 131 < A.tmps.size := by have h := hAs; unfold BigT at h; omega
  have z132 : 132 < A.tmps.size := by have h := hAs; unfold BigT at h; omega
  have z133 : 133 < A.tmps.size := by have h := hAs; unfold BigT at h; omega
  have z134 : 134 < A.tmps.size := by have h := hAs; unfold BigT at h; omega
  have z135 : 135 < A.tmps.size := by have h := hAs; unfold BigT at h; omega
  have z136 : 136 < A.tmps.size := by have h := hAs; unfold BigT at h; omega
  have HTD := Lib.hid fun W => told_below (rtold_ok (some ⟨W.heap.size, 0, none⟩) 1 1 [R] (W.alloc (.cells #[.int .i64 R] 3)) _ (RdI.lit' W [R] 3 #[.int .i64 R] rfl) (by omega) (fun y hy => by rw [List.mem_singleton.1 hy]; exact HRB))
  replace a0 : W.drew.cell? ⟨g9, 0, none⟩ = some (.int .i64 a) := a0
  replace a1 : W.drew.cell? ⟨g9, 1, none⟩ = some (.int .i64 b) := a1
  have HCK := Lib.hid hck
  clear hck
  have i0 : (0 : Int) < 2 := by omega
  have i1 : (1 : Int) < 2 := by omega
  go_region_held3 (fun w' => (w'.cell? ⟨w.heap.size, 0, none⟩ = some (.int .i64 t.size) ∧ w'.cell? ⟨w.heap.size, 1, none⟩ = some (.int .i64 t.each) ∧ w'.cell? ⟨w.heap.size, 2, none⟩ = some (.int .i64 t.has)) ∧ w'.cell? ⟨g9, 0, none⟩ = some (.int .i64 a) ∧ w'.cell? ⟨g9, 1, none⟩ = some (.int .i64 b)) (first | with_reducible exact KS.out | with_reducible exact ⟨⟨t0, t1, t2⟩, a0, a1⟩ | with_reducible exact ⟨⟨keepA KS.out.1.1, keepA KS.out.1.2.1, keepA KS.out.1.2.2⟩, keepA KS.out.2.1, keepA KS.out.2.2⟩ | with_reducible exact ⟨⟨keepR (keepA KS.out.1.1) hk25, keepR (keepA KS.out.1.2.1) hk25, keepR (keepA KS.out.1.2.2) hk25⟩, keepR (keepA KS.out.2.1) hg5, keepR (keepA KS.out.2.2) hg5⟩ | with_reducible exact ⟨⟨keepR KS.out.1.1 hk25, keepR KS.out.1.2.1 hk25, keepR KS.out.1.2.2 hk25⟩, keepR KS.out.2.1 hg5, keepR KS.out.2.2 hg5⟩ | fail) (first
    | (go_at_call 18; refine (HCK.out _).mono ?_; rintro e w21 ⟨rfl, hb21⟩; have HL21 := Lib.hid (HLH.out.drew.below hb21); have KS := Lib.hid (And.intro HL21.out.tank (And.intro (keepB a0 hb21) (keepB a1 hb21))))
    | (go_at_call 17; refine (HTD.out _).mono ?_; rintro e w22 ⟨rfl, hb22⟩; have HL22 := Lib.hid ((HL21.out.alloc (.cells #[.int .i64 R] 3)).below hb22); have KS := Lib.hid (And.intro HL22.out.tank (And.intro (keepB (keepA KS.out.2.1) hb22) (keepB (keepA KS.out.2.2) hb22))); obtain ⟨⟨d0, d1, d2⟩, f0, f1, f2⟩ := HL22.out.res)
    | fail)
  all_goals exact HQ.out _ _ ⟨by rw [set_eq _ 4 _ (by repeat (first | with_reducible exact hAs | with_reducible apply set_big)) (by decide)]; rfl, by (repeat first | rw [set_ne _ 127 5 _ (by decide)] | rw [set_ne _ 128 5 _ (by decide)] | rw [set_ne _ 129 5 _ (by decide)] | rw [set_ne _ 130 5 _ (by decide)] | rw [set_ne _ 131 5 _ (by decide)] | rw [set_ne _ 132 5 _ (by decide)] | rw [set_ne _ 133 5 _ (by decide)] | rw [set_ne _ 134 5 _ (by decide)] | rw [set_ne _ 135 5 _ (by decide)] | rw [set_ne _ 136 5 _ (by decide)] | rw [set_ne _ 4 5 _ (by decide)]); exact p5, rfl⟩ (HL22.out.end_ t)
set_option maxHeartbeats 2000000 in
set_option maxRecDepth 100000 in
theorem reg47 {Q : Exit → Act → World → Prop} (w W : World) (t : Ph.Tank) (A : Act) (hAs : BigT A.tmps) (p2 : A.tmps[2]?.getD undef = .pointer (some ⟨w.heap.size, 0, none⟩)) (p5 : A.tmps[5]?.getD undef = .pointer (some ⟨w.heap.size + 1, 0, none⟩))
    (E : Int) (hE : E = 1 ∨ E = 4 ∨ E = 5 ∨ E = 8) (pk : A.tmps[17]?.getD undef = .int .i64 E) (HL : LnW w t W)
    (hQ : ∀ A' W', EndA w (Pr.nameL E) A A' → EndW w (t) W' → Q .normal A' W') :
    Code.wp Tryz.prog (Code.region 47 #[{ dst := some 146, op := Op.move (Operand.tmp 17), type := 3, pos := "more.go:636", after := #[], guard := none }, { dst := some 147, op := Op.call { callee := Callee.value (Operand.func 16), args := #[Operand.tmp 146], argTypes := #[3] }, type := 9, pos := "more.go:636", after := #[{ on := 0, ground := Ground.data }], guard := none }, { dst := some 148, op := Op.load 26 (Operand.tmp 2), type := 26, pos := "more.go:636", after := #[{ on := 3, ground := Ground.gcOnly Departure.lateStores }], guard := none }, { dst := some 4, op := Op.assign (Operand.tmp 147), type := 9, pos := "more.go:636", after := #[{ on := 1, ground := Ground.data }, { on := 1, ground := Ground.chain }, { on := 0, ground := Ground.phase }, { on := 1, ground := Ground.phase }, { on := 2, ground := Ground.textOnly Departure.lateStores }], guard := none }, { dst := none, op := Op.store 26 (Operand.tmp 5) (Operand.tmp 148), type := 0, pos := "more.go:636", after := #[{ on := 2, ground := Ground.data }, { on := 3, ground := Ground.chain }, { on := 0, ground := Ground.phase }, { on := 1, ground := Ground.phase }, { on := 2, ground := Ground.phase }, { on := 3, ground := Ground.phase }], guard := none }] true) Q A W := by
  have G1 := set_ne
  have G2 := set_eq
  have G3 := set_big
  have hk25 : w.heap.size ≠ w.heap.size + 1 := by omega
  obtain ⟨t0, t1, t2⟩ := HL.drew.tank
  have HLH := Lib.hid HL
  have HQ := Lib.hid hQ
  clear HL hQ
  have z146 : 146 < A.tmps.size := by have h := hAs; unfold BigT at h; omega
  have z147 : 147 < A.tmps.size := by have h := hAs; unfold BigT at h; omega
  have z148 : 148 < A.tmps.size := by have h := hAs; unfold BigT at h; omega
  have HNM := Lib.hid fun W => rname_any E hE W
  clear hE
  go_region_held3 (fun w' => (w'.cell? ⟨w.heap.size, 0, none⟩ = some (.int .i64 t.size) ∧ w'.cell? ⟨w.heap.size, 1, none⟩ = some (.int .i64 t.each) ∧ w'.cell? ⟨w.heap.size, 2, none⟩ = some (.int .i64 t.has))) (first | with_reducible exact KS.out | with_reducible exact ⟨t0, t1, t2⟩ | with_reducible exact ⟨keepA KS.out.1, keepA KS.out.2.1, keepA KS.out.2.2⟩ | with_reducible exact ⟨keepR (keepA KS.out.1) hk25, keepR (keepA KS.out.2.1) hk25, keepR (keepA KS.out.2.2) hk25⟩ | with_reducible exact ⟨keepR KS.out.1 hk25, keepR KS.out.2.1 hk25, keepR KS.out.2.2 hk25⟩ | fail) (first
    | (go_at_call 16; refine (HNM.out _).mono ?_; rintro e w21 ⟨rfl, hb21⟩; have HL21 := Lib.hid (HLH.out.drew.below hb21); have KS := Lib.hid HL21.out.tank; obtain ⟨⟨d0, d1, d2⟩, f0, f1, f2⟩ := HL21.out.res)
    | fail)
  all_goals exact HQ.out _ _ ⟨by rw [set_eq _ 4 _ (by repeat (first | with_reducible exact hAs | with_reducible apply set_big)) (by decide)]; rfl, by (repeat first | rw [set_ne _ 146 5 _ (by decide)] | rw [set_ne _ 147 5 _ (by decide)] | rw [set_ne _ 148 5 _ (by decide)] | rw [set_ne _ 4 5 _ (by decide)]); exact p5, rfl⟩ (HL21.out.end_ t)
set_option maxHeartbeats 2000000 in
set_option maxRecDepth 100000 in
theorem reg48 {Q : Exit → Act → World → Prop} (w W : World) (t : Ph.Tank) (A : Act) (hAs : BigT A.tmps) (p2 : A.tmps[2]?.getD undef = .pointer (some ⟨w.heap.size, 0, none⟩)) (p5 : A.tmps[5]?.getD undef = .pointer (some ⟨w.heap.size + 1, 0, none⟩))
    (A9 : Option Addr) (n9 c9 : Nat) (R : Int) (p10 : A.tmps[10]?.getD undef = .slice A9 n9 c9) (HRB : -1000000000 ≤ R ∧ R ≤ 1000000000) (hck : Calls Tryz.prog 20 #[.slice A9 n9 c9] W.drew fun e w' => e = .returned (.int .i64 R) ∧ Below W.drew.heap.size W.drew w') (HL : LnW w t W)
    (hQ : ∀ A' W', EndA w (Pr.toldL [R]) A A' → EndW w (t) W' → Q .normal A' W') :
    Code.wp Tryz.prog (Code.region 48 #[{ dst := some 149, op := Op.move (Operand.tmp 10), type := 49, pos := "more.go:638", after := #[], guard := none }, { dst := some 150, op := Op.call { callee := Callee.value (Operand.func 20), args := #[Operand.tmp 149], argTypes := #[49] }, type := 3, pos := "more.go:638", after := #[{ on := 0, ground := Ground.data }], guard := none }, { dst := some 151, op := Op.buildSlice 49 1 #[(0, Operand.tmp 150)], type := 49, pos := "more.go:638", after := #[{ on := 1, ground := Ground.data }], guard := none }, { dst := some 152, op := Op.call { callee := Callee.value (Operand.func 17), args := #[Operand.tmp 151, Operand.const (Value.int IntKind.i64 0)], argTypes := #[49, 3] }, type := 9, pos := "more.go:638", after := #[{ on := 2, ground := Ground.data }, { on := 1, ground := Ground.chain }], guard := none }, { dst := some 153, op := Op.load 26 (Operand.tmp 2), type := 26, pos := "more.go:638", after := #[{ on := 5, ground := Ground.gcOnly Departure.lateStores }], guard := none }, { dst := some 4, op := Op.assign (Operand.tmp 152), type := 9, pos := "more.go:638", after := #[{ on := 3, ground := Ground.data }, { on := 3, ground := Ground.chain }, { on := 0, ground := Ground.phase }, { on := 1, ground := Ground.phase }, { on := 2, ground := Ground.phase }, { on := 3, ground := Ground.phase }, { on := 4, ground := Ground.textOnly Departure.lateStores }], guard := none }, { dst := none, op := Op.store 26 (Operand.tmp 5) (Operand.tmp 153), type := 0, pos := "more.go:638", after := #[{ on := 4, ground := Ground.data }, { on := 5, ground := Ground.chain }, { on := 0, ground := Ground.phase }, { on := 1, ground := Ground.phase }, { on := 2, ground := Ground.phase }, { on := 3, ground := Ground.phase }, { on := 4, ground := Ground.phase }, { on := 5, ground := Ground.phase }], guard := none }] true) Q A W := by
  have G1 := set_ne
  have G2 := set_eq
  have G3 := set_big
  have hk25 : w.heap.size ≠ w.heap.size + 1 := by omega
  obtain ⟨t0, t1, t2⟩ := HL.drew.tank
  have HLH := Lib.hid HL
  have HQ := Lib.hid hQ
  clear HL hQ
  have z149 : 149 < A.tmps.size := by have h := hAs; unfold BigT at h; omega
  have z150 : 150 < A.tmps.size := by have h := hAs; unfold BigT at h; omega
  have z151 : 151 < A.tmps.size := by have h := hAs; unfold BigT at h; omega
  have z152 : 152 < A.tmps.size := by have h := hAs; unfold BigT at h; omega
  have z153 : 153 < A.tmps.size := by have h := hAs; unfold BigT at h; omega
  have HTD := Lib.hid fun W => told_below (rtold_ok (some ⟨W.heap.size, 0, none⟩) 1 1 [R] (W.alloc (.cells #[.int .i64 R] 3)) _ (RdI.lit' W [R] 3 #[.int .i64 R] rfl) (by omega) (fun y hy => by rw [List.mem_singleton.1 hy]; exact HRB))
  have HCK := Lib.hid hck
  clear hck
  go_region_held3 (fun w' => (w'.cell? ⟨w.heap.size, 0, none⟩ = some (.int .i64 t.size) ∧ w'.cell? ⟨w.heap.size, 1, none⟩ = some (.int .i64 t.each) ∧ w'.cell? ⟨w.heap.size, 2, none⟩ = some (.int .i64 t.has))) (first | with_reducible exact KS.out | with_reducible exact ⟨t0, t1, t2⟩ | with_reducible exact ⟨keepA KS.out.1, keepA KS.out.2.1, keepA KS.out.2.2⟩ | with_reducible exact ⟨keepR (keepA KS.out.1) hk25, keepR (keepA KS.out.2.1) hk25, keepR (keepA KS.out.2.2) hk25⟩ | with_reducible exact ⟨keepR KS.out.1 hk25, keepR KS.out.2.1 hk25, keepR KS.out.2.2 hk25⟩ | fail) (first
    | (go_at_call 20; refine HCK.out.mono ?_; rintro e w21 ⟨rfl, hb21⟩; have HL21 := Lib.hid (HLH.out.drew.below hb21); have KS := Lib.hid HL21.out.tank)
    | (go_at_call 17; refine (HTD.out _).mono ?_; rintro e w22 ⟨rfl, hb22⟩; have HL22 := Lib.hid ((HL21.out.alloc (.cells #[.int .i64 R] 3)).below hb22); have KS := Lib.hid HL22.out.tank; obtain ⟨⟨d0, d1, d2⟩, f0, f1, f2⟩ := HL22.out.res)
    | fail)
  all_goals exact HQ.out _ _ ⟨by rw [set_eq _ 4 _ (by repeat (first | with_reducible exact hAs | with_reducible apply set_big)) (by decide)]; rfl, by (repeat first | rw [set_ne _ 149 5 _ (by decide)] | rw [set_ne _ 150 5 _ (by decide)] | rw [set_ne _ 151 5 _ (by decide)] | rw [set_ne _ 152 5 _ (by decide)] | rw [set_ne _ 153 5 _ (by decide)] | rw [set_ne _ 4 5 _ (by decide)]); exact p5, rfl⟩ (HL22.out.end_ t)
set_option maxHeartbeats 2000000 in
set_option maxRecDepth 100000 in
theorem reg51 {Q : Exit → Act → World → Prop} (w W : World) (t : Ph.Tank) (A : Act) (hAs : BigT A.tmps) (p2 : A.tmps[2]?.getD undef = .pointer (some ⟨w.heap.size, 0, none⟩)) (p5 : A.tmps[5]?.getD undef = .pointer (some ⟨w.heap.size + 1, 0, none⟩))
     (HL : LnW w t W)
    (hQ : ∀ A' W', EndA w (Pr.nameL 1) A A' → EndW w (t) W' → Q .normal A' W') :
    Code.wp Tryz.prog (Code.region 51 #[{ dst := some 179, op := Op.call { callee := Callee.value (Operand.func 16), args := #[Operand.const (Value.int IntKind.i64 1)], argTypes := #[3] }, type := 9, pos := "more.go:641", after := #[], guard := none }, { dst := some 180, op := Op.load 26 (Operand.tmp 2), type := 26, pos := "more.go:641", after := #[{ on := 2, ground := Ground.gcOnly Departure.lateStores }], guard := none }, { dst := some 4, op := Op.assign (Operand.tmp 179), type := 9, pos := "more.go:641", after := #[{ on := 0, ground := Ground.data }, { on := 0, ground := Ground.chain }, { on := 0, ground := Ground.phase }, { on := 1, ground := Ground.textOnly Departure.lateStores }], guard := none }, { dst := none, op := Op.store 26 (Operand.tmp 5) (Operand.tmp 180), type := 0, pos := "more.go:641", after := #[{ on := 1, ground := Ground.data }, { on := 2, ground := Ground.chain }, { on := 0, ground := Ground.phase }, { on := 1, ground := Ground.phase }, { on := 2, ground := Ground.phase }], guard := none }] true) Q A W := by
  have G1 := set_ne
  have G2 := set_eq
  have G3 := set_big
  have hk25 : w.heap.size ≠ w.heap.size + 1 := by omega
  obtain ⟨t0, t1, t2⟩ := HL.drew.tank
  have HLH := Lib.hid HL
  have HQ := Lib.hid hQ
  clear HL hQ
  have z179 : 179 < A.tmps.size := by have h := hAs; unfold BigT at h; omega
  have z180 : 180 < A.tmps.size := by have h := hAs; unfold BigT at h; omega
  have HNM := Lib.hid fun W => rname_any 1 (.inl rfl) W
  go_region_held3 (fun w' => (w'.cell? ⟨w.heap.size, 0, none⟩ = some (.int .i64 t.size) ∧ w'.cell? ⟨w.heap.size, 1, none⟩ = some (.int .i64 t.each) ∧ w'.cell? ⟨w.heap.size, 2, none⟩ = some (.int .i64 t.has))) (first | with_reducible exact KS.out | with_reducible exact ⟨t0, t1, t2⟩ | with_reducible exact ⟨keepA KS.out.1, keepA KS.out.2.1, keepA KS.out.2.2⟩ | with_reducible exact ⟨keepR (keepA KS.out.1) hk25, keepR (keepA KS.out.2.1) hk25, keepR (keepA KS.out.2.2) hk25⟩ | with_reducible exact ⟨keepR KS.out.1 hk25, keepR KS.out.2.1 hk25, keepR KS.out.2.2 hk25⟩ | fail) (first
    | (go_at_call 16; refine (HNM.out _).mono ?_; rintro e w21 ⟨rfl, hb21⟩; have HL21 := Lib.hid (HLH.out.drew.below hb21); have KS := Lib.hid HL21.out.tank; obtain ⟨⟨d0, d1, d2⟩, f0, f1, f2⟩ := HL21.out.res)
    | fail)
  all_goals exact HQ.out _ _ ⟨by rw [set_eq _ 4 _ (by repeat (first | with_reducible exact hAs | with_reducible apply set_big)) (by decide)]; rfl, by (repeat first | rw [set_ne _ 179 5 _ (by decide)] | rw [set_ne _ 180 5 _ (by decide)] | rw [set_ne _ 4 5 _ (by decide)]); exact p5, rfl⟩ (HL21.out.end_ t)
set_option maxHeartbeats 2000000 in
set_option maxRecDepth 100000 in
theorem reg52 {Q : Exit → Act → World → Prop} (w W : World) (t : Ph.Tank) (A : Act) (hAs : BigT A.tmps) (p2 : A.tmps[2]?.getD undef = .pointer (some ⟨w.heap.size, 0, none⟩)) (p5 : A.tmps[5]?.getD undef = .pointer (some ⟨w.heap.size + 1, 0, none⟩))
    (g9 c9 m : Nat) (a b c : Int) (L : List Int) (hg5 : g9 ≠ w.heap.size + 1) (p10 : A.tmps[10]?.getD undef = .slice (some ⟨g9, 0, none⟩) 3 c9) (a0 : W.cell? ⟨g9, 0, none⟩ = some (.int .i64 a)) (a1 : W.cell? ⟨g9, 1, none⟩ = some (.int .i64 b)) (a2 : W.cell? ⟨g9, 2, none⟩ = some (.int .i64 c)) (hm : m ≤ 1000) (HLB : ∀ x ∈ L, -1000000000 ≤ x ∧ x ≤ 1000000000) (hck : Calls Tryz.prog 21 #[.int .i64 a, .int .i64 b, .int .i64 c] W.drew fun e w' => ∃ A c, e = .returned (.slice A m c) ∧ RdI w' w'.heap.size A m L ∧ Below W.drew.heap.size W.drew w') (HL : LnW w t W)
    (hQ : ∀ A' W', EndA w (Pr.toldL L) A A' → EndW w (t) W' → Q .normal A' W') :
    Code.wp Tryz.prog (Code.region 52 #[{ dst := some 181, op := Op.move (Operand.tmp 10), type := 49, pos := "more.go:643", after := #[], guard := none }, { dst := some 182, op := Op.indexAddr 49 (Operand.tmp 181) (Operand.const (Value.int IntKind.i64 0)), type := 0, pos := "more.go:643", after := #[{ on := 0, ground := Ground.data }], guard := none }, { dst := some 183, op := Op.load 3 (Operand.tmp 182), type := 3, pos := "more.go:643", after := #[{ on := 1, ground := Ground.data }], guard := none }, { dst := some 184, op := Op.move (Operand.tmp 10), type := 49, pos := "more.go:643", after := #[], guard := none }, { dst := some 185, op := Op.indexAddr 49 (Operand.tmp 184) (Operand.const (Value.int IntKind.i64 1)), type := 0, pos := "more.go:643", after := #[{ on := 3, ground := Ground.data }], guard := none }, { dst := some 186, op := Op.load 3 (Operand.tmp 185), type := 3, pos := "more.go:643", after := #[{ on := 4, ground := Ground.data }], guard := none }, { dst := some 187, op := Op.move (Operand.tmp 10), type := 49, pos := "more.go:643", after := #[], guard := none }, { dst := some 188, op := Op.indexAddr 49 (Operand.tmp 187) (Operand.const (Value.int IntKind.i64 2)), type := 0, pos := "more.go:643", after := #[{ on := 6, ground := Ground.data }], guard := none }, { dst := some 189, op := Op.load 3 (Operand.tmp 188), type := 3, pos := "more.go:643", after := #[{ on := 7, ground := Ground.data }], guard := none }, { dst := some 190, op := Op.call { callee := Callee.value (Operand.func 21), args := #[Operand.tmp 183, Operand.tmp 186, Operand.tmp 189], argTypes := #[3, 3, 3] }, type := 49, pos := "more.go:643", after := #[{ on := 2, ground := Ground.data }, { on := 5, ground := Ground.data }, { on := 8, ground := Ground.data }], guard := none }, { dst := some 191, op := Op.call { callee := Callee.value (Operand.func 17), args := #[Operand.tmp 190, Operand.const (Value.int IntKind.i64 0)], argTypes := #[49, 3] }, type := 9, pos := "more.go:643", after := #[{ on := 9, ground := Ground.data }, { on := 9, ground := Ground.chain }], guard := none }, { dst := some 192, op := Op.load 26 (Operand.tmp 2), type := 26, pos := "more.go:643", after := #[{ on := 12, ground := Ground.gcOnly Departure.lateStores }], guard := none }, { dst := some 4, op := Op.assign (Operand.tmp 191), type := 9, pos := "more.go:643", after := #[{ on := 10, ground := Ground.data }, { on := 10, ground := Ground.chain }, { on := 0, ground := Ground.phase }, { on := 1, ground := Ground.phase }, { on := 2, ground := Ground.phase }, { on := 3, ground := Ground.phase }, { on := 4, ground := Ground.phase }, { on := 5, ground := Ground.phase }, { on := 6, ground := Ground.phase }, { on := 7, ground := Ground.phase }, { on := 8, ground := Ground.phase }, { on := 9, ground := Ground.phase }, { on := 10, ground := Ground.phase }, { on := 11, ground := Ground.textOnly Departure.lateStores }], guard := none }, { dst := none, op := Op.store 26 (Operand.tmp 5) (Operand.tmp 192), type := 0, pos := "more.go:643", after := #[{ on := 11, ground := Ground.data }, { on := 12, ground := Ground.chain }, { on := 0, ground := Ground.phase }, { on := 1, ground := Ground.phase }, { on := 2, ground := Ground.phase }, { on := 3, ground := Ground.phase }, { on := 4, ground := Ground.phase }, { on := 5, ground := Ground.phase }, { on := 6, ground := Ground.phase }, { on := 7, ground := Ground.phase }, { on := 8, ground := Ground.phase }, { on := 9, ground := Ground.phase }, { on := 10, ground := Ground.phase }, { on := 11, ground := Ground.phase }, { on := 12, ground := Ground.phase }], guard := none }] true) Q A W := by
  have G1 := set_ne
  have G2 := set_eq
  have G3 := set_big
  have hk25 : w.heap.size ≠ w.heap.size + 1 := by omega
  obtain ⟨t0, t1, t2⟩ := HL.drew.tank
  have HLH := Lib.hid HL
  have HQ := Lib.hid hQ
  clear HL hQ
  have z181 : 181 < A.tmps.size := by have h := hAs; unfold BigT at h; omega
  have z182 : 182 < A.tmps.size := by have h := hAs; unfold BigT at h; omega
  have z183 : 183 < A.tmps.size := by have h := hAs; unfold BigT at h; omega
  have z184 : 184 < A.tmps.size := by have h := hAs; unfold BigT at h; omega
  have z185 : 185 < A.tmps.size := by have h := hAs; unfold BigT at h; omega
  have z186 : 186 < A.tmps.size := by have h := hAs; unfold BigT at h; omega
  have z187 : 187 < A.tmps.size := by have h := hAs; unfold BigT at h; omega
  have z188 : 188 < A.tmps.size := by have h := hAs; unfold BigT at h; omega
  have z189 : 189 < A.tmps.size := by have h := hAs; unfold BigT at h; omega
  have z190 : 190 < A.tmps.size := by have h := hAs; unfold BigT at h; omega
  have z191 : 191 < A.tmps.size := by have h := hAs; unfold BigT at h; omega
  have z192 : 192 < A.tmps.size := by have h := hAs; unfold BigT at h; omega
  replace a0 : W.drew.cell? ⟨g9, 0, none⟩ = some (.int .i64 a) := a0
  replace a1 : W.drew.cell? ⟨g9, 1, none⟩ = some (.int .i64 b) := a1
  replace a2 : W.drew.cell? ⟨g9, 2, none⟩ = some (.int .i64 c) := a2
  have HCK := Lib.hid hck
  have HTD := Lib.hid fun A c W B (h : RdI W B A m L) => rtold_ok A m c L W B h hm HLB
  clear hck HLB
  have i0 : (0 : Int) < 3 := by omega
  have i1 : (1 : Int) < 3 := by omega
  have i2 : (2 : Int) < 3 := by omega
  go_region_held3 (fun w' => (w'.cell? ⟨w.heap.size, 0, none⟩ = some (.int .i64 t.size) ∧ w'.cell? ⟨w.heap.size, 1, none⟩ = some (.int .i64 t.each) ∧ w'.cell? ⟨w.heap.size, 2, none⟩ = some (.int .i64 t.has)) ∧ w'.cell? ⟨g9, 0, none⟩ = some (.int .i64 a) ∧ w'.cell? ⟨g9, 1, none⟩ = some (.int .i64 b) ∧ w'.cell? ⟨g9, 2, none⟩ = some (.int .i64 c)) (first | with_reducible exact KS.out | with_reducible exact ⟨⟨t0, t1, t2⟩, a0, a1, a2⟩ | with_reducible exact ⟨⟨keepA KS.out.1.1, keepA KS.out.1.2.1, keepA KS.out.1.2.2⟩, keepA KS.out.2.1, keepA KS.out.2.2.1, keepA KS.out.2.2.2⟩ | with_reducible exact ⟨⟨keepR (keepA KS.out.1.1) hk25, keepR (keepA KS.out.1.2.1) hk25, keepR (keepA KS.out.1.2.2) hk25⟩, keepR (keepA KS.out.2.1) hg5, keepR (keepA KS.out.2.2.1) hg5, keepR (keepA KS.out.2.2.2) hg5⟩ | with_reducible exact ⟨⟨keepR KS.out.1.1 hk25, keepR KS.out.1.2.1 hk25, keepR KS.out.1.2.2 hk25⟩, keepR KS.out.2.1 hg5, keepR KS.out.2.2.1 hg5, keepR KS.out.2.2.2 hg5⟩ | fail) (first
    | (go_at_call 21; refine HCK.out.mono ?_; rintro e w21 ⟨AR, cR, rfl, hrR, hb21⟩; have HL21 := Lib.hid (HLH.out.drew.below hb21); have HRR := Lib.hid hrR; have KS := Lib.hid (And.intro HL21.out.tank (And.intro (keepB a0 hb21) (And.intro (keepB a1 hb21) (keepB a2 hb21)))))
    | (go_at_call 17; refine (HTD.out _ _ _ _ HRR.out).mono ?_; rintro e w22 ⟨rfl, rfl⟩; obtain ⟨⟨d0, d1, d2⟩, f0, f1, f2⟩ := HL21.out.res)
    | fail)
  all_goals exact HQ.out _ _ ⟨by rw [set_eq _ 4 _ (by repeat (first | with_reducible exact hAs | with_reducible apply set_big)) (by decide)]; rfl, by (repeat first | rw [set_ne _ 181 5 _ (by decide)] | rw [set_ne _ 182 5 _ (by decide)] | rw [set_ne _ 183 5 _ (by decide)] | rw [set_ne _ 184 5 _ (by decide)] | rw [set_ne _ 185 5 _ (by decide)] | rw [set_ne _ 186 5 _ (by decide)] | rw [set_ne _ 187 5 _ (by decide)] | rw [set_ne _ 188 5 _ (by decide)] | rw [set_ne _ 189 5 _ (by decide)] | rw [set_ne _ 190 5 _ (by decide)] | rw [set_ne _ 191 5 _ (by decide)] | rw [set_ne _ 192 5 _ (by decide)] | rw [set_ne _ 4 5 _ (by decide)]); exact p5, rfl⟩ (HL21.out.end_ t)
set_option maxHeartbeats 2000000 in
set_option maxRecDepth 100000 in
theorem reg63 {Q : Exit → Act → World → Prop} (w W : World) (t : Ph.Tank) (A : Act) (hAs : BigT A.tmps) (p2 : A.tmps[2]?.getD undef = .pointer (some ⟨w.heap.size, 0, none⟩)) (p5 : A.tmps[5]?.getD undef = .pointer (some ⟨w.heap.size + 1, 0, none⟩))
    (E : Int) (hE : E = 1 ∨ E = 4 ∨ E = 5 ∨ E = 8) (pk : A.tmps[18]?.getD undef = .int .i64 E) (HL : LnW w t W)
    (hQ : ∀ A' W', EndA w (Pr.nameL E) A A' → EndW w (t) W' → Q .normal A' W') :
    Code.wp Tryz.prog (Code.region 63 #[{ dst := some 225, op := Op.move (Operand.tmp 18), type := 3, pos := "more.go:658", after := #[], guard := none }, { dst := some 226, op := Op.call { callee := Callee.value (Operand.func 16), args := #[Operand.tmp 225], argTypes := #[3] }, type := 9, pos := "more.go:658", after := #[{ on := 0, ground := Ground.data }], guard := none }, { dst := some 227, op := Op.load 26 (Operand.tmp 2), type := 26, pos := "more.go:658", after := #[{ on := 3, ground := Ground.gcOnly Departure.lateStores }], guard := none }, { dst := some 4, op := Op.assign (Operand.tmp 226), type := 9, pos := "more.go:658", after := #[{ on := 1, ground := Ground.data }, { on := 1, ground := Ground.chain }, { on := 0, ground := Ground.phase }, { on := 1, ground := Ground.phase }, { on := 2, ground := Ground.textOnly Departure.lateStores }], guard := none }, { dst := none, op := Op.store 26 (Operand.tmp 5) (Operand.tmp 227), type := 0, pos := "more.go:658", after := #[{ on := 2, ground := Ground.data }, { on := 3, ground := Ground.chain }, { on := 0, ground := Ground.phase }, { on := 1, ground := Ground.phase }, { on := 2, ground := Ground.phase }, { on := 3, ground := Ground.phase }], guard := none }] true) Q A W := by
  have G1 := set_ne
  have G2 := set_eq
  have G3 := set_big
  have hk25 : w.heap.size ≠ w.heap.size + 1 := by omega
  obtain ⟨t0, t1, t2⟩ := HL.drew.tank
  have HLH := Lib.hid HL
  have HQ := Lib.hid hQ
  clear HL hQ
  have z225 : 225 < A.tmps.size := by have h := hAs; unfold BigT at h; omega
  have z226 : 226 < A.tmps.size := by have h := hAs; unfold BigT at h; omega
  have z227 : 227 < A.tmps.size := by have h := hAs; unfold BigT at h; omega
  have HNM := Lib.hid fun W => rname_any E hE W
  clear hE
  go_region_held3 (fun w' => (w'.cell? ⟨w.heap.size, 0, none⟩ = some (.int .i64 t.size) ∧ w'.cell? ⟨w.heap.size, 1, none⟩ = some (.int .i64 t.each) ∧ w'.cell? ⟨w.heap.size, 2, none⟩ = some (.int .i64 t.has))) (first | with_reducible exact KS.out | with_reducible exact ⟨t0, t1, t2⟩ | with_reducible exact ⟨keepA KS.out.1, keepA KS.out.2.1, keepA KS.out.2.2⟩ | with_reducible exact ⟨keepR (keepA KS.out.1) hk25, keepR (keepA KS.out.2.1) hk25, keepR (keepA KS.out.2.2) hk25⟩ | with_reducible exact ⟨keepR KS.out.1 hk25, keepR KS.out.2.1 hk25, keepR KS.out.2.2 hk25⟩ | fail) (first
    | (go_at_call 16; refine (HNM.out _).mono ?_; rintro e w21 ⟨rfl, hb21⟩; have HL21 := Lib.hid (HLH.out.drew.below hb21); have KS := Lib.hid HL21.out.tank; obtain ⟨⟨d0, d1, d2⟩, f0, f1, f2⟩ := HL21.out.res)
    | fail)
  all_goals exact HQ.out _ _ ⟨by rw [set_eq _ 4 _ (by repeat (first | with_reducible exact hAs | with_reducible apply set_big)) (by decide)]; rfl, by (repeat first | rw [set_ne _ 225 5 _ (by decide)] | rw [set_ne _ 226 5 _ (by decide)] | rw [set_ne _ 227 5 _ (by decide)] | rw [set_ne _ 4 5 _ (by decide)]); exact p5, rfl⟩ (HL21.out.end_ t)
set_option maxHeartbeats 2000000 in
set_option maxRecDepth 100000 in
theorem reg64 {Q : Exit → Act → World → Prop} (w W : World) (t : Ph.Tank) (A : Act) (hAs : BigT A.tmps) (p2 : A.tmps[2]?.getD undef = .pointer (some ⟨w.heap.size, 0, none⟩)) (p5 : A.tmps[5]?.getD undef = .pointer (some ⟨w.heap.size + 1, 0, none⟩))
    (g9 n9 c9 m : Nat) (k : Int) (L : List Int) (hg5 : g9 ≠ w.heap.size + 1) (p10 : A.tmps[10]?.getD undef = .slice (some ⟨g9, 0, none⟩) n9 c9) (hn : 2 ≤ n9 ∧ n9 ≤ c9) (a0 : W.cell? ⟨g9, 0, none⟩ = some (.int .i64 k)) (hm : m ≤ 1000) (HLB : ∀ x ∈ L, -1000000000 ≤ x ∧ x ≤ 1000000000) (hck : Calls Tryz.prog 24 #[.slice (some ⟨g9, 1, none⟩) (n9 - 1) (c9 - 1), .int .i64 k] W.drew fun e w' => ∃ A c, e = .returned (.slice A m c) ∧ RdI w' w'.heap.size A m L ∧ Below W.drew.heap.size W.drew w') (HL : LnW w t W)
    (hQ : ∀ A' W', EndA w (Pr.toldL L) A A' → EndW w (t) W' → Q .normal A' W') :
    Code.wp Tryz.prog (Code.region 64 #[{ dst := some 228, op := Op.move (Operand.tmp 10), type := 49, pos := "more.go:660", after := #[], guard := none }, { dst := some 229, op := Op.slice 49 (Operand.tmp 228) (some (Operand.const (Value.int IntKind.i64 1))) none none, type := 49, pos := "more.go:660", after := #[{ on := 0, ground := Ground.data }], guard := none }, { dst := some 230, op := Op.move (Operand.tmp 10), type := 49, pos := "more.go:660", after := #[], guard := none }, { dst := some 231, op := Op.indexAddr 49 (Operand.tmp 230) (Operand.const (Value.int IntKind.i64 0)), type := 0, pos := "more.go:660", after := #[{ on := 2, ground := Ground.data }], guard := none }, { dst := some 232, op := Op.load 3 (Operand.tmp 231), type := 3, pos := "more.go:660", after := #[{ on := 3, ground := Ground.data }], guard := none }, { dst := some 233, op := Op.call { callee := Callee.value (Operand.func 24), args := #[Operand.tmp 229, Operand.tmp 232], argTypes := #[49, 3] }, type := 49, pos := "more.go:660", after := #[{ on := 1, ground := Ground.data }, { on := 4, ground := Ground.data }], guard := none }, { dst := some 234, op := Op.call { callee := Callee.value (Operand.func 17), args := #[Operand.tmp 233, Operand.const (Value.int IntKind.i64 0)], argTypes := #[49, 3] }, type := 9, pos := "more.go:660", after := #[{ on := 5, ground := Ground.data }, { on := 5, ground := Ground.chain }], guard := none }, { dst := some 235, op := Op.load 26 (Operand.tmp 2), type := 26, pos := "more.go:660", after := #[{ on := 8, ground := Ground.gcOnly Departure.lateStores }], guard := none }, { dst := some 4, op := Op.assign (Operand.tmp 234), type := 9, pos := "more.go:660", after := #[{ on := 6, ground := Ground.data }, { on := 6, ground := Ground.chain }, { on := 0, ground := Ground.phase }, { on := 1, ground := Ground.phase }, { on := 2, ground := Ground.phase }, { on := 3, ground := Ground.phase }, { on := 4, ground := Ground.phase }, { on := 5, ground := Ground.phase }, { on := 6, ground := Ground.phase }, { on := 7, ground := Ground.textOnly Departure.lateStores }], guard := none }, { dst := none, op := Op.store 26 (Operand.tmp 5) (Operand.tmp 235), type := 0, pos := "more.go:660", after := #[{ on := 7, ground := Ground.data }, { on := 8, ground := Ground.chain }, { on := 0, ground := Ground.phase }, { on := 1, ground := Ground.phase }, { on := 2, ground := Ground.phase }, { on := 3, ground := Ground.phase }, { on := 4, ground := Ground.phase }, { on := 5, ground := Ground.phase }, { on := 6, ground := Ground.phase }, { on := 7, ground := Ground.phase }, { on := 8, ground := Ground.phase }], guard := none }] true) Q A W := by
  have G1 := set_ne
  have G2 := set_eq
  have G3 := set_big
  have hk25 : w.heap.size ≠ w.heap.size + 1 := by omega
  obtain ⟨t0, t1, t2⟩ := HL.drew.tank
  have HLH := Lib.hid HL
  have HQ := Lib.hid hQ
  clear HL hQ
  have z228 : 228 < A.tmps.size := by have h := hAs; unfold BigT at h; omega
  have z229 : 229 < A.tmps.size := by have h := hAs; unfold BigT at h; omega
  have z230 : 230 < A.tmps.size := by have h := hAs; unfold BigT at h; omega
  have z231 : 231 < A.tmps.size := by have h := hAs; unfold BigT at h; omega
  have z232 : 232 < A.tmps.size := by have h := hAs; unfold BigT at h; omega
  have z233 : 233 < A.tmps.size := by have h := hAs; unfold BigT at h; omega
  have z234 : 234 < A.tmps.size := by have h := hAs; unfold BigT at h; omega
  have z235 : 235 < A.tmps.size := by have h := hAs; unfold BigT at h; omega
  replace a0 : W.drew.cell? ⟨g9, 0, none⟩ = some (.int .i64 k) := a0
  have HTD := Lib.hid fun A c W B (h : RdI W B A m L) => rtold_ok A m c L W B h hm HLB
  have i0 : (0 : Int) < (n9 : Int) := by omega
  have i1 : (1 : Int) ≤ (n9 : Int) := by omega
  have i2 : (n9 : Int) ≤ (c9 : Int) := by omega
  have i3 : (1 : Int) ≤ (c9 : Int) := by omega
  have i5 : 0 < n9 := by omega
  have hcc : ¬ c9 = 1 := by omega
  have HCK := Lib.hid hck
  clear hck HLB hn
  go_region_held3 (fun w' => (w'.cell? ⟨w.heap.size, 0, none⟩ = some (.int .i64 t.size) ∧ w'.cell? ⟨w.heap.size, 1, none⟩ = some (.int .i64 t.each) ∧ w'.cell? ⟨w.heap.size, 2, none⟩ = some (.int .i64 t.has)) ∧ w'.cell? ⟨g9, 0, none⟩ = some (.int .i64 k)) (first | with_reducible exact KS.out | with_reducible exact ⟨⟨t0, t1, t2⟩, a0⟩ | with_reducible exact ⟨⟨keepA KS.out.1.1, keepA KS.out.1.2.1, keepA KS.out.1.2.2⟩, keepA KS.out.2⟩ | with_reducible exact ⟨⟨keepR (keepA KS.out.1.1) hk25, keepR (keepA KS.out.1.2.1) hk25, keepR (keepA KS.out.1.2.2) hk25⟩, keepR (keepA KS.out.2) hg5⟩ | with_reducible exact ⟨⟨keepR KS.out.1.1 hk25, keepR KS.out.1.2.1 hk25, keepR KS.out.1.2.2 hk25⟩, keepR KS.out.2 hg5⟩ | fail) (first
    | (go_at_call 24; refine HCK.out.mono ?_; rintro e w21 ⟨AR, cR, rfl, hrR, hb21⟩; have HL21 := Lib.hid (HLH.out.drew.below hb21); have HRR := Lib.hid hrR; have KS := Lib.hid (And.intro HL21.out.tank (keepB a0 hb21)))
    | (go_at_call 17; refine (HTD.out _ _ _ _ HRR.out).mono ?_; rintro e w22 ⟨rfl, rfl⟩; obtain ⟨⟨d0, d1, d2⟩, f0, f1, f2⟩ := HL21.out.res)
    | fail)
  all_goals exact HQ.out _ _ ⟨by rw [set_eq _ 4 _ (by repeat (first | with_reducible exact hAs | with_reducible apply set_big)) (by decide)]; rfl, by (repeat first | rw [set_ne _ 228 5 _ (by decide)] | rw [set_ne _ 229 5 _ (by decide)] | rw [set_ne _ 230 5 _ (by decide)] | rw [set_ne _ 231 5 _ (by decide)] | rw [set_ne _ 232 5 _ (by decide)] | rw [set_ne _ 233 5 _ (by decide)] | rw [set_ne _ 234 5 _ (by decide)] | rw [set_ne _ 235 5 _ (by decide)] | rw [set_ne _ 4 5 _ (by decide)]); exact p5, rfl⟩ (HL21.out.end_ t)
set_option maxHeartbeats 2000000 in
set_option maxRecDepth 100000 in
theorem reg67 {Q : Exit → Act → World → Prop} (w W : World) (t : Ph.Tank) (A : Act) (hAs : BigT A.tmps) (p2 : A.tmps[2]?.getD undef = .pointer (some ⟨w.heap.size, 0, none⟩)) (p5 : A.tmps[5]?.getD undef = .pointer (some ⟨w.heap.size + 1, 0, none⟩))
     (HL : LnW w t W)
    (hQ : ∀ A' W', EndA w (Pr.nameL 1) A A' → EndW w (t) W' → Q .normal A' W') :
    Code.wp Tryz.prog (Code.region 67 #[{ dst := some 242, op := Op.call { callee := Callee.value (Operand.func 16), args := #[Operand.const (Value.int IntKind.i64 1)], argTypes := #[3] }, type := 9, pos := "more.go:663", after := #[], guard := none }, { dst := some 243, op := Op.load 26 (Operand.tmp 2), type := 26, pos := "more.go:663", after := #[{ on := 2, ground := Ground.gcOnly Departure.lateStores }], guard := none }, { dst := some 4, op := Op.assign (Operand.tmp 242), type := 9, pos := "more.go:663", after := #[{ on := 0, ground := Ground.data }, { on := 0, ground := Ground.chain }, { on := 0, ground := Ground.phase }, { on := 1, ground := Ground.textOnly Departure.lateStores }], guard := none }, { dst := none, op := Op.store 26 (Operand.tmp 5) (Operand.tmp 243), type := 0, pos := "more.go:663", after := #[{ on := 1, ground := Ground.data }, { on := 2, ground := Ground.chain }, { on := 0, ground := Ground.phase }, { on := 1, ground := Ground.phase }, { on := 2, ground := Ground.phase }], guard := none }] true) Q A W := by
  have G1 := set_ne
  have G2 := set_eq
  have G3 := set_big
  have hk25 : w.heap.size ≠ w.heap.size + 1 := by omega
  obtain ⟨t0, t1, t2⟩ := HL.drew.tank
  have HLH := Lib.hid HL
  have HQ := Lib.hid hQ
  clear HL hQ
  have z242 : 242 < A.tmps.size := by have h := hAs; unfold BigT at h; omega
  have z243 : 243 < A.tmps.size := by have h := hAs; unfold BigT at h; omega
  have HNM := Lib.hid fun W => rname_any 1 (.inl rfl) W
  go_region_held3 (fun w' => (w'.cell? ⟨w.heap.size, 0, none⟩ = some (.int .i64 t.size) ∧ w'.cell? ⟨w.heap.size, 1, none⟩ = some (.int .i64 t.each) ∧ w'.cell? ⟨w.heap.size, 2, none⟩ = some (.int .i64 t.has))) (first | with_reducible exact KS.out | with_reducible exact ⟨t0, t1, t2⟩ | with_reducible exact ⟨keepA KS.out.1, keepA KS.out.2.1, keepA KS.out.2.2⟩ | with_reducible exact ⟨keepR (keepA KS.out.1) hk25, keepR (keepA KS.out.2.1) hk25, keepR (keepA KS.out.2.2) hk25⟩ | with_reducible exact ⟨keepR KS.out.1 hk25, keepR KS.out.2.1 hk25, keepR KS.out.2.2 hk25⟩ | fail) (first
    | (go_at_call 16; refine (HNM.out _).mono ?_; rintro e w21 ⟨rfl, hb21⟩; have HL21 := Lib.hid (HLH.out.drew.below hb21); have KS := Lib.hid HL21.out.tank; obtain ⟨⟨d0, d1, d2⟩, f0, f1, f2⟩ := HL21.out.res)
    | fail)
  all_goals exact HQ.out _ _ ⟨by rw [set_eq _ 4 _ (by repeat (first | with_reducible exact hAs | with_reducible apply set_big)) (by decide)]; rfl, by (repeat first | rw [set_ne _ 242 5 _ (by decide)] | rw [set_ne _ 243 5 _ (by decide)] | rw [set_ne _ 4 5 _ (by decide)]); exact p5, rfl⟩ (HL21.out.end_ t)
set_option maxHeartbeats 2000000 in
set_option maxRecDepth 100000 in
theorem reg70 {Q : Exit → Act → World → Prop} (w W : World) (t : Ph.Tank) (A : Act) (hAs : BigT A.tmps) (p2 : A.tmps[2]?.getD undef = .pointer (some ⟨w.heap.size, 0, none⟩)) (p5 : A.tmps[5]?.getD undef = .pointer (some ⟨w.heap.size + 1, 0, none⟩))
    (g v : Int) (p19 : A.tmps[19]?.getD undef = .int .i64 g) (p20 : A.tmps[20]?.getD undef = .int .i64 v) (HRB : (-1000000000 ≤ g ∧ g ≤ 1000000000) ∧ -1000000000 ≤ v ∧ v ≤ 1000000000) (HL : LnW w t W)
    (hQ : ∀ A' W', EndA w (Pr.toldL [g, v]) A A' → EndW w (t) W' → Q .normal A' W') :
    Code.wp Tryz.prog (Code.region 70 #[{ dst := some 253, op := Op.move (Operand.tmp 19), type := 3, pos := "more.go:667", after := #[], guard := none }, { dst := some 254, op := Op.move (Operand.tmp 20), type := 3, pos := "more.go:667", after := #[], guard := none }, { dst := some 255, op := Op.buildSlice 49 2 #[(0, Operand.tmp 253), (1, Operand.tmp 254)], type := 49, pos := "more.go:667", after := #[{ on := 0, ground := Ground.data }, { on := 1, ground := Ground.data }], guard := none }, { dst := some 256, op := Op.call { callee := Callee.value (Operand.func 17), args := #[Operand.tmp 255, Operand.const (Value.int IntKind.i64 0)], argTypes := #[49, 3] }, type := 9, pos := "more.go:667", after := #[{ on := 2, ground := Ground.data }], guard := none }, { dst := some 257, op := Op.load 26 (Operand.tmp 2), type := 26, pos := "more.go:667", after := #[{ on := 5, ground := Ground.gcOnly Departure.lateStores }], guard := none }, { dst := some 4, op := Op.assign (Operand.tmp 256), type := 9, pos := "more.go:667", after := #[{ on := 3, ground := Ground.data }, { on := 3, ground := Ground.chain }, { on := 0, ground := Ground.phase }, { on := 1, ground := Ground.phase }, { on := 2, ground := Ground.phase }, { on := 3, ground := Ground.phase }, { on := 4, ground := Ground.textOnly Departure.lateStores }], guard := none }, { dst := none, op := Op.store 26 (Operand.tmp 5) (Operand.tmp 257), type := 0, pos := "more.go:667", after := #[{ on := 4, ground := Ground.data }, { on := 5, ground := Ground.chain }, { on := 0, ground := Ground.phase }, { on := 1, ground := Ground.phase }, { on := 2, ground := Ground.phase }, { on := 3, ground := Ground.phase }, { on := 4, ground := Ground.phase }, { on := 5, ground := Ground.phase }], guard := none }] true) Q A W := by
  have G1 := set_ne
  have G2 := set_eq
  have G3 := set_big
  have hk25 : w.heap.size ≠ w.heap.size + 1 := by omega
  obtain ⟨t0, t1, t2⟩ := HL.drew.tank
  have HLH := Lib.hid HL
  have HQ := Lib.hid hQ
  clear HL hQ
  have z253 : 253 < A.tmps.size := by have h := hAs; unfold BigT at h; omega
  have z254 : 254 < A.tmps.size := by have h := hAs; unfold BigT at h; omega
  have z255 : 255 < A.tmps.size := by have h := hAs; unfold BigT at h; omega
  have z256 : 256 < A.tmps.size := by have h := hAs; unfold BigT at h; omega
  have z257 : 257 < A.tmps.size := by have h := hAs; unfold BigT at h; omega
  have HTD := Lib.hid (told_below <| rtold_ok (some ⟨W.heap.size, 0, none⟩) 2 2 [g, v] (W.alloc (.cells #[.int .i64 g, .int .i64 v] 3)).drew _ ((RdI.lit' W [g, v] 3 #[.int .i64 g, .int .i64 v] rfl).below ⟨rfl, rfl, rfl, Nat.le_refl _, fun _ _ => rfl⟩) (by omega) (fun y hy => by
    rcases List.mem_cons.1 hy with rfl | hy
    · exact HRB.1
    · rw [List.mem_singleton.1 hy]; exact HRB.2))
  have HL21 := Lib.hid (HLH.out.alloc (.cells #[.int .i64 g, .int .i64 v] 3)).drew
  have KS := Lib.hid HL21.out.tank
  go_region_held3 (fun w' => (w'.cell? ⟨w.heap.size, 0, none⟩ = some (.int .i64 t.size) ∧ w'.cell? ⟨w.heap.size, 1, none⟩ = some (.int .i64 t.each) ∧ w'.cell? ⟨w.heap.size, 2, none⟩ = some (.int .i64 t.has))) (first | with_reducible exact KS.out | with_reducible exact ⟨t0, t1, t2⟩ | with_reducible exact ⟨keepA KS.out.1, keepA KS.out.2.1, keepA KS.out.2.2⟩ | with_reducible exact ⟨keepR (keepA KS.out.1) hk25, keepR (keepA KS.out.2.1) hk25, keepR (keepA KS.out.2.2) hk25⟩ | with_reducible exact ⟨keepR KS.out.1 hk25, keepR KS.out.2.1 hk25, keepR KS.out.2.2 hk25⟩ | fail) (first
    | (go_at_call 17; refine HTD.out.mono ?_; rintro e w22 ⟨rfl, hb22⟩; have HL22 := Lib.hid (HL21.out.below hb22); have KS := Lib.hid HL22.out.tank; obtain ⟨⟨d0, d1, d2⟩, f0, f1, f2⟩ := HL22.out.res)
    | fail)
  all_goals exact HQ.out _ _ ⟨by rw [set_eq _ 4 _ (by repeat (first | with_reducible exact hAs | with_reducible apply set_big)) (by decide)]; rfl, by (repeat first | rw [set_ne _ 253 5 _ (by decide)] | rw [set_ne _ 254 5 _ (by decide)] | rw [set_ne _ 255 5 _ (by decide)] | rw [set_ne _ 256 5 _ (by decide)] | rw [set_ne _ 257 5 _ (by decide)] | rw [set_ne _ 4 5 _ (by decide)]); exact p5, rfl⟩ (HL22.out.end_ t)
set_option maxHeartbeats 4000000 in
set_option maxRecDepth 100000 in
theorem reg72 {Q : Exit → Act → World → Prop} (w W : World) (t d : Ph.Tank) (A : Act) (hAs : BigT A.tmps) (p2 : A.tmps[2]?.getD undef = .pointer (some ⟨w.heap.size, 0, none⟩)) (_p5 : A.tmps[5]?.getD undef = .pointer (some ⟨w.heap.size + 1, 0, none⟩))
    (g9 c9 : Nat) (a E : Int) (_hg5 : g9 ≠ w.heap.size + 1) (p10 : A.tmps[10]?.getD undef = .slice (some ⟨g9, 0, none⟩) 1 c9) (a0 : W.cell? ⟨g9, 0, none⟩ = some (.int .i64 a)) (HL : LnW w t W)
    (hck : ∀ W, Calls Tryz.prog 27 #[.agg #[.int .i64 t.size, .int .i64 t.each, .int .i64 t.has], .int .i64 a] W fun e w' => e = .returned (.tuple #[.agg #[.int .i64 d.size, .int .i64 d.each, .int .i64 d.has], .int .i64 E]) ∧ Below W.heap.size W w')
    (hQ : ∀ A' W' K, A' = { tmps := ((((((((((A.tmps.setIfInBounds 261 (.agg #[.int .i64 t.size, .int .i64 t.each, .int .i64 t.has])).setIfInBounds 262 (.slice (some ⟨g9, 0, none⟩) 1 c9)).setIfInBounds 263 (.pointer (some ⟨g9, 0, none⟩))).setIfInBounds 264 (.int .i64 a)).setIfInBounds 265 (.tuple #[.agg #[.int .i64 d.size, .int .i64 d.each, .int .i64 d.has], .int .i64 E])).setIfInBounds 260 (.tuple #[.agg #[.int .i64 d.size, .int .i64 d.each, .int .i64 d.has], .int .i64 E])).setIfInBounds 266 (.agg #[.int .i64 d.size, .int .i64 d.each, .int .i64 d.has])).setIfInBounds 267 (.int .i64 E)).setIfInBounds 22 (.pointer (some ⟨K, 0, none⟩))).setIfInBounds 23 (.int .i64 E)), defers := A.defers } ∨ A' = { tmps := ((((((((((A.tmps.setIfInBounds 261 (.agg #[.int .i64 t.size, .int .i64 t.each, .int .i64 t.has])).setIfInBounds 262 (.slice (some ⟨g9, 0, none⟩) 1 c9)).setIfInBounds 263 (.pointer (some ⟨g9, 0, none⟩))).setIfInBounds 264 (.int .i64 a)).setIfInBounds 22 (.pointer (some ⟨K, 0, none⟩))).setIfInBounds 265 (.tuple #[.agg #[.int .i64 d.size, .int .i64 d.each, .int .i64 d.has], .int .i64 E])).setIfInBounds 260 (.tuple #[.agg #[.int .i64 d.size, .int .i64 d.each, .int .i64 d.has], .int .i64 E])).setIfInBounds 266 (.agg #[.int .i64 d.size, .int .i64 d.each, .int .i64 d.has])).setIfInBounds 267 (.int .i64 E)).setIfInBounds 23 (.int .i64 E)), defers := A.defers } → LnW w t W' → w.heap.size + 2 ≤ K → W'.heap[K]? = some (.cells #[.int .i64 d.size, .int .i64 d.each, .int .i64 d.has] 26 (0, 0)) → Q .normal A' W') :
    Code.wp Tryz.prog (Code.region 72 #[{ dst := some 261, op := Op.load 26 (Operand.tmp 2), type := 26, pos := "more.go:669", after := #[], guard := none }, { dst := some 262, op := Op.move (Operand.tmp 10), type := 49, pos := "more.go:669", after := #[], guard := none }, { dst := some 263, op := Op.indexAddr 49 (Operand.tmp 262) (Operand.const (Value.int IntKind.i64 0)), type := 0, pos := "more.go:669", after := #[{ on := 1, ground := Ground.data }], guard := none }, { dst := some 264, op := Op.load 3 (Operand.tmp 263), type := 3, pos := "more.go:669", after := #[{ on := 2, ground := Ground.data }], guard := none }, { dst := some 265, op := Op.call { callee := Callee.value (Operand.func 27), args := #[Operand.tmp 261, Operand.tmp 264], argTypes := #[26, 3] }, type := 61, pos := "more.go:669", after := #[{ on := 0, ground := Ground.data }, { on := 3, ground := Ground.data }], guard := none }, { dst := some 260, op := Op.move (Operand.tmp 265), type := 61, pos := "more.go:669", after := #[{ on := 4, ground := Ground.data }], guard := none }, { dst := some 266, op := Op.extract (Operand.tmp 260) 0, type := 26, pos := "more.go:669", after := #[{ on := 5, ground := Ground.data }], guard := none }, { dst := some 267, op := Op.extract (Operand.tmp 260) 1, type := 3, pos := "more.go:669", after := #[{ on := 5, ground := Ground.data }, { on := 9, ground := Ground.gcOnly Departure.lateStores }], guard := none }, { dst := some 22, op := Op.alloc 26, type := 0, pos := "more.go:669", after := #[], guard := none }, { dst := none, op := Op.store 26 (Operand.tmp 22) (Operand.tmp 266), type := 0, pos := "more.go:669", after := #[{ on := 8, ground := Ground.data }, { on := 6, ground := Ground.data }, { on := 4, ground := Ground.chain }, { on := 0, ground := Ground.phase }, { on := 1, ground := Ground.phase }, { on := 2, ground := Ground.phase }, { on := 3, ground := Ground.phase }, { on := 4, ground := Ground.phase }, { on := 5, ground := Ground.phase }, { on := 6, ground := Ground.phase }, { on := 7, ground := Ground.textOnly Departure.lateStores }, { on := 8, ground := Ground.phase }], guard := none }, { dst := some 23, op := Op.assign (Operand.tmp 267), type := 3, pos := "more.go:669", after := #[{ on := 7, ground := Ground.data }, { on := 9, ground := Ground.chain }, { on := 0, ground := Ground.phase }, { on := 1, ground := Ground.phase }, { on := 2, ground := Ground.phase }, { on := 3, ground := Ground.phase }, { on := 4, ground := Ground.phase }, { on := 5, ground := Ground.phase }, { on := 6, ground := Ground.phase }, { on := 7, ground := Ground.phase }, { on := 8, ground := Ground.phase }, { on := 9, ground := Ground.phase }], guard := none }] true) Q A W := by
  have G1 := set_ne
  have G2 := set_eq
  have G3 := set_big
  obtain ⟨t0, t1, t2⟩ := HL.drew.tank
  replace a0 : W.drew.cell? ⟨g9, 0, none⟩ = some (.int .i64 a) := a0
  have HLH := Lib.hid HL
  have HQ := Lib.hid hQ
  have HCK := Lib.hid hck
  have i0 : (0 : Int) < 1 := by omega
  clear HL hQ hck
  have z261 : 261 < A.tmps.size := by have h := hAs; unfold BigT at h; omega
  have z262 : 262 < A.tmps.size := by have h := hAs; unfold BigT at h; omega
  have z263 : 263 < A.tmps.size := by have h := hAs; unfold BigT at h; omega
  have z264 : 264 < A.tmps.size := by have h := hAs; unfold BigT at h; omega
  have z265 : 265 < A.tmps.size := by have h := hAs; unfold BigT at h; omega
  have z260 : 260 < A.tmps.size := by have h := hAs; unfold BigT at h; omega
  have z266 : 266 < A.tmps.size := by have h := hAs; unfold BigT at h; omega
  have z267 : 267 < A.tmps.size := by have h := hAs; unfold BigT at h; omega
  have z22 : 22 < A.tmps.size := by have h := hAs; unfold BigT at h; omega
  have z23 : 23 < A.tmps.size := by have h := hAs; unfold BigT at h; omega
  have hW1 : w.heap.size ≠ W.heap.size := by have := HLH.out.sz; omega
  have hgl : g9 < W.heap.size := cell_lt a0
  have hgW : g9 ≠ W.heap.size := by omega
  obtain ⟨s0, s1, s2⟩ := HLH.out.tank
  have b0 : W.cell? ⟨g9, 0, none⟩ = some (.int .i64 a) := a0
  have q0 : (W.alloc (.cells #[.int .i64 0, .int .i64 0, .int .i64 0] 26)).drew.cell? ⟨w.heap.size, 0, none⟩ = some (.int .i64 t.size) := keepA s0
  have q1 : (W.alloc (.cells #[.int .i64 0, .int .i64 0, .int .i64 0] 26)).drew.cell? ⟨w.heap.size, 1, none⟩ = some (.int .i64 t.each) := keepA s1
  have q2 : (W.alloc (.cells #[.int .i64 0, .int .i64 0, .int .i64 0] 26)).drew.cell? ⟨w.heap.size, 2, none⟩ = some (.int .i64 t.has) := keepA s2
  have q3 : (W.alloc (.cells #[.int .i64 0, .int .i64 0, .int .i64 0] 26)).drew.cell? ⟨g9, 0, none⟩ = some (.int .i64 a) := keepA b0
  clear s0 s1 s2
  go_region_held3 (fun w' => (w'.cell? ⟨w.heap.size, 0, none⟩ = some (.int .i64 t.size) ∧ w'.cell? ⟨w.heap.size, 1, none⟩ = some (.int .i64 t.each) ∧ w'.cell? ⟨w.heap.size, 2, none⟩ = some (.int .i64 t.has)) ∧ w'.cell? ⟨g9, 0, none⟩ = some (.int .i64 a)) (first
    | with_reducible exact KS.out
    | with_reducible exact ⟨⟨t0, t1, t2⟩, a0⟩
    | with_reducible exact ⟨⟨keepA KS.out.1.1, keepA KS.out.1.2.1, keepA KS.out.1.2.2⟩, keepA KS.out.2⟩
    | with_reducible exact ⟨⟨keepK KS.out.1.1 hW1, keepK KS.out.1.2.1 hW1, keepK KS.out.1.2.2 hW1⟩, keepK KS.out.2 hgW⟩
    | with_reducible exact ⟨⟨keepK (keepA KS.out.1.1) hn21, keepK (keepA KS.out.1.2.1) hn21, keepK (keepA KS.out.1.2.2) hn21⟩, keepK (keepA KS.out.2) hg21⟩
    | with_reducible exact ⟨⟨q0, q1, q2⟩, q3⟩
    | fail) (first
    | (go_at_call 27; refine (HCK.out W.drew).mono ?_; rintro e w21 ⟨rfl, hb21⟩; have HL21 := Lib.hid (HLH.out.drew.below hb21); have KS := Lib.hid (And.intro HL21.out.tank (keepB a0 hb21)); have hn21 : w.heap.size ≠ w21.heap.size := (by have := HL21.out.sz; omega); have hg21 : g9 ≠ w21.heap.size := (by have h : g9 < w21.heap.size := cell_lt KS.out.2; omega))
    | (go_at_call 27; refine (HCK.out (W.alloc (.cells #[.int .i64 0, .int .i64 0, .int .i64 0] 26)).drew).mono ?_; rintro e w21 ⟨rfl, hb21⟩; have HL21 := Lib.hid ((HLH.out.alloc (.cells #[.int .i64 0, .int .i64 0, .int .i64 0] 26)).drew.below hb21); have KS := Lib.hid (And.intro HL21.out.tank (keepB (w := (W.alloc (.cells #[.int .i64 0, .int .i64 0, .int .i64 0] 26)).drew) (keepA b0) hb21)); have KK := Lib.hid (fresh_kept (W := W) hb21); obtain ⟨⟨d0, d1, d2⟩, f0, f1, f2⟩ := KK.out.2)
    | fail)
  · exact HQ.out _ _ w21.heap.size (.inl rfl) (HL21.out.alloc _) (by have := HL21.out.sz; omega) (heap_alloc_new _ _)
  · exact HQ.out _ _ W.heap.size (.inr rfl) (((HL21.out.setK (by have := HLH.out.sz; omega) _ _).setK (by have := HLH.out.sz; omega) _ _).setK (by have := HLH.out.sz; omega) _ _) (by have := HLH.out.sz; omega) (fresh_set KK.out.1 _ _ _)
set_option maxHeartbeats 2000000 in
set_option maxRecDepth 100000 in
theorem reg74 {Q : Exit → Act → World → Prop} (w W : World) (t : Ph.Tank) (A : Act) (hAs : BigT A.tmps) (p2 : A.tmps[2]?.getD undef = .pointer (some ⟨w.heap.size, 0, none⟩)) (p5 : A.tmps[5]?.getD undef = .pointer (some ⟨w.heap.size + 1, 0, none⟩))
    (E : Int) (hE : E = 1 ∨ E = 4 ∨ E = 5 ∨ E = 8) (pk : A.tmps[23]?.getD undef = .int .i64 E) (HL : LnW w t W)
    (hQ : ∀ A' W', EndA w (Pr.nameL E) A A' → EndW w (t) W' → Q .normal A' W') :
    Code.wp Tryz.prog (Code.region 74 #[{ dst := some 270, op := Op.move (Operand.tmp 23), type := 3, pos := "more.go:671", after := #[], guard := none }, { dst := some 271, op := Op.call { callee := Callee.value (Operand.func 16), args := #[Operand.tmp 270], argTypes := #[3] }, type := 9, pos := "more.go:671", after := #[{ on := 0, ground := Ground.data }], guard := none }, { dst := some 272, op := Op.load 26 (Operand.tmp 2), type := 26, pos := "more.go:671", after := #[{ on := 3, ground := Ground.gcOnly Departure.lateStores }], guard := none }, { dst := some 4, op := Op.assign (Operand.tmp 271), type := 9, pos := "more.go:671", after := #[{ on := 1, ground := Ground.data }, { on := 1, ground := Ground.chain }, { on := 0, ground := Ground.phase }, { on := 1, ground := Ground.phase }, { on := 2, ground := Ground.textOnly Departure.lateStores }], guard := none }, { dst := none, op := Op.store 26 (Operand.tmp 5) (Operand.tmp 272), type := 0, pos := "more.go:671", after := #[{ on := 2, ground := Ground.data }, { on := 3, ground := Ground.chain }, { on := 0, ground := Ground.phase }, { on := 1, ground := Ground.phase }, { on := 2, ground := Ground.phase }, { on := 3, ground := Ground.phase }], guard := none }] true) Q A W := by
  have G1 := set_ne
  have G2 := set_eq
  have G3 := set_big
  have hk25 : w.heap.size ≠ w.heap.size + 1 := by omega
  obtain ⟨t0, t1, t2⟩ := HL.drew.tank
  have HLH := Lib.hid HL
  have HQ := Lib.hid hQ
  clear HL hQ
  have z270 : 270 < A.tmps.size := by have h := hAs; unfold BigT at h; omega
  have z271 : 271 < A.tmps.size := by have h := hAs; unfold BigT at h; omega
  have z272 : 272 < A.tmps.size := by have h := hAs; unfold BigT at h; omega
  have HNM := Lib.hid fun W => rname_any E hE W
  clear hE
  go_region_held3 (fun w' => (w'.cell? ⟨w.heap.size, 0, none⟩ = some (.int .i64 t.size) ∧ w'.cell? ⟨w.heap.size, 1, none⟩ = some (.int .i64 t.each) ∧ w'.cell? ⟨w.heap.size, 2, none⟩ = some (.int .i64 t.has))) (first | with_reducible exact KS.out | with_reducible exact ⟨t0, t1, t2⟩ | with_reducible exact ⟨keepA KS.out.1, keepA KS.out.2.1, keepA KS.out.2.2⟩ | with_reducible exact ⟨keepR (keepA KS.out.1) hk25, keepR (keepA KS.out.2.1) hk25, keepR (keepA KS.out.2.2) hk25⟩ | with_reducible exact ⟨keepR KS.out.1 hk25, keepR KS.out.2.1 hk25, keepR KS.out.2.2 hk25⟩ | fail) (first
    | (go_at_call 16; refine (HNM.out _).mono ?_; rintro e w21 ⟨rfl, hb21⟩; have HL21 := Lib.hid (HLH.out.drew.below hb21); have KS := Lib.hid HL21.out.tank; obtain ⟨⟨d0, d1, d2⟩, f0, f1, f2⟩ := HL21.out.res)
    | fail)
  all_goals exact HQ.out _ _ ⟨by rw [set_eq _ 4 _ (by repeat (first | with_reducible exact hAs | with_reducible apply set_big)) (by decide)]; rfl, by (repeat first | rw [set_ne _ 270 5 _ (by decide)] | rw [set_ne _ 271 5 _ (by decide)] | rw [set_ne _ 272 5 _ (by decide)] | rw [set_ne _ 4 5 _ (by decide)]); exact p5, rfl⟩ (HL21.out.end_ t)
set_option maxHeartbeats 2000000 in
set_option maxRecDepth 100000 in
theorem reg75 {Q : Exit → Act → World → Prop} (w W : World) (t d : Ph.Tank) (K : Nat) (A : Act) (hAs : BigT A.tmps) (p22 : A.tmps[22]?.getD undef = .pointer (some ⟨K, 0, none⟩)) (p5 : A.tmps[5]?.getD undef = .pointer (some ⟨w.heap.size + 1, 0, none⟩))
    (HRB : -1000000000 ≤ d.has ∧ d.has ≤ 1000000000) (hK2 : w.heap.size + 2 ≤ K) (HL : LnW w t W) (hK : W.heap[K]? = some (.cells #[.int .i64 d.size, .int .i64 d.each, .int .i64 d.has] 26 (0, 0)))
    (hQ : ∀ A' W', EndA w (Pr.toldL [d.has]) A A' → EndW w d W' → Q .normal A' W') :
    Code.wp Tryz.prog (Code.region 75 #[{ dst := some 273, op := Op.fieldAddr 26 (Operand.tmp 22) 2, type := 0, pos := "more.go:673", after := #[], guard := none }, { dst := some 274, op := Op.load 3 (Operand.tmp 273), type := 3, pos := "more.go:673", after := #[{ on := 0, ground := Ground.data }], guard := none }, { dst := some 275, op := Op.buildSlice 49 1 #[(0, Operand.tmp 274)], type := 49, pos := "more.go:673", after := #[{ on := 1, ground := Ground.data }], guard := none }, { dst := some 276, op := Op.call { callee := Callee.value (Operand.func 17), args := #[Operand.tmp 275, Operand.const (Value.int IntKind.i64 0)], argTypes := #[49, 3] }, type := 9, pos := "more.go:673", after := #[{ on := 2, ground := Ground.data }], guard := none }, { dst := some 277, op := Op.load 26 (Operand.tmp 22), type := 26, pos := "more.go:673", after := #[{ on := 5, ground := Ground.gcOnly Departure.lateStores }], guard := none }, { dst := some 4, op := Op.assign (Operand.tmp 276), type := 9, pos := "more.go:673", after := #[{ on := 3, ground := Ground.data }, { on := 3, ground := Ground.chain }, { on := 0, ground := Ground.phase }, { on := 1, ground := Ground.phase }, { on := 2, ground := Ground.phase }, { on := 3, ground := Ground.phase }, { on := 4, ground := Ground.textOnly Departure.lateStores }], guard := none }, { dst := none, op := Op.store 26 (Operand.tmp 5) (Operand.tmp 277), type := 0, pos := "more.go:673", after := #[{ on := 4, ground := Ground.data }, { on := 5, ground := Ground.chain }, { on := 0, ground := Ground.phase }, { on := 1, ground := Ground.phase }, { on := 2, ground := Ground.phase }, { on := 3, ground := Ground.phase }, { on := 4, ground := Ground.phase }, { on := 5, ground := Ground.phase }], guard := none }] true) Q A W := by
  have G1 := set_ne
  have G2 := set_eq
  have G3 := set_big
  have hk25 : K ≠ w.heap.size + 1 := by omega
  have s0 : W.cell? ⟨K, 0, none⟩ = some (.int .i64 d.size) := cell_of_row W K 0 _ _ (0, 0) hK
  have s1 : W.cell? ⟨K, 1, none⟩ = some (.int .i64 d.each) := cell_of_row W K 1 _ _ (0, 0) hK
  have s2 : W.cell? ⟨K, 2, none⟩ = some (.int .i64 d.has) := cell_of_row W K 2 _ _ (0, 0) hK
  have t0 : W.drew.cell? ⟨K, 0, none⟩ = some (.int .i64 d.size) := s0
  have t1 : W.drew.cell? ⟨K, 1, none⟩ = some (.int .i64 d.each) := s1
  have t2 : W.drew.cell? ⟨K, 2, none⟩ = some (.int .i64 d.has) := s2
  have q0 : (W.alloc (.cells #[.int .i64 d.has] 3)).drew.cell? ⟨K, 0, none⟩ = some (.int .i64 d.size) := keepA s0
  have q1 : (W.alloc (.cells #[.int .i64 d.has] 3)).drew.cell? ⟨K, 1, none⟩ = some (.int .i64 d.each) := keepA s1
  have q2 : (W.alloc (.cells #[.int .i64 d.has] 3)).drew.cell? ⟨K, 2, none⟩ = some (.int .i64 d.has) := keepA s2
  have HLH := Lib.hid HL
  have HQ := Lib.hid hQ
  have HL21 := Lib.hid (HL.alloc (.cells #[.int .i64 d.has] 3)).drew
  have HTD := Lib.hid (told_below <| rtold_ok (some ⟨W.heap.size, 0, none⟩) 1 1 [d.has] (W.alloc (.cells #[.int .i64 d.has] 3)).drew _ ((RdI.lit' W [d.has] 3 #[.int .i64 d.has] rfl).below ⟨rfl, rfl, rfl, Nat.le_refl _, fun _ _ => rfl⟩) (by omega) (fun y hy => by rw [List.mem_singleton.1 hy]; exact HRB))
  clear HL hQ hK s0 s1 s2 HRB
  have z273 : 273 < A.tmps.size := by have h := hAs; unfold BigT at h; omega
  have z274 : 274 < A.tmps.size := by have h := hAs; unfold BigT at h; omega
  have z275 : 275 < A.tmps.size := by have h := hAs; unfold BigT at h; omega
  have z276 : 276 < A.tmps.size := by have h := hAs; unfold BigT at h; omega
  have z277 : 277 < A.tmps.size := by have h := hAs; unfold BigT at h; omega
  go_region_held3 (fun w' => w'.cell? ⟨K, 0, none⟩ = some (.int .i64 d.size) ∧ w'.cell? ⟨K, 1, none⟩ = some (.int .i64 d.each) ∧ w'.cell? ⟨K, 2, none⟩ = some (.int .i64 d.has)) (first
    | with_reducible exact KS.out
    | with_reducible exact ⟨t0, t1, t2⟩
    | with_reducible exact ⟨q0, q1, q2⟩
    | with_reducible exact ⟨keepR KS.out.1 hk25, keepR KS.out.2.1 hk25, keepR KS.out.2.2 hk25⟩
    | fail) (first
    | (go_at_call 17; refine HTD.out.mono ?_; rintro e w22 ⟨rfl, hb22⟩; have HL22 := Lib.hid (HL21.out.below hb22); have KS := Lib.hid (And.intro (keepB q0 hb22) (And.intro (keepB q1 hb22) (keepB q2 hb22))); obtain ⟨⟨d0, d1, d2⟩, f0, f1, f2⟩ := HL22.out.res)
    | fail)
  all_goals exact HQ.out _ _ ⟨by rw [set_eq _ 4 _ (by repeat (first | with_reducible exact hAs | with_reducible apply set_big)) (by decide)]; rfl, by (repeat first | rw [set_ne _ 273 5 _ (by decide)] | rw [set_ne _ 274 5 _ (by decide)] | rw [set_ne _ 275 5 _ (by decide)] | rw [set_ne _ 276 5 _ (by decide)] | rw [set_ne _ 277 5 _ (by decide)] | rw [set_ne _ 4 5 _ (by decide)]); exact p5, rfl⟩ (HL22.out.end_ d)
set_option maxHeartbeats 2000000 in
set_option maxRecDepth 100000 in
theorem reg76 {Q : Exit → Act → World → Prop} (w W : World) (t : Ph.Tank) (A : Act) (hAs : BigT A.tmps) (p2 : A.tmps[2]?.getD undef = .pointer (some ⟨w.heap.size, 0, none⟩)) (p5 : A.tmps[5]?.getD undef = .pointer (some ⟨w.heap.size + 1, 0, none⟩))
    (R : Int) (HRB : -1000000000 ≤ R ∧ R ≤ 1000000000) (hck : Calls Tryz.prog 28 #[.agg #[.int .i64 t.size, .int .i64 t.each, .int .i64 t.has]] W.drew fun e w' => e = .returned (.int .i64 R) ∧ Below W.drew.heap.size W.drew w') (HL : LnW w t W)
    (hQ : ∀ A' W', EndA w (Pr.toldL [R]) A A' → EndW w (t) W' → Q .normal A' W') :
    Code.wp Tryz.prog (Code.region 76 #[{ dst := some 278, op := Op.load 26 (Operand.tmp 2), type := 26, pos := "more.go:675", after := #[], guard := none }, { dst := some 279, op := Op.call { callee := Callee.value (Operand.func 28), args := #[Operand.tmp 278], argTypes := #[26] }, type := 3, pos := "more.go:675", after := #[{ on := 0, ground := Ground.data }], guard := none }, { dst := some 280, op := Op.buildSlice 49 1 #[(0, Operand.tmp 279)], type := 49, pos := "more.go:675", after := #[{ on := 1, ground := Ground.data }], guard := none }, { dst := some 281, op := Op.call { callee := Callee.value (Operand.func 17), args := #[Operand.tmp 280, Operand.const (Value.int IntKind.i64 0)], argTypes := #[49, 3] }, type := 9, pos := "more.go:675", after := #[{ on := 2, ground := Ground.data }, { on := 1, ground := Ground.chain }], guard := none }, { dst := some 282, op := Op.load 26 (Operand.tmp 2), type := 26, pos := "more.go:675", after := #[{ on := 5, ground := Ground.gcOnly Departure.lateStores }], guard := none }, { dst := some 4, op := Op.assign (Operand.tmp 281), type := 9, pos := "more.go:675", after := #[{ on := 3, ground := Ground.data }, { on := 3, ground := Ground.chain }, { on := 0, ground := Ground.phase }, { on := 1, ground := Ground.phase }, { on := 2, ground := Ground.phase }, { on := 3, ground := Ground.phase }, { on := 4, ground := Ground.textOnly Departure.lateStores }], guard := none }, { dst := none, op := Op.store 26 (Operand.tmp 5) (Operand.tmp 282), type := 0, pos := "more.go:675", after := #[{ on := 4, ground := Ground.data }, { on := 5, ground := Ground.chain }, { on := 0, ground := Ground.phase }, { on := 1, ground := Ground.phase }, { on := 2, ground := Ground.phase }, { on := 3, ground := Ground.phase }, { on := 4, ground := Ground.phase }, { on := 5, ground := Ground.phase }], guard := none }] true) Q A W := by
  have G1 := set_ne
  have G2 := set_eq
  have G3 := set_big
  have hk25 : w.heap.size ≠ w.heap.size + 1 := by omega
  obtain ⟨t0, t1, t2⟩ := HL.drew.tank
  have HLH := Lib.hid HL
  have HQ := Lib.hid hQ
  clear HL hQ
  have z278 : 278 < A.tmps.size := by have h := hAs; unfold BigT at h; omega
  have z279 : 279 < A.tmps.size := by have h := hAs; unfold BigT at h; omega
  have z280 : 280 < A.tmps.size := by have h := hAs; unfold BigT at h; omega
  have z281 : 281 < A.tmps.size := by have h := hAs; unfold BigT at h; omega
  have z282 : 282 < A.tmps.size := by have h := hAs; unfold BigT at h; omega
  have HTD := Lib.hid fun W => told_below (rtold_ok (some ⟨W.heap.size, 0, none⟩) 1 1 [R] (W.alloc (.cells #[.int .i64 R] 3)) _ (RdI.lit' W [R] 3 #[.int .i64 R] rfl) (by omega) (fun y hy => by rw [List.mem_singleton.1 hy]; exact HRB))
  have HCK := Lib.hid hck
  clear hck
  go_region_held3 (fun w' => (w'.cell? ⟨w.heap.size, 0, none⟩ = some (.int .i64 t.size) ∧ w'.cell? ⟨w.heap.size, 1, none⟩ = some (.int .i64 t.each) ∧ w'.cell? ⟨w.heap.size, 2, none⟩ = some (.int .i64 t.has))) (first | with_reducible exact KS.out | with_reducible exact ⟨t0, t1, t2⟩ | with_reducible exact ⟨keepA KS.out.1, keepA KS.out.2.1, keepA KS.out.2.2⟩ | with_reducible exact ⟨keepR (keepA KS.out.1) hk25, keepR (keepA KS.out.2.1) hk25, keepR (keepA KS.out.2.2) hk25⟩ | with_reducible exact ⟨keepR KS.out.1 hk25, keepR KS.out.2.1 hk25, keepR KS.out.2.2 hk25⟩ | fail) (first
    | (go_at_call 28; refine HCK.out.mono ?_; rintro e w21 ⟨rfl, hb21⟩; have HL21 := Lib.hid (HLH.out.drew.below hb21); have KS := Lib.hid HL21.out.tank)
    | (go_at_call 17; refine (HTD.out _).mono ?_; rintro e w22 ⟨rfl, hb22⟩; have HL22 := Lib.hid ((HL21.out.alloc (.cells #[.int .i64 R] 3)).below hb22); have KS := Lib.hid HL22.out.tank; obtain ⟨⟨d0, d1, d2⟩, f0, f1, f2⟩ := HL22.out.res)
    | fail)
  all_goals exact HQ.out _ _ ⟨by rw [set_eq _ 4 _ (by repeat (first | with_reducible exact hAs | with_reducible apply set_big)) (by decide)]; rfl, by (repeat first | rw [set_ne _ 278 5 _ (by decide)] | rw [set_ne _ 279 5 _ (by decide)] | rw [set_ne _ 280 5 _ (by decide)] | rw [set_ne _ 281 5 _ (by decide)] | rw [set_ne _ 282 5 _ (by decide)] | rw [set_ne _ 4 5 _ (by decide)]); exact p5, rfl⟩ (HL22.out.end_ t)
end Go.Proofs.YtjdpgakkphdjlaaGreatDoor
