/- A builder of text, and what is kept where some blocks turn (texts of XHide and XLog, for a seat that has no player and no log). -/
import Derived.Test.YtjdpgakkphdjlaaGreatDoorMem
import Derived.Test.YtjdpgakkphdjlaaGreatDoorStrs
import Derived.Test.YtjdpgakkphdjlaaGreatDoorShelf
import Derived.Lib.ItoaNum
import Derived.Lib.ItoaMem
import Derived.Lib.AppendIntMem
import Derived.Lib.QuietBelow
import Derived.Lib.Builder
import Derived.Laws.Externs
import Derived.Shelf.Strings.BuilderK
import Derived.BigRegion
import Derived.RangeFuncOwn
namespace Go.Proofs.YtjdpgakkphdjlaaGreatDoor
open Go.RowKit

/-- But for some blocks all is as it was. -/
structure KeptBut (S : Nat → Prop) (W w' : World) : Prop where
  os : w'.os = W.os
  tape : w'.tape = W.tape
  output : w'.output = W.output
  size : W.heap.size ≤ w'.heap.size
  block : ∀ k, k < W.heap.size → ¬ S k → w'.heap[k]? = W.heap[k]?
section
variable {S T : Nat → Prop} {W w1 w2 : World}
theorem KeptBut.refl (S : Nat → Prop) (W : World) : KeptBut S W W := ⟨rfl, rfl, rfl, Nat.le_refl _, fun _ _ _ => rfl⟩
theorem KeptBut.trans (h1 : KeptBut S W w1) (h2 : KeptBut S w1 w2) : KeptBut S W w2 :=
  ⟨h2.os.trans h1.os, h2.tape.trans h1.tape, h2.output.trans h1.output, Nat.le_trans h1.size h2.size, fun k hk hs => (h2.block k (Nat.lt_of_lt_of_le hk h1.size) hs).trans (h1.block k hk hs)⟩
theorem KeptBut.of_below (h : Below W.heap.size W w1) : KeptBut S W w1 := ⟨h.os, h.tape, h.output, h.size, fun k hk _ => h.block k hk⟩
theorem KeptBut.on (h1 : KeptBut S W w1) (h : Below w1.heap.size w1 w2) : KeptBut S W w2 := h1.trans (.of_below h)
theorem KeptBut.setCell (h : KeptBut S W w1) {p : Addr} (hp : S p.block) (u : Value) : KeptBut S W (w1.setCell p u) :=
  ⟨h.os, h.tape, h.output, by rw [World.size_setCell]; exact h.size, fun k hk hs => (heap_setCell_other w1 p k u (fun e => hs (e ▸ hp))).trans (h.block k hk hs)⟩
theorem KeptBut.below {B : Nat} (h : KeptBut S W w1) (hB : B ≤ W.heap.size) (hS : ∀ k, S k → B ≤ k) : Below B W w1 :=
  ⟨h.os, h.tape, h.output, h.size, fun k hk => h.block k (Nat.lt_of_lt_of_le hk hB) (fun hs => by have := hS k hs; omega)⟩
theorem KeptBut.mono (h : KeptBut S W w1) (hT : ∀ k, k < W.heap.size → S k → T k) : KeptBut T W w1 := ⟨h.os, h.tape, h.output, h.size, fun k hk ht => h.block k hk (fun hs => ht (hT k hk hs))⟩
theorem KeptBut.drewN (h : KeptBut S W w1) (q : Nat) : KeptBut S W (w1.drewN q) := ⟨h.os, h.tape, h.output, h.size, h.block⟩
theorem KeptBut.alloc (h : KeptBut S W w1) (o : Obj) : KeptBut S W (w1.alloc o) := h.on (below_alloc0 _ _)
theorem KeptBut.row {base n s : Nat} {e : TypeId} {v : Value} {xs : List Value} (h : KeptBut S W w1) (hr : W.ownsRow base e s v n xs) (hn : ∀ k, v.ownBlock = some k → ¬ S k) : w1.ownsRow base e s v n xs := by
  refine ⟨hr.1, ?_⟩
  rcases hr.2 with h0 | ⟨g, cap, cur, rfl, hg, hh, r⟩
  · exact .inl h0
  · refine .inr ⟨g, cap, cur, rfl, hg, ?_, r⟩
    rw [h.block g ((hr.lt g rfl).2) (hn g rfl)]; exact hh
end
/-- A row's block is of its type: none of another type is it. -/
theorem row_type {w : World} {base n s X : Nat} {e t : TypeId} {v : Value} {xs : List Value} {cur : Array Value} {fr : Nat × Nat} (hr : w.ownsRow base e s v n xs) (hX : w.heap[X]? = some (.cells cur t fr)) (ht : ¬ t = e) : v.ownBlock ≠ some X := by
  rcases hr.2 with ⟨h1, _⟩ | ⟨g, cap, cur', rfl, _, hh, _⟩
  · rw [h1]; simp [Value.ownBlock]
  · intro e2
    have : g = X := by simpa [Value.ownBlock] using e2
    subst this
    rw [hX] at hh
    have := Option.some.inj hh
    injection this with _ h3 _
    exact ht h3
/-- A string of bytes. -/
def strL (l : List UInt8) : ByteArray := ⟨l.toArray⟩
theorem strL_append (a b : List UInt8) : strL a ++ strL b = strL (a ++ b) := by
  unfold strL
  apply ByteArray.ext
  simp
theorem strL_size (l : List UInt8) : (strL l).size = l.length := by unfold strL; simp [ByteArray.size]
/-- A builder at block b whose bytes lie from Bx on. -/
def BuildX (w : World) (b Bx : Nat) (l : List UInt8) : Prop :=
  ∃ p v, (p = .pointer none ∨ p = .pointer (some ⟨b, 0, none⟩)) ∧ w.heap[b]? = some (.cells #[p, v] 39 (0, 0)) ∧ w.ownsRowF Bx 5 1 v l.length (Lib.byteCells l)
theorem tab_below {n : String} {g : Nat} {k : IntKind} {zs : List Int} {w w' : World} (hg : Tryz.prog.globalNamed n = some g) (h : Lib.TabIs Tryz.prog w n k zs) (hb : Below w.heap.size w w') : Lib.TabIs Tryz.prog w' n k zs := by
  unfold Lib.TabIs World.var? at h ⊢
  rw [hg] at h ⊢
  simp only [Option.bind_some] at h ⊢
  have hlt : g < w.heap.size := by
    rcases Nat.lt_or_ge g w.heap.size with h' | h'
    · exact h'
    · rw [Array.getElem?_eq_none h'] at h; cases h
  rw [hb.block g hlt]
  exact h
theorem rowF_kept {w w' : World} {base n s : Nat} {e : TypeId} {v : Value} {xs : List Value} (hr : w.ownsRowF base e s v n xs) (hk : ∀ k, v.ownBlock = some k → w'.heap[k]? = w.heap[k]?) : w'.ownsRowF base e s v n xs := by
  refine ⟨hr.1, ?_⟩
  rcases hr.2 with h0 | ⟨g, cap, cur, fz, hv, hb, hh, r⟩
  · exact .inl h0
  · exact .inr ⟨g, cap, cur, fz, hv, hb, by rw [hk g (by rw [hv]; rfl)]; exact hh, r⟩
theorem rowF_lt {w : World} {base n s : Nat} {e : TypeId} {v : Value} {xs : List Value} (hr : w.ownsRowF base e s v n xs) : ∀ k, v.ownBlock = some k → base ≤ k ∧ k < w.heap.size := by
  rcases hr.2 with ⟨h0, _⟩ | ⟨g, cap, cur, fz, hv, hb, hh, r⟩
  · intro k hk; rw [h0] at hk; simp [Value.ownBlock] at hk
  · intro k hk
    rw [hv] at hk
    obtain rfl : g = k := by simpa [Value.ownBlock] using hk
    exact ⟨hb, (Array.getElem?_eq_some_iff.1 hh).1⟩
theorem rowF_cells {w : World} {base n s : Nat} {e : TypeId} {v : Value} {xs : List Value} (hr : w.ownsRowF base e s v n xs) {j : Nat} {o : Obj} (hj : v.ownBlock = some j) (ho : w.heap[j]? = some o) : o.isCells = true := by
  rcases hr.2 with ⟨h0, _⟩ | ⟨g, cap, cur, fz, hv, _, hh, _⟩
  · rw [h0] at hj; simp [Value.ownBlock] at hj
  · rw [hv] at hj
    obtain rfl : g = j := by simpa [Value.ownBlock] using hj
    rw [hh] at ho
    cases ho
    rfl
theorem builder_size : (Tryz.prog.info? 39).map (·.size) = some 2 := by kernel_rfl
theorem builder_lies : liesAt Tryz.prog Tryz.prog.depth 39 (2 / Tryz.prog.cellsOf 39) 0 39 1 = true := by kernel_rfl
set_option maxRecDepth 100000 in
theorem copyCheck_used (b : Nat) (w : World) (h0 : w.cell? ⟨b, 0, none⟩ = some (.pointer (some ⟨b, 0, none⟩))) :
    Calls Tryz.prog 31 #[.pointer (some ⟨b, 0, none⟩)] w fun e w' => e = .returned (.tuple #[]) ∧ w' = w := by
  obtain ⟨j, hj, _⟩ := Option.map_eq_some_iff.1 builder_size
  go_enter Tryz.func31, Tryz.ntmps31
  go_wp2
  rw [Lib.run_neq_ptr_same w _ Tryz.underlying36 hj]
  go_wp2
  go_end0
  exact ⟨rfl, rfl⟩
set_option maxRecDepth 100000 in
theorem copyCheck_fresh (b : Nat) (w : World) (h0 : w.cell? ⟨b, 0, none⟩ = some (.pointer none)) (hsh : w.shape? b = some (39, 2)) (hf : w.frozen? ⟨b, 0, none⟩ = false) :
    Calls Tryz.prog 31 #[.pointer (some ⟨b, 0, none⟩)] w fun e w' => e = .returned (.tuple #[]) ∧ w' = w.setCell ⟨b, 0, none⟩ (.pointer (some ⟨b, 0, none⟩)) := by
  obtain ⟨j, hj, hjs⟩ := Option.map_eq_some_iff.1 builder_size
  go_enter Tryz.func31, Tryz.ntmps31
  go_wp2
  rw [Lib.run_to_unsafe w ⟨b, 0, none⟩ Tryz.underlying36 Tryz.underlying77 hj (by rw [hjs]; decide) hsh (Nat.zero_lt_succ 1)]
  simp only [Result.andThen]
  rw [Oper.upon_value]
  go_wp2
  rw [run_callFunc_extern Tryz.func40 (by kernel_rfl) (by kernel_rfl) (by kernel_rfl) (e := Extern.AbiNoEscape.same) (by kernel_rfl)]
  rw [Lib.run_noEscape]
  simp only [Result.andThen]
  rw [Oper.upon_value]
  go_wp2
  rw [Lib.run_from_unsafe w ⟨b, 0, none⟩ Tryz.underlying77 Tryz.underlying36 hj hsh builder_lies]
  simp only [Result.andThen]
  rw [Oper.upon_value]
  go_wp2
  go_end0
  exact ⟨rfl, rfl⟩
theorem rowF_slice {w : World} {base n s : Nat} {e : TypeId} {v : Value} {xs : List Value} (hr : w.ownsRowF base e s v n xs) : ∃ ao n' cap, v = .slice ao n' cap := by
  rcases hr.2 with ⟨hv, _⟩ | ⟨g, cap, cur, fz, hv, _⟩
  · exact ⟨_, _, _, hv⟩
  · exact ⟨_, _, _, hv⟩
theorem copyCheck_any (b Bx n : Nat) (p v : Value) (xs : List Value) (w : World) (hp : p = .pointer none ∨ p = .pointer (some ⟨b, 0, none⟩)) (hbk : w.heap[b]? = some (.cells #[p, v] 39 (0, 0))) (hown : w.ownsRowF Bx 5 1 v n xs) (hb : b < Bx) :
    Calls Tryz.prog 31 #[.pointer (some ⟨b, 0, none⟩)] w fun e w' => e = .returned (.tuple #[]) ∧ w'.heap[b]? = some (.cells #[.pointer (some ⟨b, 0, none⟩), v] 39 (0, 0)) ∧ w'.ownsRowF Bx 5 1 v n xs ∧ KeptBut (fun k => k = b ∨ Bx ≤ k) w w' ∧ w'.heap.size = w.heap.size ∧ KeepsOthers w w' := by
  rcases hp with rfl | rfl
  · refine (copyCheck_fresh b w (cell_of_row w b 0 _ _ (0, 0) hbk) (by unfold World.shape?; rw [hbk]; rfl) (frozen_of_row w b 0 _ _ hbk)).mono ?_
    rintro e w' ⟨rfl, rfl⟩
    refine ⟨rfl, ?_, rowF_kept hown fun k hk => heap_setCell_other w ⟨b, 0, none⟩ k _ (fun e => by have := (rowF_lt hown k hk).1; have e' : k = b := e; omega), KeptBut.setCell (S := fun k => k = b ∨ Bx ≤ k) (KeptBut.refl _ w) (p := ⟨b, 0, none⟩) (.inl rfl) _, World.size_setCell _ _ _, KeepsOthers.setCell _ _ _⟩
    rw [heap_setCell_same w b 0 _ _ _ hbk]; rfl
  · refine (copyCheck_used b w (cell_of_row w b 0 _ _ (0, 0) hbk)).mono ?_
    rintro e w' ⟨rfl, rfl⟩
    exact ⟨rfl, hbk, hown, KeptBut.refl _ _, rfl, KeepsOthers.refl _⟩
theorem byte_info2 : (Tryz.prog.info? 5).map (fun i => (i.zero, i.size, i.bytes)) = some (some (.int .u8 0), 1, 1) := by kernel_rfl
theorem keep_b {w1 w2 : World} {b : Nat} {v : Value} {o : Obj} (hb : w1.heap[b]? = some o) (hg : w1.grownBy w2 v.ownBlock) (hv : ∀ q, v.ownBlock = some q → b < q) : w2.heap[b]? = some o := by
  rw [hg.block b (Array.getElem?_eq_some_iff.1 hb).1 (fun e => by have := hv b e.symm; omega)]
  exact hb
set_option maxHeartbeats 2000000 in
set_option maxRecDepth 100000 in
theorem writeS_any (b Bx : Nat) (l : List UInt8) (s : ByteArray) (w : World) (h : BuildX w b Bx l) (hb : b < Bx) (hB : Bx ≤ w.heap.size) (hlen : l.length + s.size ≤ 1000000) :
    Calls Tryz.prog 11 #[.pointer (some ⟨b, 0, none⟩), .string s] w fun e w' => e = .returned (.tuple #[.int .i64 s.size, .nilIface]) ∧ BuildX w' b Bx (l ++ s.data.toList) ∧ KeptBut (fun k => k = b ∨ Bx ≤ k) w w' ∧ KeepsOthers w w' := by
  obtain ⟨p, v, hp, hbk, hown⟩ := h
  have HCC := Lib.hid (copyCheck_any b Bx l.length p v _ w hp hbk hown hb)
  obtain ⟨i0, hi, hz0, hz1, hz2⟩ := info_parts byte_info2
  clear hp hbk hown
  go_enter Tryz.func11, Tryz.ntmps11
  go_wp2_with fail
  refine HCC.out.mono ?_
  rintro e w1 ⟨rfl, hbk, hown, hk, hsz, hko⟩
  have c1 : w1.cell? ⟨b, 1, none⟩ = some v := cell_of_row w1 b 1 _ _ (0, 0) hbk
  have HOW := Lib.hid hown
  have HBK := Lib.hid hbk
  have HKK := Lib.hid hk
  have HSZ := Lib.hid hsz
  have HKO := Lib.hid hko
  clear hown hbk hk hsz hko HCC
  go_wp2_with (at_builtin; refine Lib.wpList_append_own_stringF _ (by rfl) _ _ 37 9 (by rfl) Bx 5 i0 Tryz.underlying37 Tryz.underlying9 hi hz0 hz1 hz2 _ _ _ (by rfl) HOW.out s (by rfl) (by unfold maxLen; omega) (by omega) (by have := HSZ.out; omega) ?_; intro v' w2 hown' hgrow _; obtain ⟨ao, n', cap, rfl⟩ := rowF_slice hown'; have hb2 := keep_b HBK.out hgrow (fun q hq => Nat.lt_of_lt_of_le hb (rowF_lt HOW.out q hq).1); have d1 := cell_of_row w2 b 1 _ _ (0, 0) hb2; have f1 := frozen_of_row w2 b 1 _ _ hb2; have HB2 := Lib.hid hb2; have HG := Lib.hid hgrow; have HO2 := Lib.hid hown'; clear hb2 hgrow hown' c1)
  have HK2 : Hid (KeptBut (fun k => k = b ∨ Bx ≤ k) w w2) := Lib.hid ⟨HG.out.os.trans HKK.out.os, HG.out.tape.trans HKK.out.tape, HG.out.output.trans HKK.out.output, Nat.le_trans HKK.out.size HG.out.size, fun k hk hs => by
    rw [HG.out.block k (Nat.lt_of_lt_of_le hk HKK.out.size) (fun e => hs (.inr (rowF_lt HOW.out k e.symm).1))]
    exact HKK.out.block k hk hs⟩
  have HKO2 : Hid (KeepsOthers w w2) := Lib.hid (HKO.out.trans (KeepsOthers.of_grownBy HG.out fun j o ej hj => rowF_cells HOW.out ej hj))
  go_ret2
  refine ⟨rfl, ⟨.pointer (some ⟨b, 0, none⟩), .slice ao n' cap, .inr rfl, ?_, ?_⟩, KeptBut.setCell (S := fun k => k = b ∨ Bx ≤ k) HK2.out (p := ⟨b, 1, none⟩) (.inl rfl) _, HKO2.out.trans (KeepsOthers.setCell _ _ _)⟩
  · rw [heap_setCell_same w2 b 1 _ _ _ HB2.out]; rfl
  · have h1 := rowF_kept (w' := w2.setCell ⟨b, 1, none⟩ (.slice ao n' cap)) HO2.out fun k hk => heap_setCell_other w2 ⟨b, 1, none⟩ k _ (fun e => by have := (rowF_lt HO2.out k hk).1; have e' : k = b := e; omega)
    rw [List.length_append, Lib.byteCells_append, ← Lib.strCells_eq]
    exact h1
theorem KeptBut.cell {S : Nat → Prop} {W w1 : World} (h : KeptBut S W w1) {p : Addr} (hp : p.block < W.heap.size) (hs : ¬ S p.block) : w1.cell? p = W.cell? p := World.cell?_of_block (h.block p.block hp hs)
end Go.Proofs.YtjdpgakkphdjlaaGreatDoor
