/- Walks: what is lost is hidden (chapter 18): a player, made and losing. -/
import Derived.Test.YtmohilfebgahoaaGreatDoorFrame
import Derived.BigRegion
import Derived.Deep.DeepCutAuto
import Derived.Deep.CutBlock
import Derived.Deep.Cut
namespace Go.Proofs.YtmohilfebgahoaaGreatDoor
open Go.RowKit

/-- But for some blocks all is as it was. -/
structure KeptBut (S : Nat → Prop) (W w' : World) : Prop where
  os : w'.os = W.os
  tape : w'.tape = W.tape
  output : w'.output = W.output
  size : W.heap.size ≤ w'.heap.size
  block : ∀ k, k < W.heap.size → ¬ S k → w'.heap[k]? = W.heap[k]?
section
variable {S T : Nat → Prop} {W w1 w2 : World}
theorem KeptBut.refl (S : Nat → Prop) (W : World) : KeptBut S W W := ⟨rfl, rfl, rfl, Nat.le_refl _, fun _ _ _ => rfl⟩
theorem KeptBut.trans (h1 : KeptBut S W w1) (h2 : KeptBut S w1 w2) : KeptBut S W w2 :=
  ⟨h2.os.trans h1.os, h2.tape.trans h1.tape, h2.output.trans h1.output, Nat.le_trans h1.size h2.size, fun k hk hs => (h2.block k (Nat.lt_of_lt_of_le hk h1.size) hs).trans (h1.block k hk hs)⟩
theorem KeptBut.of_below (h : Below W.heap.size W w1) : KeptBut S W w1 := ⟨h.os, h.tape, h.output, h.size, fun k hk _ => h.block k hk⟩
theorem KeptBut.on (h1 : KeptBut S W w1) (h : Below w1.heap.size w1 w2) : KeptBut S W w2 := h1.trans (.of_below h)
theorem KeptBut.setCell (h : KeptBut S W w1) {p : Addr} (hp : S p.block) (u : Value) : KeptBut S W (w1.setCell p u) :=
  ⟨h.os, h.tape, h.output, by rw [World.size_setCell]; exact h.size, fun k hk hs => (heap_setCell_other w1 p k u (fun e => hs (e ▸ hp))).trans (h.block k hk hs)⟩
theorem KeptBut.below {B : Nat} (h : KeptBut S W w1) (hB : B ≤ W.heap.size) (hS : ∀ k, S k → B ≤ k) : Below B W w1 :=
  ⟨h.os, h.tape, h.output, h.size, fun k hk => h.block k (Nat.lt_of_lt_of_le hk hB) (fun hs => by have := hS k hs; omega)⟩
theorem KeptBut.mono (h : KeptBut S W w1) (hT : ∀ k, k < W.heap.size → S k → T k) : KeptBut T W w1 := ⟨h.os, h.tape, h.output, h.size, fun k hk ht => h.block k hk (fun hs => ht (hT k hk hs))⟩
theorem KeptBut.drewN (h : KeptBut S W w1) (q : Nat) : KeptBut S W (w1.drewN q) := ⟨h.os, h.tape, h.output, h.size, h.block⟩
theorem KeptBut.alloc (h : KeptBut S W w1) (o : Obj) : KeptBut S W (w1.alloc o) := h.on (below_alloc0 _ _)
theorem KeptBut.row {base n s : Nat} {e : TypeId} {v : Value} {xs : List Value} (h : KeptBut S W w1) (hr : W.ownsRow base e s v n xs) (hn : ∀ k, v.ownBlock = some k → ¬ S k) : w1.ownsRow base e s v n xs := by
  refine ⟨hr.1, ?_⟩
  rcases hr.2 with h0 | ⟨g, cap, cur, rfl, hg, hh, r⟩
  · exact .inl h0
  · refine .inr ⟨g, cap, cur, rfl, hg, ?_, r⟩
    rw [h.block g ((hr.lt g rfl).2) (hn g rfl)]; exact hh
end
/-- A row's block is of its type: none of another type is it. -/
theorem row_type {w : World} {base n s X : Nat} {e t : TypeId} {v : Value} {xs : List Value} {cur : Array Value} {fr : Nat × Nat} (hr : w.ownsRow base e s v n xs) (hX : w.heap[X]? = some (.cells cur t fr)) (ht : ¬ t = e) : v.ownBlock ≠ some X := by
  rcases hr.2 with ⟨h1, _⟩ | ⟨g, cap, cur', rfl, _, hh, _⟩
  · rw [h1]; simp [Value.ownBlock]
  · intro e2
    have : g = X := by simpa [Value.ownBlock] using e2
    subst this
    rw [hX] at hh
    have := Option.some.inj hh
    injection this with _ h3 _
    exact ht h3
/-- The cells of a player. -/
def playerV (vs : Value) (bits many : Int) (vl : Value) (lost : Int) : Array Value := #[vs, .int .i64 bits, .int .i64 many, vl, .int .i64 lost]
/-- A player at block X: its cells, its sizes, what it played last: all of its own. -/
def PlayerAt (w : World) (base X : Nat) (As : Option Addr) (ns cs : Nat) (sizes : List Int) (bits many : Int) (A : Option Addr) (n c : Nat) (ps : List Ph.Part) (lost : Int) : Prop :=
  base ≤ X ∧ w.heap[X]? = some (.cells (playerV (.slice As ns cs) bits many (.slice A n c) lost) 88 (0, 0)) ∧ w.ownsRow base 3 1 (.slice As ns cs) ns (ivals sizes) ∧ OwnPV w base A n c ps
/-- The blocks that are its own to turn. -/
def ownBlocks (X : Nat) (A : Option Addr) (n c : Nat) (k : Nat) : Prop := k = X ∨ (Value.slice A n c).ownBlock = some k
section
variable {w w' : World} {base X ns cs n c : Nat} {As A : Option Addr} {sizes : List Int} {bits many lost : Int} {ps : List Ph.Part}
theorem PlayerAt.lt (h : PlayerAt w base X As ns cs sizes bits many A n c ps lost) : X < w.heap.size := by
  rcases Nat.lt_or_ge X w.heap.size with h1 | h1
  · exact h1
  · have := h.2.1
    rw [Array.getElem?_eq_none h1] at this
    cases this
theorem PlayerAt.cell (h : PlayerAt w base X As ns cs sizes bits many A n c ps lost) (j : Nat) : w.cell? ⟨X, j, none⟩ = (playerV (.slice As ns cs) bits many (.slice A n c) lost)[j]? := cell_of_row w X j _ _ (0, 0) h.2.1
theorem PlayerAt.frozen (h : PlayerAt w base X As ns cs sizes bits many A n c ps lost) (j : Nat) : w.frozen? ⟨X, j, none⟩ = false := frozen_of_row w X j _ _ h.2.1
theorem PlayerAt.cells (h : PlayerAt w base X As ns cs sizes bits many A n c ps lost) : w.cell? ⟨X, 0, none⟩ = some (.slice As ns cs) ∧ w.cell? ⟨X, 1, none⟩ = some (.int .i64 bits) ∧ w.cell? ⟨X, 2, none⟩ = some (.int .i64 many) ∧ w.cell? ⟨X, 3, none⟩ = some (.slice A n c) ∧ w.cell? ⟨X, 4, none⟩ = some (.int .i64 lost) :=
  ⟨h.cell 0, h.cell 1, h.cell 2, h.cell 3, h.cell 4⟩
theorem PlayerAt.below' (h : PlayerAt w base X As ns cs sizes bits many A n c ps lost) (hb : Below w.heap.size w w') : PlayerAt w' base X As ns cs sizes bits many A n c ps lost :=
  ⟨h.1, (hb.block X h.lt).trans h.2.1, own_below' h.2.2.1 hb, h.2.2.2.below' hb⟩
theorem PlayerAt.drewN (h : PlayerAt w base X As ns cs sizes bits many A n c ps lost) (q : Nat) : PlayerAt (w.drewN q) base X As ns cs sizes bits many A n c ps lost := h.below' ⟨rfl, rfl, rfl, Nat.le_refl _, fun _ _ => rfl⟩
theorem PlayerAt.alloc (h : PlayerAt w base X As ns cs sizes bits many A n c ps lost) (o : Obj) : PlayerAt (w.alloc o) base X As ns cs sizes bits many A n c ps lost := h.below' (below_alloc0 _ _)
/-- Parts of one's own where a block of another type turns. -/
theorem OwnPV.kept (h : OwnPV w base A n c ps) (hg : w.grownBy w' (some X)) {t : TypeId} {cur : Array Value} {fr : Nat × Nat} (hX : w.heap[X]? = some (.cells cur t fr)) (h1 : ¬ t = 78) (h2 : ¬ t = 3) : OwnPV w' base A n c ps := by
  obtain ⟨vs, a1, a2, a3⟩ := h
  refine ⟨vs, a1.kept hg (.inr (row_type a1 hX h1)), a2.map fun v l hv => ?_, a3⟩
  obtain ⟨A', c', e, hi⟩ := hv
  exact ⟨A', c', e, hi.kept hg (.inr (row_type hi hX h2))⟩
/-- How many were lost is told anew. -/
theorem PlayerAt.setLost (h : PlayerAt w base X As ns cs sizes bits many A n c ps lost) (y : Int) : PlayerAt (w.setCell ⟨X, 4, none⟩ (.int .i64 y)) base X As ns cs sizes bits many A n c ps y := by
  have hg : w.grownBy (w.setCell ⟨X, 4, none⟩ (.int .i64 y)) (some X) := ⟨rfl, rfl, rfl, by simp, fun k _ hk => heap_setCell_other w ⟨X, 4, none⟩ k _ (fun e => hk (by simp [e]))⟩
  refine ⟨h.1, ?_, h.2.2.1.kept hg (.inr (row_type h.2.2.1 h.2.1 (by decide))), h.2.2.2.kept hg h.2.1 (by decide) (by decide)⟩
  rw [heap_setCell_same w X 4 _ _ _ h.2.1]; rfl
/-- Its parts turn. -/
theorem PlayerAt.setParts {g : Nat} {qs : List Ph.Part} (h : PlayerAt w base X As ns cs sizes bits many (some ⟨g, 0, none⟩) n c ps lost) (hg : w.grownBy w' (some g)) (hp : OwnPV w' base (some ⟨g, 0, none⟩) n c qs) : PlayerAt w' base X As ns cs sizes bits many (some ⟨g, 0, none⟩) n c qs lost := by
  obtain ⟨vs, a1, a2, a3⟩ := h.2.2.2
  have hX : (Value.slice (some ⟨g, 0, none⟩) n c).ownBlock ≠ some X := row_type a1 h.2.1 (by decide)
  have hX' : g ≠ X := fun e => hX (by subst e; rfl)
  refine ⟨h.1, (hg.block X h.lt (by simp; omega)).trans h.2.1, ?_, hp⟩
  exact other_kept (by decide) a1 h.2.2.1 hg
end
/-- What is wrong with a player. -/
def newErr (s : List Int) (bits : Int) : Int := if Ph.bandErr s ≠ 0 then Ph.bandErr s else if bits < 0 ∨ 400 < bits then 1 else if Ph.total s % 2 ≠ 0 then 3 else 0
theorem newErr_zero {s : List Int} {bits : Int} : newErr s bits = 0 ↔ Ph.bandErr s = 0 ∧ (0 ≤ bits ∧ bits ≤ 400) ∧ Ph.total s % 2 = 0 := by
  unfold newErr
  constructor
  · intro h
    split at h
    · omega
    · split at h
      · omega
      · split at h <;> omega
  · rintro ⟨h1, h2, h3⟩
    rw [if_neg (by omega), if_neg (by omega), if_neg (by omega)]
theorem hnew_no (A : Option Addr) (n c : Nat) (s : List Int) (bits : Int) (w : World) (B : Nat) (h : RdI w B A n s) (hn : n ≤ 100000000000000) (h0 : newErr s bits ≠ 0) :
    Calls Tryz.prog 18 #[.slice A n c, .int .i64 bits] w fun e w' => e = .returned (.tuple #[.pointer none, errV (newErr s bits)]) ∧ w' = w := by
  by_cases hb : Ph.bandErr s = 0
  · have HBC := Lib.hid (bandCheck_ok A n c s w B h hb)
    have HSB := Lib.hid fun W => shbits_any bits W
    by_cases hi : 0 ≤ bits ∧ bits ≤ 400
    · have ht : Ph.total s % 2 ≠ 0 := fun ht => h0 (newErr_zero.2 ⟨hb, hi, ht⟩)
      have e : newErr s bits = 3 := by unfold newErr; rw [if_neg (by omega), if_neg (by omega), if_pos ht]
      rw [show bitsOk bits = true from bitsOk_iff.2 hi] at HSB
      rw [e]
      have htp : 0 ≤ Ph.total s := Ph.total_nonneg fun x hx => by have := (Ph.bandErr_zero.1 hb).2.2.1 x hx; omega
      obtain ⟨T, hT⟩ : ∃ T, T = Ph.total s := ⟨_, rfl⟩
      rw [← hT] at HBC ht htp
      have k1 : T.tmod 2 = T % 2 := Int.tmod_eq_emod_of_nonneg htp
      have k2 : (T % 2 != 0) = true := by simp; omega
      clear h h0 hb hi e hT
      go_enter Tryz.func18, Tryz.ntmps18
      go_wp2_with fail
      refine HBC.out.mono ?_
      rintro e w' ⟨rfl, rfl⟩
      go_wp2_with fail
      refine (HSB.out _).mono ?_
      rintro e w' ⟨rfl, rfl⟩
      go_wp2_with fail
      go_ret2
      exact ⟨by rw [errV_ne (by omega)]; rfl, rfl⟩
    · have e : newErr s bits = 1 := by unfold newErr; rw [if_neg (by omega), if_pos (by omega)]
      rw [show bitsOk bits = false by unfold bitsOk; simp; omega] at HSB
      rw [e]
      clear h h0 hb hi e
      go_enter Tryz.func18, Tryz.ntmps18
      go_wp2_with fail
      refine HBC.out.mono ?_
      rintro e w' ⟨rfl, rfl⟩
      go_wp2_with fail
      refine (HSB.out _).mono ?_
      rintro e w' ⟨rfl, rfl⟩
      go_wp2_with fail
      go_ret2
      exact ⟨by rw [errV_ne (by omega)]; rfl, rfl⟩
  · have e : newErr s bits = Ph.bandErr s := by unfold newErr; rw [if_pos hb]
    have HBC := Lib.hid (bandCheck_no A n c s w B h hn hb)
    rw [e]
    obtain ⟨E, hE⟩ : ∃ E, E = Ph.bandErr s := ⟨_, rfl⟩
    rw [← hE] at HBC hb ⊢
    rw [errV_ne hb] at HBC ⊢
    clear h h0 e hE
    go_enter Tryz.func18, Tryz.ntmps18
    go_wp2_with fail
    refine HBC.out.mono ?_
    rintro e w' ⟨rfl, rfl⟩
    go_wp2_with fail
    go_ret2
    exact ⟨rfl, rfl⟩
theorem hnew_ok (A : Option Addr) (n c : Nat) (s : List Int) (bits : Int) (w : World) (B : Nat) (h : RdI w B A n s) (hB : B ≤ w.heap.size) (h0 : newErr s bits = 0) :
    Calls Tryz.prog 18 #[.slice A n c, .int .i64 bits] w fun e w' => ∃ X As cs, e = .returned (.tuple #[.pointer (some ⟨X, 0, none⟩), .nilIface]) ∧ PlayerAt w' w.heap.size X As n cs s bits (Ph.total s) none 0 0 [] 0 ∧ Below w.heap.size w w' := by
  have hz := newErr_zero.1 h0
  have hb8 := Ph.bandErr_zero.1 hz.1
  have hn8 : n ≤ 8 := by have := hb8.2.1; have := h.len; omega
  have HBC := Lib.hid (bandCheck_ok A n c s w B h hz.1)
  have HSB := Lib.hid fun W => shbits_any bits W
  rw [show bitsOk bits = true from bitsOk_iff.2 hz.2.1] at HSB
  have HCL := Lib.hid (clone_any A n c s w w.heap.size (h.more hB) (by omega))
  have htp : 0 ≤ Ph.total s := Ph.total_nonneg fun x hx => by have := hb8.2.2.1 x hx; omega
  have ht2 := hz.2.2
  obtain ⟨T, hT⟩ : ∃ T, T = Ph.total s := ⟨_, rfl⟩
  rw [← hT] at HBC ht2 htp ⊢
  have k1 : T.tmod 2 = T % 2 := Int.tmod_eq_emod_of_nonneg htp
  have k2 : (T % 2 != 0) = false := by simp; omega
  clear h h0 hz hb8 hT
  go_enter Tryz.func18, Tryz.ntmps18
  go_wp2_with fail
  refine HBC.out.mono ?_
  rintro e w' ⟨rfl, rfl⟩
  go_wp2_with fail
  refine (HSB.out _).mono ?_
  rintro e w' ⟨rfl, rfl⟩
  go_wp2_with fail
  refine HCL.out.mono ?_
  rintro e w2 ⟨A5, c5, rfl, ho, hb⟩
  have HO := Lib.hid ho
  have HB2 := Lib.hid hb
  clear ho hb
  go_wp2_with fail
  go_ret2
  refine ⟨w2.heap.size, A5, c5, rfl, ⟨HB2.out.size, heap_alloc_new w2 _, HO.out.alloc _, OwnPV.nil _ _⟩, HB2.out.alloc HB2.out.size _⟩
end Go.Proofs.YtmohilfebgahoaaGreatDoor
/- Walks: what is lost is hidden (chapter 18): a frame that is lost. -/
namespace Go.Proofs.YtmohilfebgahoaaGreatDoor
open Go.RowKit

/-- The first k parts are softer. -/
def softTo (ps : List Ph.Part) (k : Nat) : List Ph.Part := (ps.take k).map Ph.soften ++ ps.drop k
theorem softTo_zero (ps : List Ph.Part) : softTo ps 0 = ps := by simp [softTo]
theorem softTo_all (ps : List Ph.Part) (k : Nat) (h : ps.length ≤ k) : softTo ps k = ps.map Ph.soften := by
  unfold softTo; rw [List.take_of_length_le h, List.drop_of_length_le h, List.append_nil]
theorem softTo_len (ps : List Ph.Part) (k : Nat) : (softTo ps k).length = ps.length := by unfold softTo; simp; omega
theorem softTo_get (ps : List Ph.Part) (k : Nat) (h : k < ps.length) : (softTo ps k).getD k ⟨0, []⟩ = ps.getD k ⟨0, []⟩ := by
  unfold softTo
  rw [List.getD_eq_getElem?_getD, List.getElem?_append_right (by simp; omega), List.length_map, List.length_take, Nat.min_eq_left (by omega), Nat.sub_self, List.getElem?_drop, List.getD_eq_getElem?_getD]
  simp
theorem softTo_set (ps : List Ph.Part) (k : Nat) (h : k < ps.length) : (softTo ps k).set k (Ph.soften (ps.getD k ⟨0, []⟩)) = softTo ps (k + 1) := by
  unfold softTo
  have hl : ((ps.take k).map Ph.soften).length = k := by simp; omega
  rw [List.set_append_right _ _ (by omega), hl, Nat.sub_self, List.take_succ_eq_append_getElem h, List.map_append, List.drop_eq_getElem_cons h, List.set_cons_zero, List.append_assoc, List.getD_eq_getElem?_getD, List.getElem?_eq_getElem h]
  rfl
theorem set_get {ps : List Ph.Part} {k : Nat} {x : Ph.Part} (h : k < ps.length) : (ps.set k x).getD k ⟨0, []⟩ = x := by
  rw [List.getD_eq_getElem?_getD, List.getElem?_set_self (by simpa using h)]; rfl
theorem alloc_setCell {w : World} (o : Obj) {p : Addr} (u : Value) (hp : p.block < w.heap.size) : (w.alloc o).setCell p u = (w.setCell p u).alloc o := by
  unfold World.setCell World.alloc
  congr 1
  apply Array.ext_getElem?
  intro i
  simp only [Array.getElem?_modify, Array.getElem?_push, Array.size_modify]
  by_cases h1 : p.block = i
  · subst h1
    have : ¬ p.block = w.heap.size := by omega
    simp [this]
  · simp [h1]
theorem heard_none (m : Nat) : Ph.heardOf (([] : List Ph.Part).map Ph.soften) m = List.replicate m 0 := by
  unfold Ph.heardOf
  rw [if_neg (by decide)]
end Go.Proofs.YtmohilfebgahoaaGreatDoor
