/- Walks: what is lost is hidden (chapter 18): a player, made and losing. -/
import Derived.Test.YtlilommhdjdblaaGreatDoorFrame
import Derived.BigRegion
import Derived.Deep.DeepCutAuto
import Derived.Deep.CutBlock
import Derived.Deep.Cut
namespace Go.Proofs.YtlilommhdjdblaaGreatDoor
open Go.RowKit

/-- But for some blocks all is as it was. -/
structure KeptBut (S : Nat → Prop) (W w' : World) : Prop where
  os : w'.os = W.os
  tape : w'.tape = W.tape
  output : w'.output = W.output
  size : W.heap.size ≤ w'.heap.size
  block : ∀ k, k < W.heap.size → ¬ S k → w'.heap[k]? = W.heap[k]?
section
variable {S T : Nat → Prop} {W w1 w2 : World}
theorem KeptBut.refl (S : Nat → Prop) (W : World) : KeptBut S W W := ⟨rfl, rfl, rfl, Nat.le_refl _, fun _ _ _ => rfl⟩
theorem KeptBut.trans (h1 : KeptBut S W w1) (h2 : KeptBut S w1 w2) : KeptBut S W w2 :=
  ⟨h2.os.trans h1.os, h2.tape.trans h1.tape, h2.output.trans h1.output, Nat.le_trans h1.size h2.size, fun k hk hs => (h2.block k (Nat.lt_of_lt_of_le hk h1.size) hs).trans (h1.block k hk hs)⟩
theorem KeptBut.of_below (h : Below W.heap.size W w1) : KeptBut S W w1 := ⟨h.os, h.tape, h.output, h.size, fun k hk _ => h.block k hk⟩
theorem KeptBut.on (h1 : KeptBut S W w1) (h : Below w1.heap.size w1 w2) : KeptBut S W w2 := h1.trans (.of_below h)
theorem KeptBut.setCell (h : KeptBut S W w1) {p : Addr} (hp : S p.block) (u : Value) : KeptBut S W (w1.setCell p u) :=
  ⟨h.os, h.tape, h.output, by rw [World.size_setCell]; exact h.size, fun k hk hs => (heap_setCell_other w1 p k u (fun e => hs (e ▸ hp))).trans (h.block k hk hs)⟩
theorem KeptBut.below {B : Nat} (h : KeptBut S W w1) (hB : B ≤ W.heap.size) (hS : ∀ k, S k → B ≤ k) : Below B W w1 :=
  ⟨h.os, h.tape, h.output, h.size, fun k hk => h.block k (Nat.lt_of_lt_of_le hk hB) (fun hs => by have := hS k hs; omega)⟩
theorem KeptBut.mono (h : KeptBut S W w1) (hT : ∀ k, k < W.heap.size → S k → T k) : KeptBut T W w1 := ⟨h.os, h.tape, h.output, h.size, fun k hk ht => h.block k hk (fun hs => ht (hT k hk hs))⟩
theorem KeptBut.drewN (h : KeptBut S W w1) (q : Nat) : KeptBut S W (w1.drewN q) := ⟨h.os, h.tape, h.output, h.size, h.block⟩
theorem KeptBut.alloc (h : KeptBut S W w1) (o : Obj) : KeptBut S W (w1.alloc o) := h.on (below_alloc0 _ _)
theorem KeptBut.row {base n s : Nat} {e : TypeId} {v : Value} {xs : List Value} (h : KeptBut S W w1) (hr : W.ownsRow base e s v n xs) (hn : ∀ k, v.ownBlock = some k → ¬ S k) : w1.ownsRow base e s v n xs := by
  refine ⟨hr.1, ?_⟩
  rcases hr.2 with h0 | ⟨g, cap, cur, rfl, hg, hh, r⟩
  · exact .inl h0
  · refine .inr ⟨g, cap, cur, rfl, hg, ?_, r⟩
    rw [h.block g ((hr.lt g rfl).2) (hn g rfl)]; exact hh
end
/-- A row's block is of its type: none of another type is it. -/
theorem row_type {w : World} {base n s X : Nat} {e t : TypeId} {v : Value} {xs : List Value} {cur : Array Value} {fr : Nat × Nat} (hr : w.ownsRow base e s v n xs) (hX : w.heap[X]? = some (.cells cur t fr)) (ht : ¬ t = e) : v.ownBlock ≠ some X := by
  rcases hr.2 with ⟨h1, _⟩ | ⟨g, cap, cur', rfl, _, hh, _⟩
  · rw [h1]; simp [Value.ownBlock]
  · intro e2
    have : g = X := by simpa [Value.ownBlock] using e2
    subst this
    rw [hX] at hh
    have := Option.some.inj hh
    injection this with _ h3 _
    exact ht h3
/-- The cells of a player. -/
def playerV (vs : Value) (bits many : Int) (vl : Value) (lost : Int) : Array Value := #[vs, .int .i64 bits, .int .i64 many, vl, .int .i64 lost]
/-- A player at block X: its cells, its sizes, what it played last: all of its own. -/
def PlayerAt (w : World) (base X : Nat) (As : Option Addr) (ns cs : Nat) (sizes : List Int) (bits many : Int) (A : Option Addr) (n c : Nat) (ps : List Ph.Part) (lost : Int) : Prop :=
  base ≤ X ∧ w.heap[X]? = some (.cells (playerV (.slice As ns cs) bits many (.slice A n c) lost) 77 (0, 0)) ∧ w.ownsRow base 3 1 (.slice As ns cs) ns (ivals sizes) ∧ OwnPV w base A n c ps
/-- The blocks that are its own to turn. -/
def ownBlocks (X : Nat) (A : Option Addr) (n c : Nat) (k : Nat) : Prop := k = X ∨ (Value.slice A n c).ownBlock = some k
section
variable {w w' : World} {base X ns cs n c : Nat} {As A : Option Addr} {sizes : List Int} {bits many lost : Int} {ps : List Ph.Part}
theorem PlayerAt.lt (h : PlayerAt w base X As ns cs sizes bits many A n c ps lost) : X < w.heap.size := by
  rcases Nat.lt_or_ge X w.heap.size with h1 | h1
  · exact h1
  · have := h.2.1
    rw [Array.getElem?_eq_none h1] at this
    cases this
theorem PlayerAt.cell (h : PlayerAt w base X As ns cs sizes bits many A n c ps lost) (j : Nat) : w.cell? ⟨X, j, none⟩ = (playerV (.slice As ns cs) bits many (.slice A n c) lost)[j]? := cell_of_row w X j _ _ (0, 0) h.2.1
theorem PlayerAt.frozen (h : PlayerAt w base X As ns cs sizes bits many A n c ps lost) (j : Nat) : w.frozen? ⟨X, j, none⟩ = false := frozen_of_row w X j _ _ h.2.1
theorem PlayerAt.cells (h : PlayerAt w base X As ns cs sizes bits many A n c ps lost) : w.cell? ⟨X, 0, none⟩ = some (.slice As ns cs) ∧ w.cell? ⟨X, 1, none⟩ = some (.int .i64 bits) ∧ w.cell? ⟨X, 2, none⟩ = some (.int .i64 many) ∧ w.cell? ⟨X, 3, none⟩ = some (.slice A n c) ∧ w.cell? ⟨X, 4, none⟩ = some (.int .i64 lost) :=
  ⟨h.cell 0, h.cell 1, h.cell 2, h.cell 3, h.cell 4⟩
theorem PlayerAt.below' (h : PlayerAt w base X As ns cs sizes bits many A n c ps lost) (hb : Below w.heap.size w w') : PlayerAt w' base X As ns cs sizes bits many A n c ps lost :=
  ⟨h.1, (hb.block X h.lt).trans h.2.1, own_below' h.2.2.1 hb, h.2.2.2.below' hb⟩
theorem PlayerAt.drewN (h : PlayerAt w base X As ns cs sizes bits many A n c ps lost) (q : Nat) : PlayerAt (w.drewN q) base X As ns cs sizes bits many A n c ps lost := h.below' ⟨rfl, rfl, rfl, Nat.le_refl _, fun _ _ => rfl⟩
theorem PlayerAt.alloc (h : PlayerAt w base X As ns cs sizes bits many A n c ps lost) (o : Obj) : PlayerAt (w.alloc o) base X As ns cs sizes bits many A n c ps lost := h.below' (below_alloc0 _ _)
/-- Parts of one's own where a block of another type turns. -/
theorem OwnPV.kept (h : OwnPV w base A n c ps) (hg : w.grownBy w' (some X)) {t : TypeId} {cur : Array Value} {fr : Nat × Nat} (hX : w.heap[X]? = some (.cells cur t fr)) (h1 : ¬ t = 80) (h2 : ¬ t = 3) : OwnPV w' base A n c ps := by
  obtain ⟨vs, a1, a2, a3⟩ := h
  refine ⟨vs, a1.kept hg (.inr (row_type a1 hX h1)), a2.map fun v l hv => ?_, a3⟩
  obtain ⟨A', c', e, hi⟩ := hv
  exact ⟨A', c', e, hi.kept hg (.inr (row_type hi hX h2))⟩
/-- How many were lost is told anew. -/
theorem PlayerAt.setLost (h : PlayerAt w base X As ns cs sizes bits many A n c ps lost) (y : Int) : PlayerAt (w.setCell ⟨X, 4, none⟩ (.int .i64 y)) base X As ns cs sizes bits many A n c ps y := by
  have hg : w.grownBy (w.setCell ⟨X, 4, none⟩ (.int .i64 y)) (some X) := ⟨rfl, rfl, rfl, by simp, fun k _ hk => heap_setCell_other w ⟨X, 4, none⟩ k _ (fun e => hk (by simp [e]))⟩
  refine ⟨h.1, ?_, h.2.2.1.kept hg (.inr (row_type h.2.2.1 h.2.1 (by decide))), h.2.2.2.kept hg h.2.1 (by decide) (by decide)⟩
  rw [heap_setCell_same w X 4 _ _ _ h.2.1]; rfl
/-- Its parts turn. -/
theorem PlayerAt.setParts {g : Nat} {qs : List Ph.Part} (h : PlayerAt w base X As ns cs sizes bits many (some ⟨g, 0, none⟩) n c ps lost) (hg : w.grownBy w' (some g)) (hp : OwnPV w' base (some ⟨g, 0, none⟩) n c qs) : PlayerAt w' base X As ns cs sizes bits many (some ⟨g, 0, none⟩) n c qs lost := by
  obtain ⟨vs, a1, a2, a3⟩ := h.2.2.2
  have hX : (Value.slice (some ⟨g, 0, none⟩) n c).ownBlock ≠ some X := row_type a1 h.2.1 (by decide)
  have hX' : g ≠ X := fun e => hX (by subst e; rfl)
  refine ⟨h.1, (hg.block X h.lt (by simp; omega)).trans h.2.1, ?_, hp⟩
  exact other_kept (by decide) a1 h.2.2.1 hg
end
/-- Down to a gain that there is. -/
theorem down_any (g : Int) (w : World) (hg : 0 ≤ g ∧ g ≤ 53) : Calls Tryz.prog 37 #[.int .i64 g] w fun e w' => e = .returned (.int .i64 (Ph.down g)) ∧ ∃ q, w' = w.drewN q := by
  have hD : Hid (Ph.down g = (Ph.downN (g - 4).toNat : Nat)) := Lib.hid rfl
  obtain ⟨D, hDD⟩ : ∃ D, D = Ph.down g := ⟨_, rfl⟩
  rw [← hDD] at hD ⊢
  clear hDD
  obtain ⟨Q, hQ⟩ : ∃ Q, Q = (g - 4).toNat := ⟨_, rfl⟩
  rw [← hQ] at hD
  have hQ5 : Q ≤ 49 := by omega
  have HMX : Hid (max 0 (wrap64 (g - 4)) = (Q : Int)) := Lib.hid (by rw [IntWalk.wrap64_in _ (by omega)]; omega)
  clear hQ hg
  go_enter Tryz.func37, Tryz.ntmps37
  go_wp2_with fail
  go_loopw [0, 3, 4] (fun v _ _ wr => ∃ q : Nat, v = .int .i64 q ∧ Hid (Ph.downN q = Ph.downN Q) ∧ q ≤ 49 ∧ Hid (∃ d, wr = w.drewN d)) (fun v _ _ _ => (intOf v).toNat)
  case atStart => exact ⟨Q, by rw [HMX.out], Lib.hid rfl, hQ5, Lib.hid ⟨0, rfl⟩⟩
  case round =>
    obtain ⟨q, rfl, HQ, hq, HW⟩ := hrel
    by_cases hv : Ph.valued q = true
    · have hd : D = (q : Int) := by rw [hD.out, ← HQ.out, Ph.downN_stay hv]
      subst hd
      have HGV := Lib.hid fun W => gv_ok (q : Int) W (by unfold Ph.gainOk; rw [Int.toNat_natCast, hv]; simp)
      obtain ⟨V, hV⟩ : ∃ V, V = Ph.val (q : Int) := ⟨_, rfl⟩
      rw [← hV] at HGV
      clear hv hV hD
      go_wp2_with fail
      refine (HGV.out _).mono ?_
      rintro e w1 ⟨rfl, nq, rfl⟩
      go_wp2_with fail
      go_ret
      obtain ⟨d, rfl⟩ := HW.out
      exact ⟨rfl, d + nq, World.drewN_drewN _ _ _⟩
    · have hv' : Ph.valued q = false := by simpa using hv
      have HGN := Lib.hid fun W => gv_no (q : Int) W (by unfold Ph.gainOk; rw [Int.toNat_natCast, hv']; simp)
      cases q with
      | zero => exact absurd Ph.valued_zero hv
      | succ q =>
        have hs := Ph.downN_step hv'
        have HQ2 : Hid (Ph.downN q = Ph.downN Q) := Lib.hid (by rw [← hs]; exact HQ.out)
        have hi : ((q + 1 : Nat) : Int) = (q : Int) + 1 := by omega
        rw [hi] at HGN ⊢
        clear hv hv' hs
        go_wp2_with fail
        refine (HGN.out _).mono ?_
        rintro e w1 ⟨rfl, nq, rfl⟩
        go_wp2_with fail
        go_roundw
        case rel => exact ⟨q, by go_num, HQ2, by omega, Lib.hid (by obtain ⟨d, rfl⟩ := HW.out; exact ⟨d + nq, World.drewN_drewN _ _ _⟩)⟩
        case measure => simp [intOf]
/-- What is wrong with a player. -/
def newErr (s : List Int) (bits : Int) : Int := if Ph.bandErr s ≠ 0 then Ph.bandErr s else if bits < 0 ∨ 400 < bits then 1 else if Ph.total s % 2 ≠ 0 then 3 else 0
theorem newErr_zero {s : List Int} {bits : Int} : newErr s bits = 0 ↔ Ph.bandErr s = 0 ∧ (0 ≤ bits ∧ bits ≤ 400) ∧ Ph.total s % 2 = 0 := by
  unfold newErr
  constructor
  · intro h
    split at h
    · omega
    · split at h
      · omega
      · split at h <;> omega
  · rintro ⟨h1, h2, h3⟩
    rw [if_neg (by omega), if_neg (by omega), if_neg (by omega)]
theorem hnew_no (A : Option Addr) (n c : Nat) (s : List Int) (bits : Int) (w : World) (B : Nat) (h : RdI w B A n s) (hn : n ≤ 100000000000000) (h0 : newErr s bits ≠ 0) :
    Calls Tryz.prog 8 #[.slice A n c, .int .i64 bits] w fun e w' => e = .returned (.tuple #[.pointer none, errV (newErr s bits)]) ∧ w' = w := by
  by_cases hb : Ph.bandErr s = 0
  · have HBC := Lib.hid (bandCheck_ok A n c s w B h hb)
    have HSB := Lib.hid fun W => shbits_any bits W
    by_cases hi : 0 ≤ bits ∧ bits ≤ 400
    · have ht : Ph.total s % 2 ≠ 0 := fun ht => h0 (newErr_zero.2 ⟨hb, hi, ht⟩)
      have e : newErr s bits = 3 := by unfold newErr; rw [if_neg (by omega), if_neg (by omega), if_pos ht]
      rw [show bitsOk bits = true from bitsOk_iff.2 hi] at HSB
      rw [e]
      have htp : 0 ≤ Ph.total s := Ph.total_nonneg fun x hx => by have := (Ph.bandErr_zero.1 hb).2.2.1 x hx; omega
      obtain ⟨T, hT⟩ : ∃ T, T = Ph.total s := ⟨_, rfl⟩
      rw [← hT] at HBC ht htp
      have k1 : T.tmod 2 = T % 2 := Int.tmod_eq_emod_of_nonneg htp
      have k2 : (T % 2 != 0) = true := by simp; omega
      clear h h0 hb hi e hT
      go_enter Tryz.func8, Tryz.ntmps8
      go_wp2_with fail
      refine HBC.out.mono ?_
      rintro e w' ⟨rfl, rfl⟩
      go_wp2_with fail
      refine (HSB.out _).mono ?_
      rintro e w' ⟨rfl, rfl⟩
      go_wp2_with fail
      go_ret2
      exact ⟨by rw [errV_ne (by omega)]; rfl, rfl⟩
    · have e : newErr s bits = 1 := by unfold newErr; rw [if_neg (by omega), if_pos (by omega)]
      rw [show bitsOk bits = false by unfold bitsOk; simp; omega] at HSB
      rw [e]
      clear h h0 hb hi e
      go_enter Tryz.func8, Tryz.ntmps8
      go_wp2_with fail
      refine HBC.out.mono ?_
      rintro e w' ⟨rfl, rfl⟩
      go_wp2_with fail
      refine (HSB.out _).mono ?_
      rintro e w' ⟨rfl, rfl⟩
      go_wp2_with fail
      go_ret2
      exact ⟨by rw [errV_ne (by omega)]; rfl, rfl⟩
  · have e : newErr s bits = Ph.bandErr s := by unfold newErr; rw [if_pos hb]
    have HBC := Lib.hid (bandCheck_no A n c s w B h hn hb)
    rw [e]
    obtain ⟨E, hE⟩ : ∃ E, E = Ph.bandErr s := ⟨_, rfl⟩
    rw [← hE] at HBC hb ⊢
    rw [errV_ne hb] at HBC ⊢
    clear h h0 e hE
    go_enter Tryz.func8, Tryz.ntmps8
    go_wp2_with fail
    refine HBC.out.mono ?_
    rintro e w' ⟨rfl, rfl⟩
    go_wp2_with fail
    go_ret2
    exact ⟨rfl, rfl⟩
theorem hnew_ok (A : Option Addr) (n c : Nat) (s : List Int) (bits : Int) (w : World) (B : Nat) (h : RdI w B A n s) (hB : B ≤ w.heap.size) (h0 : newErr s bits = 0) :
    Calls Tryz.prog 8 #[.slice A n c, .int .i64 bits] w fun e w' => ∃ X As cs, e = .returned (.tuple #[.pointer (some ⟨X, 0, none⟩), .nilIface]) ∧ PlayerAt w' w.heap.size X As n cs s bits (Ph.total s) none 0 0 [] 0 ∧ Below w.heap.size w w' := by
  have hz := newErr_zero.1 h0
  have hb8 := Ph.bandErr_zero.1 hz.1
  have hn8 : n ≤ 8 := by have := hb8.2.1; have := h.len; omega
  have HBC := Lib.hid (bandCheck_ok A n c s w B h hz.1)
  have HSB := Lib.hid fun W => shbits_any bits W
  rw [show bitsOk bits = true from bitsOk_iff.2 hz.2.1] at HSB
  have HCL := Lib.hid (clone_any A n c s w w.heap.size (h.more hB) (by omega))
  have htp : 0 ≤ Ph.total s := Ph.total_nonneg fun x hx => by have := hb8.2.2.1 x hx; omega
  have ht2 := hz.2.2
  obtain ⟨T, hT⟩ : ∃ T, T = Ph.total s := ⟨_, rfl⟩
  rw [← hT] at HBC ht2 htp ⊢
  have k1 : T.tmod 2 = T % 2 := Int.tmod_eq_emod_of_nonneg htp
  have k2 : (T % 2 != 0) = false := by simp; omega
  clear h h0 hz hb8 hT
  go_enter Tryz.func8, Tryz.ntmps8
  go_wp2_with fail
  refine HBC.out.mono ?_
  rintro e w' ⟨rfl, rfl⟩
  go_wp2_with fail
  refine (HSB.out _).mono ?_
  rintro e w' ⟨rfl, rfl⟩
  go_wp2_with fail
  refine HCL.out.mono ?_
  rintro e w2 ⟨A5, c5, rfl, ho, hb⟩
  have HO := Lib.hid ho
  have HB2 := Lib.hid hb
  clear ho hb
  go_wp2_with fail
  go_ret2
  refine ⟨w2.heap.size, A5, c5, rfl, ⟨HB2.out.size, heap_alloc_new w2 _, HO.out.alloc _, OwnPV.nil _ _⟩, HB2.out.alloc HB2.out.size _⟩
end Go.Proofs.YtlilommhdjdblaaGreatDoor
/- Walks: what is lost is hidden (chapter 18): a frame that is lost. -/
namespace Go.Proofs.YtlilommhdjdblaaGreatDoor
open Go.RowKit

/-- The first k parts are softer. -/
def softTo (ps : List Ph.Part) (k : Nat) : List Ph.Part := (ps.take k).map Ph.soften ++ ps.drop k
theorem softTo_zero (ps : List Ph.Part) : softTo ps 0 = ps := by simp [softTo]
theorem softTo_all (ps : List Ph.Part) (k : Nat) (h : ps.length ≤ k) : softTo ps k = ps.map Ph.soften := by
  unfold softTo; rw [List.take_of_length_le h, List.drop_of_length_le h, List.append_nil]
theorem softTo_len (ps : List Ph.Part) (k : Nat) : (softTo ps k).length = ps.length := by unfold softTo; simp; omega
theorem softTo_get (ps : List Ph.Part) (k : Nat) (h : k < ps.length) : (softTo ps k).getD k ⟨0, []⟩ = ps.getD k ⟨0, []⟩ := by
  unfold softTo
  rw [List.getD_eq_getElem?_getD, List.getElem?_append_right (by simp; omega), List.length_map, List.length_take, Nat.min_eq_left (by omega), Nat.sub_self, List.getElem?_drop, List.getD_eq_getElem?_getD]
  simp
theorem softTo_set (ps : List Ph.Part) (k : Nat) (h : k < ps.length) : (softTo ps k).set k (Ph.soften (ps.getD k ⟨0, []⟩)) = softTo ps (k + 1) := by
  unfold softTo
  have hl : ((ps.take k).map Ph.soften).length = k := by simp; omega
  rw [List.set_append_right _ _ (by omega), hl, Nat.sub_self, List.take_succ_eq_append_getElem h, List.map_append, List.drop_eq_getElem_cons h, List.set_cons_zero, List.append_assoc, List.getD_eq_getElem?_getD, List.getElem?_eq_getElem h]
  rfl
theorem set_get {ps : List Ph.Part} {k : Nat} {x : Ph.Part} (h : k < ps.length) : (ps.set k x).getD k ⟨0, []⟩ = x := by
  rw [List.getD_eq_getElem?_getD, List.getElem?_set_self (by simpa using h)]; rfl
theorem alloc_setCell {w : World} (o : Obj) {p : Addr} (u : Value) (hp : p.block < w.heap.size) : (w.alloc o).setCell p u = (w.setCell p u).alloc o := by
  unfold World.setCell World.alloc
  congr 1
  apply Array.ext_getElem?
  intro i
  simp only [Array.getElem?_modify, Array.getElem?_push, Array.size_modify]
  by_cases h1 : p.block = i
  · subst h1
    have : ¬ p.block = w.heap.size := by omega
    simp [this]
  · simp [h1]
set_option maxHeartbeats 4000000 in
set_option maxRecDepth 100000 in
theorem lose_own (W : World) (base X : Nat) (As : Option Addr) (ns cs : Nat) (s : List Int) (bits many : Int) (A : Option Addr) (n c : Nat) (ps : List Ph.Part) (lost : Int) (hP : PlayerAt W base X As ns cs s bits many A n c ps lost) (hbs : base ≤ W.heap.size)
    (hg : ∀ p ∈ ps, Ph.gainOk p.gain = true ∧ p.pulses.length ≤ 6) (hn : n ≤ 8) (hlost : 0 ≤ lost ∧ lost ≤ 1000000) (hm : 0 ≤ many ∧ many ≤ 32) :
    Calls Tryz.prog 11 #[.pointer (some ⟨X, 0, none⟩)] W fun e w' => ∃ A' n' c', e = .returned (.slice A' n' c') ∧ n' ≤ 100000 ∧ w'.ownsRow W.heap.size 3 1 (.slice A' n' c') n' (ivals (Ph.heardOf (ps.map Ph.soften) many.toNat)) ∧ PlayerAt w' base X As ns cs s bits many A n c (ps.map Ph.soften) (lost + 1) ∧ KeptBut (ownBlocks X A n c) W w' := by
  have HL := Lib.hid hP.2.2.2.len
  have HG := Lib.hid hg
  have hc := hP.cells
  have f4 := hP.frozen 4
  obtain ⟨c0, c1, c2, c3, c4⟩ := hc
  have k1 : IntKind.i64.wrap (lost + 1) = lost + 1 := IntWalk.i64_in _ (by omega)
  have HP0 := Lib.hid (hP.setLost (lost + 1))
  have HK0 : Hid (KeptBut (ownBlocks X A n c) W (W.setCell ⟨X, 4, none⟩ (.int .i64 (lost + 1)))) := Lib.hid ((KeptBut.refl _ W).setCell (p := ⟨X, 4, none⟩) (.inl rfl) _)
  obtain ⟨W0, hW0⟩ : ∃ W0, W0 = W.setCell ⟨X, 4, none⟩ (.int .i64 (lost + 1)) := ⟨_, rfl⟩
  rw [← hW0] at HP0 HK0
  have HW0 := Lib.hid hW0
  clear hP hg c0 c1 c2 hW0
  go_enter Tryz.func11, Tryz.ntmps11
  go_wp2_with fail
  rw [← HW0.out]
  clear c3 c4 f4 HW0
  go_loopw [3, 4, 19] (fun _ _ i wr => ∃ k : Nat, k ≤ n ∧ i = .int .i64 k ∧ Hid (PlayerAt wr base X As ns cs s bits many A n c (softTo ps k) (lost + 1)) ∧ Hid (KeptBut (ownBlocks X A n c) W wr)) (fun _ _ i _ => n - (intOf i).toNat)
  case atStart => exact ⟨0, Nat.zero_le _, rfl, by rw [softTo_zero]; exact HP0, HK0⟩
  case round =>
    obtain ⟨k, hk, rfl, HP, HK⟩ := hrel
    by_cases hlt : k < n
    · have hkl : k < ps.length := by rw [HL.out]; exact hlt
      obtain ⟨g5, rfl, hg5, hg5l⟩ := HP.out.2.2.2.form (by omega)
      obtain ⟨⟨p1, p2⟩, ⟨A2, c2, p3, p5⟩, p4⟩ := HP.out.2.2.2.cells hlt
      have hgk := HG.out _ (partD_mem hkl)
      have hss := softTo_set ps k hkl
      rw [softTo_get ps k hkl] at p1 p3
      obtain ⟨pt, hpt⟩ : ∃ p, p = ps.getD k ⟨0, []⟩ := ⟨_, rfl⟩
      rw [← hpt] at p1 p3 hgk hss
      obtain ⟨g, v⟩ := pt
      have HPV : Hid ((ps.getD k ⟨0, []⟩).pulses = v) := Lib.hid (by rw [← hpt])
      simp only at p1 p3 hgk
      have hgb := Ph.gainOk_le hgk.1
      have HD := Lib.hid fun W => down_any g W hgb
      have HSS := Lib.hid hss
      obtain ⟨P, hPP⟩ : ∃ P, P = v.length := ⟨_, rfl⟩
      rw [← hPP] at p3
      have hP6 : P ≤ 6 := by omega
      have HPP := Lib.hid hPP
      obtain ⟨W1, hW1⟩ : ∃ W1, W1 = wr.alloc (.cells #[.int .i64 g, .slice A2 P c2] 80) := ⟨_, rfl⟩
      have HP1 : Hid (PlayerAt W1 base X As ns cs s bits many (some ⟨g5, 0, none⟩) n c (softTo ps k) (lost + 1)) := Lib.hid (by rw [hW1]; exact HP.out.alloc _)
      have HK1 : Hid (KeptBut (ownBlocks X (some ⟨g5, 0, none⟩) n c) W W1) := Lib.hid (by rw [hW1]; exact HK.out.alloc _)
      have hbe : Below wr.heap.size wr W1 := by rw [hW1]; exact below_alloc0 _ _
      have e1 : W1.cell? ⟨g5, k * 2, none⟩ = some (.int .i64 g) := (hbe.cell (p := ⟨g5, k * 2, none⟩) hg5l).trans p1
      have e2 : W1.frozen? ⟨g5, k * 2, none⟩ = false := (hbe.frozen (p := ⟨g5, k * 2, none⟩) hg5l).trans p2
      have e3 : W1.cell? ⟨X, 3, none⟩ = some (.slice (some ⟨g5, 0, none⟩) n c) := HP1.out.cells.2.2.2.1
      have y0 : W1.cell? ⟨wr.heap.size, 0, none⟩ = some (.int .i64 g) := by rw [hW1]; simp
      have y1 : W1.cell? ⟨wr.heap.size, 1, none⟩ = some (.slice A2 P c2) := by rw [hW1]; simp
      have hsz : W1.heap.size = wr.heap.size + 1 := by rw [hW1]; simp
      have HW1 := Lib.hid hW1
      obtain ⟨B4, hB4⟩ : ∃ b, b = wr.heap.size := ⟨_, rfl⟩
      have q5 : g5 ≠ B4 := by omega
      have q6 : X ≠ B4 := by have := HP.out.lt; omega
      rw [← hB4] at y0 y1
      have HB4 := Lib.hid hB4
      clear hpt hgk hss hPP hW1 hbe hB4 p2 p4 p5
      go_wp2_with fail
      rw [← HW1.out, ← HB4.out]
      go_upto_region 5 with (fail)
      go_cut [3] (fun s3 wx => s3 = .int .i64 k ∧ ∃ q, wx = (W1.drewN q).setCell ⟨g5, k * 2, none⟩ (.int .i64 (Ph.down g)))
      case first =>
        go_region_with (go_at_call 37; refine (HD.out _).mono ?_; rintro e w3 ⟨rfl, q3, rfl⟩)
        all_goals go_wp2_with fail
        all_goals go_meet
        all_goals exact ⟨rfl, _, rfl⟩
      case rest =>
        obtain ⟨rfl, q, hwx⟩ := hcut
        rename World => W2
        have hst := (HP1.out.drewN q).2.2.2.setGain hlt (Ph.down g)
        rw [← hwx] at hst
        have hPl := (HP1.out.drewN q).setParts hst.2 hst.1
        have hK2 : KeptBut (ownBlocks X (some ⟨g5, 0, none⟩) n c) W W2 := by rw [hwx]; exact (HK1.out.drewN q).setCell (p := ⟨g5, k * 2, none⟩) (.inr rfl) _
        have z1 : W2.cell? ⟨B4, 1, none⟩ = some (.slice A2 P c2) := by rw [hwx]; exact (World.cell?_setCell_other _ _ _ _ (by simp <;> omega)).trans y1
        have hB4' : B4 < W2.heap.size := by rw [hwx, World.size_setCell]; show B4 < W1.heap.size; have := HB4.out; omega
        rw [softTo_get ps k hkl] at hPl
        have hpv : (ps.getD k ⟨0, []⟩).pulses = v := HPV.out
        rw [hpv] at hPl
        obtain ⟨⟨t1, t2⟩, ⟨A3, c3, t3, _⟩, t4⟩ := hPl.2.2.2.cells hlt
        rw [set_get (by rw [softTo_len]; exact hkl)] at t1 t3
        simp only at t1 t3
        have x3 : W2.cell? ⟨X, 3, none⟩ = some (.slice (some ⟨g5, 0, none⟩) n c) := hPl.cells.2.2.2.1
        have HPl := Lib.hid hPl
        have HK2 := Lib.hid hK2
        have HSF : Hid (Ph.soften ⟨g, v⟩ = ⟨Ph.down g, if Ph.down g = 0 then List.replicate v.length 0 else v⟩) := Lib.hid rfl
        obtain ⟨D, hD⟩ : ∃ D, D = Ph.down g := ⟨_, rfl⟩
        rw [← hD] at t1 HPl HSF
        obtain ⟨VL, hVL⟩ : ∃ q, q = v.length := ⟨_, rfl⟩
        have hVP : VL = P := by rw [hVL]; exact HPP.out.symm
        rw [← hVL] at t3
        subst hVP
        clear hst hPl hK2 hwx hpv hVL hD HP1 HK1 HD e1 e2 e3 y0 y1 hsz HP HK HW1 p1 p3
        by_cases hD0 : D = 0
        · have hE : softTo ps (k + 1) = (softTo ps k).set k ⟨D, List.replicate VL 0⟩ := by
            rw [← HSS.out, HSF.out, if_pos hD0, ← HPP.out]
          have HE := Lib.hid hE
          have HMK := make_ints VL (by omega)
          subst hD0
          clear hE HSF HSS
          go_wp2_with fail
          have hbA : Below W2.heap.size W2 (W2.alloc (.cells (madeCells #[.int .i64 0] VL) 3)) := below_alloc0 _ _
          have hg5w : g5 < W2.heap.size := by obtain ⟨vs, r1, _⟩ := HPl.out.2.2.2; exact (r1.lt g5 rfl).2
          have a1 := (hbA.cell (p := ⟨X, 3, none⟩) HPl.out.lt).trans x3
          have a2 := (hbA.cell (p := ⟨B4, 1, none⟩) hB4').trans z1
          have a3 := (hbA.cell (p := ⟨g5, k * 2 + 1, none⟩) hg5w).trans t3
          have a4 := (hbA.frozen (p := ⟨g5, k * 2 + 1, none⟩) hg5w).trans t4
          clear hbA
          go_region
          have hcm := alloc_setCell (w := W2) (.cells (madeCells #[.int .i64 0] VL) 3) (p := ⟨g5, k * 2 + 1, none⟩) (.slice (some ⟨W2.heap.size, 0, none⟩) VL VL) hg5w
          have hOV : OwnV (W2.alloc (.cells (madeCells #[.int .i64 0] VL) 3)) base (.slice (some ⟨W2.heap.size, 0, none⟩) VL VL) (List.replicate VL 0) :=
            ⟨some ⟨W2.heap.size, 0, none⟩, VL, by simp, by simp only [List.length_replicate]; exact own_more (made_own W2 VL (by omega)) (Nat.le_trans hbs HK2.out.size)⟩
          have hPA := HPl.out.alloc (.cells (madeCells #[.int .i64 0] VL) 3)
          have hst := hPA.2.2.2.setRow hlt hOV
          have hPB := hPA.setParts hst.2 hst.1
          rw [set_get (by rw [softTo_len]; exact hkl), List.set_set] at hPB
          have HPB := Lib.hid (hPB.drewN 1)
          have HKB := Lib.hid (((HK2.out.alloc (.cells (madeCells #[.int .i64 0] VL) 3)).setCell (p := ⟨g5, k * 2 + 1, none⟩) (.inr rfl) (.slice (some ⟨W2.heap.size, 0, none⟩) VL VL)).drewN 1)
          rw [hcm] at HPB HKB
          clear hcm hOV hPA hst hPB a1 a2 a3 a4 HMK
          go_wp2_with fail
          go_roundw
          case rel => exact ⟨k + 1, by omega, by go_num, by rw [HE.out]; exact HPB, HKB⟩
          case measure => simp [intOf]; omega
        · have hE : softTo ps (k + 1) = (softTo ps k).set k ⟨D, v⟩ := by
            rw [← HSS.out, HSF.out, if_neg hD0]
          rw [← hE] at HPl
          clear hE
          go_wp2_with fail
          go_roundw
          case rel => exact ⟨k + 1, by omega, by go_num, HPl, HK2⟩
          case measure => simp [intOf]; omega
    · obtain rfl : k = n := by omega
      rw [softTo_all ps k (by rw [HL.out]; omega)] at HP
      have hq6 : ∀ p ∈ ps.map Ph.soften, p.pulses.length ≤ 100000000000000 := fun p hp => by
        obtain ⟨x, hx, rfl⟩ := List.mem_map.1 hp
        have h6 := (HG.out x hx).2
        unfold Ph.soften
        simp only
        split
        · simp; omega
        · omega
      have HDE := Lib.hid (decode_any A k c (ps.map Ph.soften) wr wr.heap.size HP.out.2.2.2.rd (Nat.le_refl _) (by omega) hq6)
      have HHE : Hid ((Ph.decErr (ps.map Ph.soften) = 0 → Ph.heardOf (ps.map Ph.soften) many.toNat = Ph.lapI (Ph.decAll (ps.map Ph.soften)) ∧ (Ph.lapI (Ph.decAll (ps.map Ph.soften))).length ≤ 100) ∧ (Ph.decErr (ps.map Ph.soften) ≠ 0 → Ph.heardOf (ps.map Ph.soften) many.toNat = List.replicate many.toNat 0)) := Lib.hid ⟨fun h => by
        refine ⟨by unfold Ph.heardOf; rw [if_pos h], ?_⟩
        have hz : Ph.lapErr (Ph.decAll (ps.map Ph.soften)) 4000 = 0 := by
          unfold Ph.decErr at h
          split at h
          · omega
          · split at h
            · omega
            · split at h
              · omega
              · exact h
        rw [Ph.lapI_length]
        have := (Ph.lapErr_zero.1 hz).1
        omega, fun h => by unfold Ph.heardOf; rw [if_neg h]⟩
      have x3 := HP.out.cells.2.2.2.1
      obtain ⟨qs, hqs⟩ : ∃ q, q = ps.map Ph.soften := ⟨_, rfl⟩
      rw [← hqs] at HP HDE HHE
      have HQ := Lib.hid hqs
      obtain ⟨E, hE⟩ : ∃ q, q = Ph.decErr qs := ⟨_, rfl⟩
      rw [← hE] at HDE HHE
      obtain ⟨L, hL⟩ : ∃ q, q = Ph.lapI (Ph.decAll qs) := ⟨_, rfl⟩
      rw [← hL] at HDE HHE
      obtain ⟨H, hH⟩ : ∃ q, q = Ph.heardOf qs many.toNat := ⟨_, rfl⟩
      rw [← hH] at HHE
      have HHH := Lib.hid hH
      clear hqs hE hL hH hq6
      by_cases hE0 : E = 0
      · have hh := HHE.out.1 hE0
        subst hE0
        rw [got_zero] at HDE
        have hL100 := hh.2
        have HLL := Lib.hid hh.1
        clear hh HHE
        go_wp2_with fail
        refine HDE.out.mono ?_
        rintro e w5 ⟨A8, c8, rfl, ho, hb⟩
        have HR8 := Lib.hid (own_more ho HK.out.size)
        have HP5 := Lib.hid (HP.out.below' hb)
        have HK5 := Lib.hid (HK.out.on hb)
        rw [errV_zero]
        clear ho hb x3
        go_wp2_with fail
        go_ret
        refine ⟨A8, L.length, c8, rfl, by omega, ?_, ?_, HK5.out⟩
        · rw [← HQ.out, ← HHH.out, HLL.out]; exact HR8.out
        · rw [← HQ.out]; exact HP5.out
      · have hh := HHE.out.2 hE0
        have HH2 := Lib.hid hh
        obtain ⟨M, rfl⟩ := Int.eq_ofNat_of_zero_le hm.1
        have HMK := make_ints M (by omega)
        clear hh HHE
        go_wp2_with fail
        refine HDE.out.mono ?_
        rintro e w5 ⟨A8, c8, rfl, ho, hb⟩
        have HP5 := Lib.hid (HP.out.below' hb)
        have HK5 := Lib.hid (HK.out.on hb)
        have x2 := HP5.out.cells.2.2.1
        rw [errV_ne hE0]
        clear ho hb x3
        go_wp2_with fail
        go_ret
        refine ⟨some ⟨w5.heap.size, 0, none⟩, M, M, rfl, by omega, ?_, ?_, HK5.out.alloc _⟩
        · rw [← HQ.out, ← HHH.out, HH2.out, Int.toNat_natCast]
          exact own_more (made_own w5 M (by omega)) HK5.out.size
        · rw [← HQ.out]; exact HP5.out.alloc _
theorem lose_any (W : World) (base X : Nat) (As : Option Addr) (ns cs : Nat) (s : List Int) (bits many : Int) (A : Option Addr) (n c : Nat) (ps : List Ph.Part) (lost : Int) (hP : PlayerAt W base X As ns cs s bits many A n c ps lost) (hbs : base ≤ W.heap.size)
    (hg : ∀ p ∈ ps, Ph.gainOk p.gain = true ∧ p.pulses.length ≤ 6) (hn : n ≤ 8) (hlost : 0 ≤ lost ∧ lost ≤ 1000000) (hm : 0 ≤ many ∧ many ≤ 32) :
    Calls Tryz.prog 11 #[.pointer (some ⟨X, 0, none⟩)] W fun e w' => ∃ A' n' c', e = .returned (.slice A' n' c') ∧ n' ≤ 100000 ∧ RdI w' w'.heap.size A' n' (Ph.heardOf (ps.map Ph.soften) many.toNat) ∧ PlayerAt w' base X As ns cs s bits many A n c (ps.map Ph.soften) (lost + 1) ∧ KeptBut (ownBlocks X A n c) W w' := by
  refine (lose_own W base X As ns cs s bits many A n c ps lost hP hbs hg hn hlost hm).mono ?_
  rintro e w' ⟨A', n', c', rfl, hn', ho, hp, hk⟩
  exact ⟨A', n', c', rfl, hn', RdI.own ho, hp, hk⟩
theorem heard_none (m : Nat) : Ph.heardOf (([] : List Ph.Part).map Ph.soften) m = List.replicate m 0 := by
  unfold Ph.heardOf
  rw [if_neg (by decide)]
end Go.Proofs.YtlilommhdjdblaaGreatDoor
