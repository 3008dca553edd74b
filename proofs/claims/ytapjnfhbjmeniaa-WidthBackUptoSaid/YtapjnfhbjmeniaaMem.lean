/- Words for memory: slices that read as lists, slices of the call's own, and what becomes of them. No function of the program is named here. -/
import Derived.Test.YtapjnfhbjmeniaaProg
import Derived.WalkKit
import Derived.Below
import Derived.Laws.OwnMore
import Derived.Laws.NewBlocks
import Derived.Deep.AppendLies
import Derived.Deep.Draws
import Derived.OwnWalk
import Derived.Lib.Hide
import Derived.WalkSpells
import Derived.WalkLawsBesides
namespace Go.Proofs.Ytapjnfhbjmeniaa
open Go.RowKit

/-- The numbers of a list as values. -/
def ivals (l : List Int) : List Value := l.map (Value.int .i64)
theorem ivals_length (l : List Int) : (ivals l).length = l.length := by simp [ivals]
theorem ivals_get {l : List Int} {k : Nat} (h : k < l.length) : (ivals l)[k]? = some (.int .i64 (l.getD k 0)) := by
  simp [ivals, List.getElem?_eq_getElem h]
theorem ivals_append (a b : List Int) : ivals (a ++ b) = ivals a ++ ivals b := by simp [ivals]
theorem ivals_set (l : List Int) (i : Nat) (x : Int) : (ivals l).set i (.int .i64 x) = ivals (l.set i x) := by simp [ivals, List.map_set]
theorem ivals_one (l : List Int) : ∀ u ∈ ivals l, u.oneCell' = true := by
  intro u hu
  obtain ⟨x, _, rfl⟩ := List.mem_map.1 hu
  rfl

/-- A slice at A of n one-cell elements reads as xs, and lies below block B. -/
def Rd (w : World) (B : Nat) (A : Option Addr) (n : Nat) (xs : List Value) : Prop :=
  xs.length = n ∧ (0 < n → ∃ b off, A = some ⟨b, off, none⟩ ∧ b < B ∧ ∀ j, j < n → w.cell? ⟨b, off + j, none⟩ = xs[j]?)

section
variable {w w' : World} {B B' n : Nat} {A : Option Addr} {xs : List Value}
theorem Rd.nil : Rd w B A 0 [] := ⟨rfl, fun h => absurd h (by omega)⟩
theorem Rd.at_ {k : Nat} (h : Rd w B A n xs) (hk : k < n) : ∃ b off u, A = some ⟨b, off, none⟩ ∧ b < B ∧ xs[k]? = some u ∧ w.cell? ⟨b, off + k, none⟩ = some u := by
  obtain ⟨b, off, e, hb, hc⟩ := h.2 (by omega)
  have hl : k < xs.length := by rw [h.1]; exact hk
  exact ⟨b, off, xs[k], e, hb, List.getElem?_eq_getElem hl, by rw [hc k hk]; exact List.getElem?_eq_getElem hl⟩
theorem Rd.keep (h : Rd w B A n xs) (hk : ∀ p : Addr, p.block < B → w'.cell? p = w.cell? p) : Rd w' B A n xs :=
  ⟨h.1, fun hn => by
    obtain ⟨b, off, e, hb, hc⟩ := h.2 hn
    exact ⟨b, off, e, hb, fun j hj => (hk ⟨b, off + j, none⟩ hb).trans (hc j hj)⟩⟩
theorem Rd.more (h : Rd w B A n xs) (hB : B ≤ B') : Rd w B' A n xs :=
  ⟨h.1, fun hn => by
    obtain ⟨b, off, e, hb, hc⟩ := h.2 hn
    exact ⟨b, off, e, by omega, hc⟩⟩
theorem Rd.below (h : Rd w B A n xs) (hb : Below B w w') : Rd w' B A n xs := h.keep fun _ hp => hb.cell hp
theorem Rd.drew (h : Rd w B A n xs) : Rd w.drew B A n xs := h
theorem Rd.drewN (h : Rd w B A n xs) (k : Nat) : Rd (w.drewN k) B A n xs := h
theorem Rd.alloc (h : Rd w B A n xs) (hB : B ≤ w.heap.size) (o : Obj) : Rd (w.alloc o) B A n xs := h.keep fun p hp => World.cell?_alloc_lt w o p (by omega)
theorem Rd.setCell (h : Rd w B A n xs) {p : Addr} (hB : B ≤ p.block) (u : Value) : Rd (w.setCell p u) B A n xs :=
  h.keep fun q hq => World.cell?_setCell_other w p q u (fun e => by subst e; omega)
theorem Rd.grown (h : Rd w B A n xs) {row : Option Nat} (hg : w.grownBy w' row) (hB : B ≤ w.heap.size) (hr : ∀ g, row = some g → B ≤ g) : Rd w' B A n xs :=
  h.keep fun p hp => World.cell?_of_block (hg.block p.block (by omega) (fun e => by have := hr _ e.symm; omega))
/-- A slice of the call's own reads, too. -/
theorem Rd.own {base : Nat} {e : TypeId} {c : Nat} (h : w.ownsRow base e 1 (.slice A n c) n xs) : Rd w w.heap.size A n xs := by
  have hl : xs.length = n := by have := h.1; omega
  refine ⟨hl, fun hn => ?_⟩
  obtain ⟨g, cap, hv, _, hlt⟩ := h.form hn
  have hA : A = some ⟨g, 0, none⟩ := by injection hv
  have hcap : c = cap := by injection hv
  subst hA
  subst hcap
  exact ⟨g, 0, rfl, hlt, fun j hj => by rw [Nat.zero_add]; exact h.cellAt j (by omega)⟩
/-- Its beginning, and what is behind it: 's[:k]', 's[k:]'. -/
theorem Rd.take {k : Nat} (h : Rd w B A n xs) (hk : k ≤ n) : Rd w B A k (xs.take k) := by
  refine ⟨by rw [List.length_take, h.1]; omega, fun hn => ?_⟩
  obtain ⟨b, off, e, hb, hc⟩ := h.2 (by omega)
  exact ⟨b, off, e, hb, fun j hj => by rw [hc j (by omega), List.getElem?_take, if_pos hj]⟩
theorem Rd.drop {k : Nat} (h : Rd w B A n xs) (hk : k ≤ n) : Rd w B (A.map (·.add k)) (n - k) (xs.drop k) := by
  refine ⟨by rw [List.length_drop, h.1], fun hn => ?_⟩
  obtain ⟨b, off, rfl, hb, hc⟩ := h.2 (by omega)
  refine ⟨b, off + k, ?_, hb, fun j hj => ?_⟩
  · show some (Addr.add ⟨b, off, none⟩ k) = _
    unfold Addr.add
    split
    · rename_i h0; subst h0; rfl
    · rfl
  · rw [Nat.add_assoc, hc (k + j) (by omega), List.getElem?_drop]
theorem Rd.drop_if {k cap : Nat} (h : Rd w B A n xs) (hk : k ≤ n) (hc : n ≤ cap) : Rd w B (if cap = k then A else A.map (·.add k)) (n - k) (xs.drop k) := by
  by_cases e : cap = k
  · have h0 : n - k = 0 := by omega
    have hx : xs.drop k = [] := List.drop_of_length_le (by rw [h.1]; omega)
    rw [h0, hx]; exact Rd.nil
  · rw [if_neg e]; exact h.drop hk
end

/-- A slice that reads as the numbers l. -/
def RdI (w : World) (B : Nat) (A : Option Addr) (n : Nat) (l : List Int) : Prop := Rd w B A n (ivals l)
section
variable {w w' : World} {B B' n : Nat} {A : Option Addr} {l : List Int}
theorem RdI.len (h : RdI w B A n l) : l.length = n := by have := h.1; rwa [ivals_length] at this
theorem RdI.nil : RdI w B A 0 [] := Rd.nil
theorem RdI.at_ {k : Nat} (h : RdI w B A n l) (hk : k < n) : ∃ b off, A = some ⟨b, off, none⟩ ∧ b < B ∧ w.cell? ⟨b, off + k, none⟩ = some (.int .i64 (l.getD k 0)) := by
  obtain ⟨b, off, u, e, hb, hu, hc⟩ := Rd.at_ h hk
  have hl := h.len
  rw [ivals_get (by omega)] at hu
  exact ⟨b, off, e, hb, by rw [hc, ← hu]⟩
theorem RdI.more (h : RdI w B A n l) (hB : B ≤ B') : RdI w B' A n l := Rd.more h hB
theorem RdI.below (h : RdI w B A n l) (hb : Below B w w') : RdI w' B A n l := Rd.below h hb
theorem RdI.drew (h : RdI w B A n l) : RdI w.drew B A n l := h
theorem RdI.drewN (h : RdI w B A n l) (k : Nat) : RdI (w.drewN k) B A n l := h
theorem RdI.alloc (h : RdI w B A n l) (hB : B ≤ w.heap.size) (o : Obj) : RdI (w.alloc o) B A n l := Rd.alloc h hB o
theorem RdI.setCell (h : RdI w B A n l) {p : Addr} (hB : B ≤ p.block) (u : Value) : RdI (w.setCell p u) B A n l := Rd.setCell h hB u
theorem RdI.grown (h : RdI w B A n l) {row : Option Nat} (hg : w.grownBy w' row) (hB : B ≤ w.heap.size) (hr : ∀ g, row = some g → B ≤ g) : RdI w' B A n l := Rd.grown h hg hB hr
theorem RdI.own {base : Nat} {e : TypeId} {c : Nat} (h : w.ownsRow base e 1 (.slice A n c) n (ivals l)) : RdI w w.heap.size A n l := Rd.own h
theorem RdI.take {k : Nat} (h : RdI w B A n l) (hk : k ≤ n) : RdI w B A k (l.take k) := by
  have := Rd.take h hk
  unfold RdI ivals at *
  rwa [← List.map_take] at this
theorem RdI.drop_if {k cap : Nat} (h : RdI w B A n l) (hk : k ≤ n) (hc : n ≤ cap) : RdI w B (if cap = k then A else A.map (·.add k)) (n - k) (l.drop k) := by
  have := Rd.drop_if (cap := cap) h hk hc
  unfold RdI ivals at *
  rwa [← List.map_drop] at this
end

/-- A slice that has just been written out. -/
theorem RdI.lit (w : World) (l : List Int) (t : TypeId) (cs : Array Value) (hcs : cs.toList = ivals l) : RdI (w.alloc (.cells cs t)) (w.heap.size + 1) (some ⟨w.heap.size, 0, none⟩) l.length l := by
  refine ⟨ivals_length l, fun _ => ⟨w.heap.size, 0, rfl, by omega, fun j _ => ?_⟩⟩
  rw [Nat.zero_add, cell_of_row _ w.heap.size j cs t (0, 0) (heap_alloc_new w _), ← hcs]
  simp
/-! ### A slice of the call's own. -/
section
variable {w w' : World} {base : Nat} {e : TypeId} {A : Option Addr} {n c : Nat} {xs : List Value}
theorem own_len (h : w.ownsRow base e 1 (.slice A n c) n xs) : xs.length = n := by have := h.1; omega
theorem own_nil (w : World) (base : Nat) (e : TypeId) : w.ownsRow base e 1 (.slice none 0 0) 0 [] := World.ownsRow_nil w base e 1
theorem own_form (h : w.ownsRow base e 1 (.slice A n c) n xs) (hn : 0 < n) : ∃ g, A = some ⟨g, 0, none⟩ ∧ base ≤ g ∧ g < w.heap.size := by
  obtain ⟨g, cap, hv, hb, hlt⟩ := h.form hn
  exact ⟨g, by injection hv, hb, hlt⟩
theorem own_cap (h : w.ownsRow base e 1 (.slice A n c) n xs) : n ≤ c := by
  rcases h.2 with ⟨hv, h0⟩ | ⟨g, cap, cur, hv, _, _, hnc, _⟩
  · omega
  · injection hv with _ _ h3; omega
theorem own_more {base' : Nat} {v : Value} (h : w.ownsRow base e 1 v n xs) (hb : base' ≤ base) : w.ownsRow base' e 1 v n xs := by
  refine ⟨h.1, ?_⟩
  rcases h.2 with h0 | ⟨g, cap, cur, hv, hg, r⟩
  · exact .inl h0
  · exact .inr ⟨g, cap, cur, hv, by omega, r⟩
theorem own_block (h : w.ownsRow base e 1 (.slice A n c) n xs) : ∀ g, (Value.slice A n c).ownBlock = some g → base ≤ g ∧ g < w.heap.size := h.lt
theorem own_below {v : Value} (h : w.ownsRow base e 1 v n xs) {B : Nat} (hb : Below B w w') (hB : ∀ g, v.ownBlock = some g → g < B) : w'.ownsRow base e 1 v n xs := by
  refine ⟨h.1, ?_⟩
  rcases h.2 with h0 | ⟨g, cap, cur, rfl, hg, hh, r⟩
  · exact .inl h0
  · exact .inr ⟨g, cap, cur, rfl, hg, by rw [hb.block g (hB g rfl)]; exact hh, r⟩
theorem own_below' {v : Value} (h : w.ownsRow base e 1 v n xs) (hb : Below w.heap.size w w') : w'.ownsRow base e 1 v n xs := own_below h hb fun g hg => (h.lt g hg).2
theorem own_drew {v : Value} (h : w.ownsRow base e 1 v n xs) : w.drew.ownsRow base e 1 v n xs := h
theorem own_drewN {v : Value} (h : w.ownsRow base e 1 v n xs) (k : Nat) : (w.drewN k).ownsRow base e 1 v n xs := h
theorem own_setFar {v : Value} (h : w.ownsRow base e 1 v n xs) {p : Addr} (hp : v.ownBlock ≠ some p.block) (u : Value) : (w.setCell p u).ownsRow base e 1 v n xs :=
  h.kept (row := some p.block) ⟨rfl, rfl, rfl, by simp, fun k _ hk => heap_setCell_other w p k u (fun e => hk (by rw [e]))⟩ (.inr hp)
end
theorem below_drewN' {B : Nat} {a w : World} (h : Below B a w) (n : Nat) : Below B a (w.drewN n) := ⟨h.os, h.tape, h.output, h.size, h.block⟩

/-! ### Step by step: what is read below the heap's end goes on being read so. -/
section
variable {w w1 w2 : World} {A : Option Addr} {n c : Nat} {l : List Int}
theorem RdI.on (h : RdI w w.heap.size A n l) (hb : Below w.heap.size w w1) : RdI w1 w1.heap.size A n l := (h.below hb).more hb.size
theorem RdI.onAlloc (h : RdI w w.heap.size A n l) (o : Obj) : RdI (w.alloc o) (w.alloc o).heap.size A n l := (h.alloc (Nat.le_refl _) o).more (by simp)
theorem RdI.lit' (w : World) (l : List Int) (t : TypeId) (cs : Array Value) (hcs : cs.toList = ivals l) : RdI (w.alloc (.cells cs t)) (w.alloc (.cells cs t)).heap.size (some ⟨w.heap.size, 0, none⟩) l.length l :=
  (RdI.lit w l t cs hcs).more (by simp)
theorem RdI.litAt (w : World) (g : Nat) (hg : w.heap.size = g) (l : List Int) (t : TypeId) (cs : Array Value) (hcs : cs.toList = ivals l) : RdI (w.alloc (.cells cs t)) (w.alloc (.cells cs t)).heap.size (some ⟨g, 0, none⟩) l.length l := by
  subst hg; exact RdI.lit' w l t cs hcs
theorem below_on (H : Below w.heap.size w w1) (h : Below w1.heap.size w1 w2) : Below w.heap.size w w2 := H.trans (h.mono H.size)
theorem below_onAlloc (H : Below w.heap.size w w1) (o : Obj) : Below w.heap.size w (w1.alloc o) := H.alloc H.size o
theorem below_alloc0 (w : World) (o : Obj) : Below w.heap.size w (w.alloc o) := (Below.refl _ _).alloc (Nat.le_refl _) o
end

/-! ### Errors. -/
/-- An error of the program's: nil, or the number's. -/
def errV (k : Int) : Value := if k = 0 then .nilIface else .iface 65 (.int .i64 k)
theorem errV_zero : errV 0 = .nilIface := rfl
theorem errV_of {k : Int} (h : k = 0) : errV k = .nilIface := by rw [h]; rfl
theorem errV_ne {k : Int} (h : k ≠ 0) : errV k = .iface 65 (.int .i64 k) := if_neg h

theorem int_info : (Try.prog.info? 3).map (fun i => (i.zero, i.size, i.bytes)) = some (some (.int .i64 0), 1, 8) := by kernel_rfl
end Go.Proofs.Ytapjnfhbjmeniaa
