/- Words for memory: slices that read as lists, slices of the call's own, and what becomes of them. No function of the program is named here. -/
import Derived.Test.YtjdpgakkphdjlaaGreatDoorProg
import Derived.WalkKit
import Derived.Below
import Derived.Laws.OwnMore
import Derived.Laws.NewBlocks
import Derived.Deep.AppendLies
import Derived.Deep.Draws
import Derived.OwnWalk
import Derived.Lib.Hide
import Derived.WalkSpells
import Derived.WalkLawsBesides
import Derived.Deep.RegionHeld3
import Derived.Laws.AppendOwnNone
import Derived.Laws.CopyOwn
namespace Go.Proofs.YtjdpgakkphdjlaaGreatDoor
open Go.RowKit

/-- The numbers of a list as values. -/
def ivals (l : List Int) : List Value := l.map (Value.int .i64)
theorem ivals_length (l : List Int) : (ivals l).length = l.length := by simp [ivals]
theorem ivals_get {l : List Int} {k : Nat} (h : k < l.length) : (ivals l)[k]? = some (.int .i64 (l.getD k 0)) := by
  simp [ivals, List.getElem?_eq_getElem h]
theorem ivals_append (a b : List Int) : ivals (a ++ b) = ivals a ++ ivals b := by simp [ivals]
theorem ivals_set (l : List Int) (i : Nat) (x : Int) : (ivals l).set i (.int .i64 x) = ivals (l.set i x) := by simp [ivals, List.map_set]
theorem ivals_one (l : List Int) : ∀ u ∈ ivals l, u.oneCell' = true := by
  intro u hu
  obtain ⟨x, _, rfl⟩ := List.mem_map.1 hu
  rfl

/-- A slice at A of n one-cell elements reads as xs, and lies below block B. -/
def Rd (w : World) (B : Nat) (A : Option Addr) (n : Nat) (xs : List Value) : Prop :=
  xs.length = n ∧ (0 < n → ∃ b off, A = some ⟨b, off, none⟩ ∧ b < B ∧ ∀ j, j < n → w.cell? ⟨b, off + j, none⟩ = xs[j]?)

section
variable {w w' : World} {B B' n : Nat} {A : Option Addr} {xs : List Value}
theorem Rd.nil : Rd w B A 0 [] := ⟨rfl, fun h => absurd h (by omega)⟩
theorem Rd.at_ {k : Nat} (h : Rd w B A n xs) (hk : k < n) : ∃ b off u, A = some ⟨b, off, none⟩ ∧ b < B ∧ xs[k]? = some u ∧ w.cell? ⟨b, off + k, none⟩ = some u := by
  obtain ⟨b, off, e, hb, hc⟩ := h.2 (by omega)
  have hl : k < xs.length := by rw [h.1]; exact hk
  exact ⟨b, off, xs[k], e, hb, List.getElem?_eq_getElem hl, by rw [hc k hk]; exact List.getElem?_eq_getElem hl⟩
theorem Rd.keep (h : Rd w B A n xs) (hk : ∀ p : Addr, p.block < B → w'.cell? p = w.cell? p) : Rd w' B A n xs :=
  ⟨h.1, fun hn => by
    obtain ⟨b, off, e, hb, hc⟩ := h.2 hn
    exact ⟨b, off, e, hb, fun j hj => (hk ⟨b, off + j, none⟩ hb).trans (hc j hj)⟩⟩
theorem Rd.more (h : Rd w B A n xs) (hB : B ≤ B') : Rd w B' A n xs :=
  ⟨h.1, fun hn => by
    obtain ⟨b, off, e, hb, hc⟩ := h.2 hn
    exact ⟨b, off, e, by omega, hc⟩⟩
theorem Rd.below (h : Rd w B A n xs) (hb : Below B w w') : Rd w' B A n xs := h.keep fun _ hp => hb.cell hp
theorem Rd.drew (h : Rd w B A n xs) : Rd w.drew B A n xs := h
theorem Rd.drewN (h : Rd w B A n xs) (k : Nat) : Rd (w.drewN k) B A n xs := h
theorem Rd.alloc (h : Rd w B A n xs) (hB : B ≤ w.heap.size) (o : Obj) : Rd (w.alloc o) B A n xs := h.keep fun p hp => World.cell?_alloc_lt w o p (by omega)
theorem Rd.setCell (h : Rd w B A n xs) {p : Addr} (hB : B ≤ p.block) (u : Value) : Rd (w.setCell p u) B A n xs :=
  h.keep fun q hq => World.cell?_setCell_other w p q u (fun e => by subst e; omega)
theorem Rd.grown (h : Rd w B A n xs) {row : Option Nat} (hg : w.grownBy w' row) (hB : B ≤ w.heap.size) (hr : ∀ g, row = some g → B ≤ g) : Rd w' B A n xs :=
  h.keep fun p hp => World.cell?_of_block (hg.block p.block (by omega) (fun e => by have := hr _ e.symm; omega))
/-- A slice of the call's own reads, too. -/
theorem Rd.own {base : Nat} {e : TypeId} {c : Nat} (h : w.ownsRow base e 1 (.slice A n c) n xs) : Rd w w.heap.size A n xs := by
  have hl : xs.length = n := by have := h.1; omega
  refine ⟨hl, fun hn => ?_⟩
  obtain ⟨g, cap, hv, _, hlt⟩ := h.form hn
  have hA : A = some ⟨g, 0, none⟩ := by injection hv
  have hcap : c = cap := by injection hv
  subst hA
  subst hcap
  exact ⟨g, 0, rfl, hlt, fun j hj => by rw [Nat.zero_add]; exact h.cellAt j (by omega)⟩
/-- Its beginning, and what is behind it: 's[:k]', 's[k:]'. -/
theorem Rd.take {k : Nat} (h : Rd w B A n xs) (hk : k ≤ n) : Rd w B A k (xs.take k) := by
  refine ⟨by rw [List.length_take, h.1]; omega, fun hn => ?_⟩
  obtain ⟨b, off, e, hb, hc⟩ := h.2 (by omega)
  exact ⟨b, off, e, hb, fun j hj => by rw [hc j (by omega), List.getElem?_take, if_pos hj]⟩
theorem Rd.drop {k : Nat} (h : Rd w B A n xs) (hk : k ≤ n) : Rd w B (A.map (·.add k)) (n - k) (xs.drop k) := by
  refine ⟨by rw [List.length_drop, h.1], fun hn => ?_⟩
  obtain ⟨b, off, rfl, hb, hc⟩ := h.2 (by omega)
  refine ⟨b, off + k, ?_, hb, fun j hj => ?_⟩
  · show some (Addr.add ⟨b, off, none⟩ k) = _
    unfold Addr.add
    split
    · rename_i h0; subst h0; rfl
    · rfl
  · rw [Nat.add_assoc, hc (k + j) (by omega), List.getElem?_drop]
theorem Rd.drop_if {k cap : Nat} (h : Rd w B A n xs) (hk : k ≤ n) (hc : n ≤ cap) : Rd w B (if cap = k then A else A.map (·.add k)) (n - k) (xs.drop k) := by
  by_cases e : cap = k
  · have h0 : n - k = 0 := by omega
    have hx : xs.drop k = [] := List.drop_of_length_le (by rw [h.1]; omega)
    rw [h0, hx]; exact Rd.nil
  · rw [if_neg e]; exact h.drop hk
end

/-- A slice that reads as the numbers l. -/
def RdI (w : World) (B : Nat) (A : Option Addr) (n : Nat) (l : List Int) : Prop := Rd w B A n (ivals l)
section
variable {w w' : World} {B B' n : Nat} {A : Option Addr} {l : List Int}
theorem RdI.len (h : RdI w B A n l) : l.length = n := by have := h.1; rwa [ivals_length] at this
theorem RdI.nil : RdI w B A 0 [] := Rd.nil
theorem RdI.at_ {k : Nat} (h : RdI w B A n l) (hk : k < n) : ∃ b off, A = some ⟨b, off, none⟩ ∧ b < B ∧ w.cell? ⟨b, off + k, none⟩ = some (.int .i64 (l.getD k 0)) := by
  obtain ⟨b, off, u, e, hb, hu, hc⟩ := Rd.at_ h hk
  have hl := h.len
  rw [ivals_get (by omega)] at hu
  exact ⟨b, off, e, hb, by rw [hc, ← hu]⟩
theorem RdI.more (h : RdI w B A n l) (hB : B ≤ B') : RdI w B' A n l := Rd.more h hB
theorem RdI.below (h : RdI w B A n l) (hb : Below B w w') : RdI w' B A n l := Rd.below h hb
theorem RdI.drew (h : RdI w B A n l) : RdI w.drew B A n l := h
theorem RdI.drewN (h : RdI w B A n l) (k : Nat) : RdI (w.drewN k) B A n l := h
theorem RdI.alloc (h : RdI w B A n l) (hB : B ≤ w.heap.size) (o : Obj) : RdI (w.alloc o) B A n l := Rd.alloc h hB o
theorem RdI.setCell (h : RdI w B A n l) {p : Addr} (hB : B ≤ p.block) (u : Value) : RdI (w.setCell p u) B A n l := Rd.setCell h hB u
theorem RdI.grown (h : RdI w B A n l) {row : Option Nat} (hg : w.grownBy w' row) (hB : B ≤ w.heap.size) (hr : ∀ g, row = some g → B ≤ g) : RdI w' B A n l := Rd.grown h hg hB hr
theorem RdI.own {base : Nat} {e : TypeId} {c : Nat} (h : w.ownsRow base e 1 (.slice A n c) n (ivals l)) : RdI w w.heap.size A n l := Rd.own h
theorem RdI.take {k : Nat} (h : RdI w B A n l) (hk : k ≤ n) : RdI w B A k (l.take k) := by
  have := Rd.take h hk
  unfold RdI ivals at *
  rwa [← List.map_take] at this
theorem RdI.drop_if {k cap : Nat} (h : RdI w B A n l) (hk : k ≤ n) (hc : n ≤ cap) : RdI w B (if cap = k then A else A.map (·.add k)) (n - k) (l.drop k) := by
  have := Rd.drop_if (cap := cap) h hk hc
  unfold RdI ivals at *
  rwa [← List.map_drop] at this
end

/-- A slice that has just been written out. -/
theorem RdI.lit (w : World) (l : List Int) (t : TypeId) (cs : Array Value) (hcs : cs.toList = ivals l) : RdI (w.alloc (.cells cs t)) (w.heap.size + 1) (some ⟨w.heap.size, 0, none⟩) l.length l := by
  refine ⟨ivals_length l, fun _ => ⟨w.heap.size, 0, rfl, by omega, fun j _ => ?_⟩⟩
  rw [Nat.zero_add, cell_of_row _ w.heap.size j cs t (0, 0) (heap_alloc_new w _), ← hcs]
  simp
/-! ### A slice of the call's own. -/
section
variable {w w' : World} {base : Nat} {e : TypeId} {A : Option Addr} {n c : Nat} {xs : List Value}
theorem own_len (h : w.ownsRow base e 1 (.slice A n c) n xs) : xs.length = n := by have := h.1; omega
theorem own_nil (w : World) (base : Nat) (e : TypeId) : w.ownsRow base e 1 (.slice none 0 0) 0 [] := World.ownsRow_nil w base e 1
theorem own_form (h : w.ownsRow base e 1 (.slice A n c) n xs) (hn : 0 < n) : ∃ g, A = some ⟨g, 0, none⟩ ∧ base ≤ g ∧ g < w.heap.size := by
  obtain ⟨g, cap, hv, hb, hlt⟩ := h.form hn
  exact ⟨g, by injection hv, hb, hlt⟩
theorem own_cap (h : w.ownsRow base e 1 (.slice A n c) n xs) : n ≤ c := by
  rcases h.2 with ⟨hv, h0⟩ | ⟨g, cap, cur, hv, _, _, hnc, _⟩
  · omega
  · injection hv with _ _ h3; omega
theorem own_more {base' : Nat} {v : Value} (h : w.ownsRow base e 1 v n xs) (hb : base' ≤ base) : w.ownsRow base' e 1 v n xs := by
  refine ⟨h.1, ?_⟩
  rcases h.2 with h0 | ⟨g, cap, cur, hv, hg, r⟩
  · exact .inl h0
  · exact .inr ⟨g, cap, cur, hv, by omega, r⟩
theorem own_block (h : w.ownsRow base e 1 (.slice A n c) n xs) : ∀ g, (Value.slice A n c).ownBlock = some g → base ≤ g ∧ g < w.heap.size := h.lt
theorem own_below {v : Value} (h : w.ownsRow base e 1 v n xs) {B : Nat} (hb : Below B w w') (hB : ∀ g, v.ownBlock = some g → g < B) : w'.ownsRow base e 1 v n xs := by
  refine ⟨h.1, ?_⟩
  rcases h.2 with h0 | ⟨g, cap, cur, rfl, hg, hh, r⟩
  · exact .inl h0
  · exact .inr ⟨g, cap, cur, rfl, hg, by rw [hb.block g (hB g rfl)]; exact hh, r⟩
theorem own_below' {v : Value} (h : w.ownsRow base e 1 v n xs) (hb : Below w.heap.size w w') : w'.ownsRow base e 1 v n xs := own_below h hb fun g hg => (h.lt g hg).2
theorem own_drew {v : Value} (h : w.ownsRow base e 1 v n xs) : w.drew.ownsRow base e 1 v n xs := h
theorem own_drewN {v : Value} (h : w.ownsRow base e 1 v n xs) (k : Nat) : (w.drewN k).ownsRow base e 1 v n xs := h
theorem own_setFar {v : Value} (h : w.ownsRow base e 1 v n xs) {p : Addr} (hp : v.ownBlock ≠ some p.block) (u : Value) : (w.setCell p u).ownsRow base e 1 v n xs :=
  h.kept (row := some p.block) ⟨rfl, rfl, rfl, by simp, fun k _ hk => heap_setCell_other w p k u (fun e => hk (by rw [e]))⟩ (.inr hp)
end
theorem below_drewN' {B : Nat} {a w : World} (h : Below B a w) (n : Nat) : Below B a (w.drewN n) := ⟨h.os, h.tape, h.output, h.size, h.block⟩

/-! ### Step by step: what is read below the heap's end goes on being read so. -/
section
variable {w w1 w2 : World} {A : Option Addr} {n c : Nat} {l : List Int}
theorem RdI.on (h : RdI w w.heap.size A n l) (hb : Below w.heap.size w w1) : RdI w1 w1.heap.size A n l := (h.below hb).more hb.size
theorem RdI.onAlloc (h : RdI w w.heap.size A n l) (o : Obj) : RdI (w.alloc o) (w.alloc o).heap.size A n l := (h.alloc (Nat.le_refl _) o).more (by simp)
theorem RdI.lit' (w : World) (l : List Int) (t : TypeId) (cs : Array Value) (hcs : cs.toList = ivals l) : RdI (w.alloc (.cells cs t)) (w.alloc (.cells cs t)).heap.size (some ⟨w.heap.size, 0, none⟩) l.length l :=
  (RdI.lit w l t cs hcs).more (by simp)
theorem RdI.litAt (w : World) (g : Nat) (hg : w.heap.size = g) (l : List Int) (t : TypeId) (cs : Array Value) (hcs : cs.toList = ivals l) : RdI (w.alloc (.cells cs t)) (w.alloc (.cells cs t)).heap.size (some ⟨g, 0, none⟩) l.length l := by
  subst hg; exact RdI.lit' w l t cs hcs
theorem below_on (H : Below w.heap.size w w1) (h : Below w1.heap.size w1 w2) : Below w.heap.size w w2 := H.trans (h.mono H.size)
theorem below_onAlloc (H : Below w.heap.size w w1) (o : Obj) : Below w.heap.size w (w1.alloc o) := H.alloc H.size o
theorem below_alloc0 (w : World) (o : Obj) : Below w.heap.size w (w.alloc o) := (Below.refl _ _).alloc (Nat.le_refl _) o
end

/-! ### Errors. -/
/-- An error of the program's: nil, or the number's. -/
def errV (k : Int) : Value := if k = 0 then .nilIface else .iface 69 (.int .i64 k)
theorem errV_zero : errV 0 = .nilIface := rfl
theorem errV_of {k : Int} (h : k = 0) : errV k = .nilIface := by rw [h]; rfl
theorem errV_ne {k : Int} (h : k ≠ 0) : errV k = .iface 69 (.int .i64 k) := if_neg h

theorem int_info : (Tryz.prog.info? 3).map (fun i => (i.zero, i.size, i.bytes)) = some (some (.int .i64 0), 1, 8) := by kernel_rfl
end Go.Proofs.YtjdpgakkphdjlaaGreatDoor
/- 'append(v, x)' where v is a slice of ints, nil or the call's own: the row one longer, and all below as it was. -/
namespace Go.Proofs.YtjdpgakkphdjlaaGreatDoor
open Go.RowKit

theorem below_same {B : Nat} {a w w' : World} (h : Below B a w) (h1 : w'.os = w.os) (h2 : w'.tape = w.tape) (h3 : w'.output = w.output) (h4 : w'.heap = w.heap) : Below B a w' :=
  ⟨h1.trans h.os, h2.trans h.tape, h3.trans h.output, by rw [h4]; exact h.size, by rw [h4]; exact h.block⟩
theorem cell_of_alloc (w : World) (y : Value) (t : TypeId) : (w.alloc (.cells #[y] t)).cell? ⟨w.heap.size, 0, none⟩ = some y := by
  simp
theorem wpList_push {ops : Array Oper} {rest : List Oper} {o : Oper} {a : Act} {Q : Exit → Act → World → Prop} (w : World) (hgd : o.guard = none) (s x : Operand)
    (ho : o.op = .call { callee := .builtin .append, args := #[s, x], argTypes := #[49, 49] })
    (W0 : World) (base : Nat) (A : Option Addr) (k c : Nat) (l : List Int) (y : Int) (hown : w.ownsRow base 3 1 (.slice A k c) k (ivals l)) (hbel : Below base W0 w) (hbase : base ≤ w.heap.size)
    (hk : k + 1 ≤ 17592186044415) (hs : a.eval s = .slice A k c) (hx : a.eval x = .slice (some ⟨w.heap.size, 0, none⟩) 1 1)
    (h : ∀ g cap w', w'.ownsRow base 3 1 (.slice (some ⟨g, 0, none⟩) (k + 1) cap) (k + 1) (ivals (l ++ [y])) → Below base W0 w' → wpList Tryz.prog ops Q rest (a.put o.dst (.slice (some ⟨g, 0, none⟩) (k + 1) cap)) w') :
    wpList Tryz.prog ops Q (o :: rest) a (w.alloc (.cells #[.int .i64 y] 3)) := by
  obtain ⟨i0, hi, hz0, hz1, hz2⟩ := info_parts int_info
  refine wpList_append_lies _ hgd s x 49 ho base 3 i0 (.int .i64 0) 1 8 Tryz.underlying49 hi hz0 hz1 hz2 rfl (by omega) _ _ _ hs (hown.alloc _) ⟨w.heap.size, 0, none⟩ 1 1 [.int .i64 y] hx rfl ?_ ?_ (by omega) ?_ ?_ ?_ (w.heap.size + 1) (by simp) ?_
  · intro j u hj
    match j, hj with
    | 0, hj => simp at hj; subst hj; simp [Addr.add]
  · intro u hu
    simp at hu
    subst hu
    rfl
  · unfold maxLen; omega
  · omega
  · simp; omega
  · intro g cap w' ho' hg _ _
    refine h g cap w' (by rw [ivals_append]; exact ho') ?_
    refine (hbel.alloc hbase _).grown hg (by simp; omega) ?_
    intro q hq
    rcases hown.2 with ⟨h1, h2⟩ | ⟨g', cap', cur, h1, h2, _⟩
    · rw [h1] at hq; simp [Value.ownBlock] at hq
    · rw [h1] at hq; simp [Value.ownBlock] at hq; omega
/-- 'append(v, u...)' where v is nil or the call's own, and u a slice that reads. -/
theorem own_slice {w : World} {base : Nat} {e : TypeId} {v : Value} {n : Nat} {xs : List Value} (h : w.ownsRow base e 1 v n xs) : ∃ A c, v = .slice A n c := by
  rcases h.2 with ⟨h1, h2⟩ | ⟨g, cap, cur, h1, _⟩
  · subst h2; exact ⟨none, 0, h1⟩
  · exact ⟨some ⟨g, 0, none⟩, cap, h1⟩
theorem grown_below {w w' W0 : World} {base : Nat} {e : TypeId} {v : Value} {n : Nat} {xs : List Value} (hown : w.ownsRow base e 1 v n xs) (hbel : Below base W0 w) (hbase : base ≤ w.heap.size) (hg : w.grownBy w' v.ownBlock) : Below base W0 w' :=
  hbel.grown hg hbase fun k hk => (hown.lt k hk).1
set_option maxRecDepth 100000 in
theorem wpList_join {ops : Array Oper} {rest : List Oper} {o : Oper} {a : Act} {Q : Exit → Act → World → Prop} (w : World) (hgd : o.guard = none) (s x : Operand)
    (ho : o.op = .call { callee := .builtin .append, args := #[s, x], argTypes := #[49, 49] })
    (W0 : World) (base : Nat) (A : Option Addr) (k c : Nat) (l : List Int) (A2 : Option Addr) (k2 c2 : Nat) (l2 : List Int) (B2 : Nat) (hown : w.ownsRow base 3 1 (.slice A k c) k (ivals l)) (hbel : Below base W0 w) (hbase : base ≤ w.heap.size)
    (h2 : RdI w B2 A2 k2 l2) (hnil : A2 = none → c2 = 0) (hk : k + k2 ≤ 17592186044415) (hs : a.eval s = .slice A k c) (hx : a.eval x = .slice A2 k2 c2)
    (h : ∀ A' cap w', w'.ownsRow base 3 1 (.slice A' (k + k2) cap) (k + k2) (ivals (l ++ l2)) → Below base W0 w' → wpList Tryz.prog ops Q rest (a.put o.dst (.slice A' (k + k2) cap)) w') :
    wpList Tryz.prog ops Q (o :: rest) a w := by
  obtain ⟨i0, hi, hz0, hz1, hz2⟩ := info_parts int_info
  have hlen := h2.len
  cases A2 with
  | none =>
    have hk0 : k2 = 0 := by
      rcases Nat.eq_zero_or_pos k2 with h0 | h0
      · exact h0
      · obtain ⟨b, off, hA, _⟩ := h2.at_ h0
        cases hA
    have hc0 := hnil rfl
    subst hk0
    subst hc0
    have hl2 : l2 = [] := List.length_eq_zero_iff.1 hlen
    subst hl2
    refine wpList_append_own_none hgd s x 49 ho base 3 i0 1 Tryz.underlying49 hi _ _ _ hs hown hx ?_
    exact h A c w (by rw [List.append_nil]; exact hown) hbel
  | some ad =>
    refine wpList_append_own _ hgd s x 49 ho base 3 i0 (.int .i64 0) 1 8 Tryz.underlying49 hi hz0 hz1 hz2 rfl (by omega) _ _ _ hs hown ad k2 c2 (ivals l2) hx (by rw [ivals_length]; omega) ?_ (ivals_one _) ?_ (by omega) hbase ?_
    · intro j u hj
      have hj2 : j < k2 := by
        rcases Nat.lt_or_ge j k2 with h0 | h0
        · exact h0
        · rw [List.getElem?_eq_none (by rw [ivals_length]; omega)] at hj
          cases hj
      obtain ⟨b, off, hA, _, hc⟩ := h2.at_ hj2
      have hA2 : ad = ⟨b, off, none⟩ := by injection hA
      subst hA2
      rw [ivals_get (by omega)] at hj
      rw [← hj, ← hc]
      congr 1
      unfold Addr.add
      split
      · rename_i h0; subst h0; rfl
      · rfl
    · unfold maxLen; omega
    · intro v' w' ho' hg _
      obtain ⟨A', cap, rfl⟩ := own_slice ho'
      exact h A' cap w' (by rw [ivals_append]; exact ho') (grown_below hown hbel hbase hg)
/-- The same at a step of a region that draws its order, at whatever world. -/
theorem step_push {ops : Array Oper} {o : Oper} {a : Act} {K : Act → World → Prop} {Q : Exit → Act → World → Prop} {E : Prop} (W : World) (hgd : o.guard = none) (s x : Operand)
    (ho : o.op = .call { callee := .builtin .append, args := #[s, x], argTypes := #[49, 49] })
    (W0 : World) (base : Nat) (A : Option Addr) (k c : Nat) (l : List Int) (y : Int) (g0 : Nat) (hown : W.ownsRow base 3 1 (.slice A k c) k (ivals l)) (hbel : Below base W0 W) (hbase : base ≤ W.heap.size)
    (hcell : W.cell? ⟨g0, 0, none⟩ = some (.int .i64 y)) (hk : k + 1 ≤ 17592186044415) (hs : a.eval s = .slice A k c) (hx : a.eval x = .slice (some ⟨g0, 0, none⟩) 1 1)
    (h : ∀ g cap w', w'.ownsRow base 3 1 (.slice (some ⟨g, 0, none⟩) (k + 1) cap) (k + 1) (ivals (l ++ [y])) → Below base W0 w' → K (a.put o.dst (.slice (some ⟨g, 0, none⟩) (k + 1) cap)) w') :
    if Region.wanted o (yielded ops a.tmps) = true then Oper.wp Tryz.prog o a W K Q else E := by
  obtain ⟨i0, hi, hz0, hz1, hz2⟩ := info_parts int_info
  refine step_append_lies _ hgd s x 49 ho base 3 i0 (.int .i64 0) 1 8 Tryz.underlying49 hi hz0 hz1 hz2 rfl (by omega) _ _ _ hs hown ⟨g0, 0, none⟩ 1 1 [.int .i64 y] hx rfl ?_ ?_ (by omega) ?_ ?_ hbase _ rfl ?_
  · intro j u hj
    match j, hj with
    | 0, hj => simp at hj; subst hj; simpa [Addr.add] using hcell
  · intro u hu
    simp at hu
    subst hu
    rfl
  · unfold maxLen; omega
  · omega
  · intro g cap w' ho' hg _ _
    refine h g cap w' (by rw [ivals_append]; exact ho') (hbel.grown hg hbase ?_)
    intro q hq
    rcases hown.2 with ⟨h1, h2⟩ | ⟨g', cap', cur, h1, h2, _⟩
    · rw [h1] at hq; simp [Value.ownBlock] at hq
    · rw [h1] at hq; simp [Value.ownBlock] at hq; omega
/-- Two at once, at a step of a region that draws its order, at whatever world. -/
theorem step_push2 {ops : Array Oper} {o : Oper} {a : Act} {K : Act → World → Prop} {Q : Exit → Act → World → Prop} {E : Prop} (W : World) (hgd : o.guard = none) (s x : Operand)
    (ho : o.op = .call { callee := .builtin .append, args := #[s, x], argTypes := #[49, 49] })
    (W0 : World) (base : Nat) (A : Option Addr) (k c : Nat) (l : List Int) (x0 y : Int) (g0 : Nat) (hown : W.ownsRow base 3 1 (.slice A k c) k (ivals l)) (hbel : Below base W0 W) (hbase : base ≤ W.heap.size)
    (hcell : W.cell? ⟨g0, 0, none⟩ = some (.int .i64 x0)) (hcell2 : W.cell? ⟨g0, 1, none⟩ = some (.int .i64 y)) (hk : k + 2 ≤ 17592186044415) (hs : a.eval s = .slice A k c) (hx : a.eval x = .slice (some ⟨g0, 0, none⟩) 2 2)
    (h : ∀ g cap w', w'.ownsRow base 3 1 (.slice (some ⟨g, 0, none⟩) (k + 2) cap) (k + 2) (ivals (l ++ [x0, y])) → Below base W0 w' → K (a.put o.dst (.slice (some ⟨g, 0, none⟩) (k + 2) cap)) w') :
    if Region.wanted o (yielded ops a.tmps) = true then Oper.wp Tryz.prog o a W K Q else E := by
  obtain ⟨i0, hi, hz0, hz1, hz2⟩ := info_parts int_info
  refine step_append_lies _ hgd s x 49 ho base 3 i0 (.int .i64 0) 1 8 Tryz.underlying49 hi hz0 hz1 hz2 rfl (by omega) _ _ _ hs hown ⟨g0, 0, none⟩ 2 2 [.int .i64 x0, .int .i64 y] hx rfl ?_ ?_ (by omega) ?_ ?_ hbase _ rfl ?_
  · intro j u hj
    match j, hj with
    | 0, hj => simp at hj; subst hj; simpa [Addr.add] using hcell
    | 1, hj => simp at hj; subst hj; simpa [Addr.add] using hcell2
  · intro u hu
    simp at hu
    rcases hu with rfl | rfl <;> rfl
  · unfold maxLen; omega
  · omega
  · intro g cap w' ho' hg _ _
    refine h g cap w' (by rw [ivals_append]; exact ho') (hbel.grown hg hbase ?_)
    intro q hq
    rcases hown.2 with ⟨h1, h2⟩ | ⟨g', cap', cur, h1, h2, _⟩
    · rw [h1] at hq; simp [Value.ownBlock] at hq
    · rw [h1] at hq; simp [Value.ownBlock] at hq; omega
theorem cell_of_alloc2 (w : World) (x y : Value) (t : TypeId) : (w.alloc (.cells #[x, y] t)).cell? ⟨w.heap.size, 0, none⟩ = some x ∧ (w.alloc (.cells #[x, y] t)).cell? ⟨w.heap.size, 1, none⟩ = some y := by
  simp
/-- 'copy(d, s)' where d is the call's own row, and s a slice that reads, no longer than it. -/
theorem own_setRow {w : World} {base g n cap : Nat} {l l2 : List Int} {cur : Array Value} (hb : base ≤ g) (hg : w.heap[g]? = some (.cells cur 3 (0, 0))) (hnc : n ≤ cap) (hcm : cap ≤ maxLen) (hsz : cur.size = cap) (hxs : cur.toList.take n = ivals l) (hl : l.length = n) (hk : l2.length ≤ n) :
    (w.setRow g (cur.toList.take 0 ++ (ivals l2 ++ cur.toList.drop (0 + (ivals l2).length))).toArray).ownsRow base 3 1 (.slice (some ⟨g, 0, none⟩) n cap) n (ivals (l2 ++ l.drop l2.length)) := by
  refine ⟨by rw [ivals_length, List.length_append, List.length_drop]; omega, .inr ⟨g, cap, _, rfl, hb, setRow_heap w g cur _ _ _ hg, hnc, hcm, ?_, ?_⟩⟩
  · simp [ivals_length]; omega
  · simp only [List.take_zero, List.nil_append, Nat.zero_add, ivals_length, Nat.mul_one]
    rw [List.take_append, ivals_length, List.take_of_length_le (by rw [ivals_length]; exact hk), ivals_append]
    congr 1
    rw [← List.drop_take, hxs]
    simp [ivals]
set_option maxRecDepth 100000 in
theorem wpList_copyI {ops : Array Oper} {rest : List Oper} {o : Oper} {a : Act} {Q : Exit → Act → World → Prop} (w : World) (hgd : o.guard = none) (d s : Operand)
    (ho : o.op = .call { callee := .builtin .copy, args := #[d, s], argTypes := #[49, 49] })
    (W0 : World) (base : Nat) (A : Option Addr) (n c : Nat) (l : List Int) (A2 : Option Addr) (k2 c2 : Nat) (l2 : List Int) (B2 : Nat) (hown : w.ownsRow base 3 1 (.slice A n c) n (ivals l)) (hbel : Below base W0 w)
    (h2 : RdI w B2 A2 k2 l2) (hk : k2 ≤ n) (hd : a.eval d = .slice A n c) (hs : a.eval s = .slice A2 k2 c2)
    (h : ∀ w', w'.ownsRow base 3 1 (.slice A n c) n (ivals (l2 ++ l.drop k2)) → Below base W0 w' → wpList Tryz.prog ops Q rest (a.put o.dst (goInt k2)) w') :
    wpList Tryz.prog ops Q (o :: rest) a w := by
  obtain ⟨i0, hi, hz0, hz1, hz2⟩ := info_parts int_info
  have hlen := h2.len
  have hsz1 : (Tryz.prog.info? 3).map (·.size) = some 1 := by rw [hi]; simp [hz1]
  have hll : l.length = n := by have := own_len hown; rwa [ivals_length] at this
  rcases Nat.eq_zero_or_pos k2 with h0 | h0
  · subst h0
    have hl2 : l2 = [] := List.length_eq_zero_iff.1 hlen
    subst hl2
    refine wpList_copy_nothing hgd d s 49 49 ho 3 Tryz.underlying49 hsz1 A A2 n c 0 c2 hd hs (Nat.zero_min _) ?_
    exact h w (by simpa using hown) hbel
  · rcases hown.2 with ⟨hv, hn0⟩ | ⟨g, cap, cur, hv, hbg, hg, hnc, hcm, hcs, hxs⟩
    · omega
    · have hA : A = some ⟨g, 0, none⟩ := by injection hv
      have hcap : c = cap := by injection hv
      subst hA
      subst hcap
      simp only [Nat.mul_one] at hcs hxs
      obtain ⟨b2, off2, hA2, _, _⟩ := h2.at_ h0
      subst hA2
      refine wpList_copy_own hgd d s 49 49 ho 3 Tryz.underlying49 hsz1 g 0 n c ⟨b2, off2, none⟩ k2 c2 hd hs cur 3 hg (ivals l2) ?_ ?_ ?_ (ivals_one _) ?_
      · rw [ivals_length, hlen]; exact (Nat.min_eq_left hk).symm
      · intro j u hj
        have hj2 : j < k2 := by
          rcases Nat.lt_or_ge j k2 with q | q
          · exact q
          · rw [List.getElem?_eq_none (by rw [ivals_length]; omega)] at hj
            cases hj
        obtain ⟨b, off, hA, _, hc⟩ := h2.at_ hj2
        obtain ⟨rfl, rfl⟩ : b2 = b ∧ off2 = off := by simpa using hA
        rw [ivals_get (by omega)] at hj
        rw [← hj, ← hc]
        congr 1
        unfold Addr.add
        split
        · rename_i q; subst q; rfl
        · rfl
      · rw [ivals_length]; omega
      · have := own_setRow (l2 := l2) hbg hg hnc hcm hcs hxs hll (by omega)
        rw [hlen] at this
        have e : (ivals l2).length = k2 := by rw [ivals_length, hlen]
        rw [e]
        refine h _ ?_ (below_setRow hbel hbg _)
        rw [e] at this
        exact this
/-- Two at once. -/
theorem wpList_push2 {ops : Array Oper} {rest : List Oper} {o : Oper} {a : Act} {Q : Exit → Act → World → Prop} (w : World) (hgd : o.guard = none) (s x : Operand)
    (ho : o.op = .call { callee := .builtin .append, args := #[s, x], argTypes := #[49, 49] })
    (W0 : World) (base : Nat) (A : Option Addr) (k c : Nat) (l : List Int) (y z : Int) (hown : w.ownsRow base 3 1 (.slice A k c) k (ivals l)) (hbel : Below base W0 w) (hbase : base ≤ w.heap.size)
    (hk : k + 2 ≤ 17592186044415) (hs : a.eval s = .slice A k c) (hx : a.eval x = .slice (some ⟨w.heap.size, 0, none⟩) 2 2)
    (h : ∀ g cap w', w'.ownsRow base 3 1 (.slice (some ⟨g, 0, none⟩) (k + 2) cap) (k + 2) (ivals (l ++ [y, z])) → Below base W0 w' → wpList Tryz.prog ops Q rest (a.put o.dst (.slice (some ⟨g, 0, none⟩) (k + 2) cap)) w') :
    wpList Tryz.prog ops Q (o :: rest) a (w.alloc (.cells #[.int .i64 y, .int .i64 z] 3)) := by
  obtain ⟨i0, hi, hz0, hz1, hz2⟩ := info_parts int_info
  refine wpList_append_lies _ hgd s x 49 ho base 3 i0 (.int .i64 0) 1 8 Tryz.underlying49 hi hz0 hz1 hz2 rfl (by omega) _ _ _ hs (hown.alloc _) ⟨w.heap.size, 0, none⟩ 2 2 [.int .i64 y, .int .i64 z] hx rfl ?_ ?_ (by omega) ?_ ?_ ?_ (w.heap.size + 1) (by simp) ?_
  · intro j u hj
    match j, hj with
    | 0, hj => simp at hj; subst hj; simp [Addr.add]
    | 1, hj => simp at hj; subst hj; simp [Addr.add]
  · intro u hu
    simp at hu
    rcases hu with rfl | rfl <;> rfl
  · unfold maxLen; omega
  · omega
  · simp; omega
  · intro g cap w' ho' hg _ _
    refine h g cap w' (by rw [ivals_append]; exact ho') ?_
    refine (hbel.alloc hbase _).grown hg (by simp; omega) ?_
    intro q hq
    rcases hown.2 with ⟨h1, h2⟩ | ⟨g', cap', cur, h1, h2, _⟩
    · rw [h1] at hq; simp [Value.ownBlock] at hq
    · rw [h1] at hq; simp [Value.ownBlock] at hq; omega
theorem own_none {w : World} {base : Nat} {e : TypeId} {A : Option Addr} {n c : Nat} {xs : List Value} (h : w.ownsRow base e 1 (.slice A n c) n xs) (hA : A = none) : c = 0 := by
  subst hA
  rcases h.2 with ⟨h1, _⟩ | ⟨g, cap, cur, h1, _⟩
  · injection h1
  · cases h1
end Go.Proofs.YtjdpgakkphdjlaaGreatDoor
/- Slices of slices of ints: rows that read as lists of lists; 'append(v, x)' of one slice to one's own row of slices. -/
namespace Go.Proofs.YtjdpgakkphdjlaaGreatDoor
open Go.RowKit

/-- A value that reads as the list l. -/
def RowV (w : World) (B : Nat) (v : Value) (l : List Int) : Prop := ∃ A c, v = .slice A l.length c ∧ (l.length ≤ c ∧ (A = none → c = 0)) ∧ RdI w B A l.length l
/-- Values that read as the lists ls. -/
def RowsV (w : World) (B : Nat) : List Value → List (List Int) → Prop
  | [], [] => True
  | v :: vs, l :: ls => RowV w B v l ∧ RowsV w B vs ls
  | _, _ => False
section
variable {w w' : World} {B B' : Nat}
theorem RowV.more {v : Value} {l : List Int} (h : RowV w B v l) (hB : B ≤ B') : RowV w B' v l := by
  obtain ⟨A, c, e, hc, hr⟩ := h
  exact ⟨A, c, e, hc, hr.more hB⟩
theorem RowV.below {v : Value} {l : List Int} (h : RowV w B v l) (hb : Below B w w') : RowV w' B v l := by
  obtain ⟨A, c, e, hc, hr⟩ := h
  exact ⟨A, c, e, hc, hr.below hb⟩
theorem RowsV.more : ∀ {vs : List Value} {ls : List (List Int)}, RowsV w B vs ls → B ≤ B' → RowsV w B' vs ls
  | [], [], _, _ => trivial
  | _ :: _, _ :: _, h, hB => ⟨h.1.more hB, RowsV.more h.2 hB⟩
  | [], _ :: _, h, _ => h.elim
  | _ :: _, [], h, _ => h.elim
theorem RowsV.below : ∀ {vs : List Value} {ls : List (List Int)}, RowsV w B vs ls → Below B w w' → RowsV w' B vs ls
  | [], [], _, _ => trivial
  | _ :: _, _ :: _, h, hb => ⟨h.1.below hb, RowsV.below h.2 hb⟩
  | [], _ :: _, h, _ => h.elim
  | _ :: _, [], h, _ => h.elim
theorem RowsV.on {vs : List Value} {ls : List (List Int)} (h : RowsV w w.heap.size vs ls) (hb : Below w.heap.size w w') : RowsV w' w'.heap.size vs ls := (h.below hb).more hb.size
theorem RowsV.len : ∀ {vs : List Value} {ls : List (List Int)}, RowsV w B vs ls → vs.length = ls.length
  | [], [], _ => rfl
  | _ :: _, _ :: _, h => by simp [RowsV.len h.2]
  | [], _ :: _, h => h.elim
  | _ :: _, [], h => h.elim
theorem RowsV.get : ∀ {vs : List Value} {ls : List (List Int)} {i : Nat}, RowsV w B vs ls → i < ls.length → ∃ v, vs[i]? = some v ∧ RowV w B v (ls.getD i [])
  | v :: _, _ :: _, 0, h, _ => ⟨v, rfl, h.1⟩
  | _ :: vs, _ :: ls, i + 1, h, hi => by
    have := RowsV.get (i := i) h.2 (by simpa using hi)
    simpa using this
  | [], [], _, _, hi => by simp at hi
  | [], _ :: _, _, h, _ => h.elim
  | _ :: _, [], _, h, _ => h.elim
theorem RowsV.snoc : ∀ {vs : List Value} {ls : List (List Int)} {v : Value} {l : List Int}, RowsV w B vs ls → RowV w B v l → RowsV w B (vs ++ [v]) (ls ++ [l])
  | [], [], _, _, _, h => ⟨h, trivial⟩
  | _ :: _, _ :: _, _, _, h, hv => ⟨h.1, RowsV.snoc h.2 hv⟩
  | [], _ :: _, _, _, h, _ => h.elim
  | _ :: _, [], _, _, h, _ => h.elim
theorem RowsV.one : ∀ {vs : List Value} {ls : List (List Int)}, RowsV w B vs ls → ∀ u ∈ vs, u.oneCell' = true
  | [], [], _, _, hu => by cases hu
  | v :: vs, _ :: _, h, u, hu => by
    rcases List.mem_cons.1 hu with rfl | hu
    · obtain ⟨A, c, rfl, _, _⟩ := h.1
      rfl
    · exact RowsV.one h.2 u hu
  | [], _ :: _, h, _, _ => h.elim
  | _ :: _, [], h, _, _ => h.elim
end
theorem ints_info : (Tryz.prog.info? 49).map (fun i => (i.zero, i.size, i.bytes)) = some (some (.slice none 0 0), 1, 24) := by kernel_rfl
/-- A slice of slices that reads as lists of lists. -/
def RdR (w : World) (B : Nat) (A : Option Addr) (n : Nat) (ls : List (List Int)) : Prop := ∃ vs, Rd w B A n vs ∧ RowsV w B vs ls
section
variable {w w' : World} {B B' n : Nat} {A : Option Addr} {ls : List (List Int)}
theorem RdR.len (h : RdR w B A n ls) : ls.length = n := by
  obtain ⟨vs, h1, h2⟩ := h
  rw [← h2.len]; exact h1.1
theorem RdR.more (h : RdR w B A n ls) (hB : B ≤ B') : RdR w B' A n ls := by
  obtain ⟨vs, h1, h2⟩ := h
  exact ⟨vs, h1.more hB, h2.more hB⟩
theorem RdR.below (h : RdR w B A n ls) (hb : Below B w w') : RdR w' B A n ls := by
  obtain ⟨vs, h1, h2⟩ := h
  exact ⟨vs, h1.below hb, h2.below hb⟩
theorem RdR.on (h : RdR w w.heap.size A n ls) (hb : Below w.heap.size w w') : RdR w' w'.heap.size A n ls := (h.below hb).more hb.size
theorem RdR.at_ {k : Nat} (h : RdR w B A n ls) (hk : k < n) : ∃ b off A2 c2, A = some ⟨b, off, none⟩ ∧ b < B ∧ w.cell? ⟨b, off + k, none⟩ = some (.slice A2 (ls.getD k []).length c2) ∧ (ls.getD k []).length ≤ c2 ∧ RdI w B A2 (ls.getD k []).length (ls.getD k []) := by
  have hl := h.len
  obtain ⟨vs, h1, h2⟩ := h
  obtain ⟨b, off, u, e, hb, hu, hc⟩ := h1.at_ hk
  obtain ⟨v, hv, A2, c2, rfl, hle, hr⟩ := h2.get (i := k) (by omega)
  rw [hv] at hu
  have hu' := Option.some.inj hu
  subst hu'
  exact ⟨b, off, A2, c2, e, hb, hc, hle.1, hr⟩
/-- The same, of a nil one besides that it has no room. -/
theorem RdR.at2 {k : Nat} (h : RdR w B A n ls) (hk : k < n) : ∃ b off A2 c2, A = some ⟨b, off, none⟩ ∧ b < B ∧ w.cell? ⟨b, off + k, none⟩ = some (.slice A2 (ls.getD k []).length c2) ∧ (A2 = none → c2 = 0) ∧ RdI w B A2 (ls.getD k []).length (ls.getD k []) := by
  have hl := h.len
  obtain ⟨vs, h1, h2⟩ := h
  obtain ⟨b, off, u, e, hb, hu, hc⟩ := h1.at_ hk
  obtain ⟨v, hv, A2, c2, rfl, hle, hr⟩ := h2.get (i := k) (by omega)
  rw [hv] at hu
  have hu' := Option.some.inj hu
  subst hu'
  exact ⟨b, off, A2, c2, e, hb, hc, hle.2, hr⟩
/-- .. as a value that reads. -/
theorem RdR.at3 {k : Nat} (h : RdR w B A n ls) (hk : k < n) : ∃ b off A2 c2, A = some ⟨b, off, none⟩ ∧ b < B ∧ w.cell? ⟨b, off + k, none⟩ = some (.slice A2 (ls.getD k []).length c2) ∧ RowV w B (.slice A2 (ls.getD k []).length c2) (ls.getD k []) := by
  have hl := h.len
  obtain ⟨vs, h1, h2⟩ := h
  obtain ⟨b, off, u, e, hb, hu, hc⟩ := h1.at_ hk
  obtain ⟨v, hv, A2, c2, rfl, hle, hr⟩ := h2.get (i := k) (by omega)
  rw [hv] at hu
  have hu' := Option.some.inj hu
  subst hu'
  exact ⟨b, off, A2, c2, e, hb, hc, A2, c2, rfl, hle, hr⟩
theorem RdR.own {base c : Nat} {vs : List Value} (h : w.ownsRow base 49 1 (.slice A n c) n vs) (h2 : RowsV w w.heap.size vs ls) : RdR w w.heap.size A n ls := ⟨vs, Rd.own h, h2⟩
end
/-! ### Slices of the call's own in a row of the call's own. -/
/-- A value that is the call's own row of the list l. -/
def OwnV (w : World) (base : Nat) (v : Value) (l : List Int) : Prop := ∃ A c, v = .slice A l.length c ∧ w.ownsRow base 3 1 (.slice A l.length c) l.length (ivals l)
def OwnsV (w : World) (base : Nat) : List Value → List (List Int) → Prop
  | [], [] => True
  | v :: vs, l :: ls => OwnV w base v l ∧ OwnsV w base vs ls
  | _, _ => False
section
variable {w w' : World} {base : Nat}
theorem OwnV.below {v : Value} {l : List Int} (h : OwnV w base v l) (hb : Below w.heap.size w w') : OwnV w' base v l := by
  obtain ⟨A, c, e, ho⟩ := h
  exact ⟨A, c, e, own_below' ho hb⟩
/-- A row of slices grows: the rows of ints are as they were, their blocks being of another type. -/
theorem ints_apart {v u : Value} {n k : Nat} {xs : List Value} {l : List Int} (ho : w.ownsRow base 49 1 v n xs) (hi : w.ownsRow base 3 1 u k (ivals l)) : u.ownBlock = none ∨ v.ownBlock = none ∨ u.ownBlock ≠ v.ownBlock := by
  rcases ho.2 with ⟨h1, _⟩ | ⟨g, cap, cur, h1, _, hg, _⟩
  · right; left; rw [h1]; rfl
  · rcases hi.2 with ⟨h2, _⟩ | ⟨g', cap', cur', h2, _, hg', _⟩
    · left; rw [h2]; rfl
    · right; right
      rw [h1, h2]
      intro e
      have e2 : g' = g := by simpa [Value.ownBlock] using e
      subst e2
      rw [hg] at hg'
      have := Option.some.inj hg'
      injection this with _ h3 _
      exact absurd h3 (by decide)
theorem OwnV.grown {v u : Value} {n : Nat} {xs : List Value} {l : List Int} (ho : w.ownsRow base 49 1 v n xs) (h : OwnV w base u l) (hg : w.grownBy w' v.ownBlock) : OwnV w' base u l := by
  obtain ⟨A, c, e, hi⟩ := h
  refine ⟨A, c, e, ?_⟩
  rcases ints_apart ho hi with h1 | h1 | h1
  · rcases hi.2 with ⟨h2, h3⟩ | ⟨g', cap', cur', h2, _⟩
    · exact ⟨hi.1, .inl ⟨h2, h3⟩⟩
    · exact hi.kept hg (.inl h1)
  · by_cases h2 : (Value.slice A l.length c).ownBlock = none
    · exact hi.kept hg (.inl h2)
    · exact hi.kept hg (.inr (by rw [h1]; exact h2))
  · exact hi.kept hg (.inr h1)
theorem OwnV.alloc {u : Value} {l : List Int} (h : OwnV w base u l) (o : Obj) : OwnV (w.alloc o) base u l := by
  obtain ⟨A, c, e, hi⟩ := h
  exact ⟨A, c, e, hi.alloc o⟩
theorem OwnV.rows {u : Value} {l : List Int} (h : OwnV w base u l) : RowV w w.heap.size u l := by
  obtain ⟨A, c, e, hi⟩ := h
  exact ⟨A, c, e, ⟨own_cap hi, own_none hi⟩, RdI.own hi⟩
theorem OwnsV.map (f : ∀ v l, OwnV w base v l → OwnV w' base v l) : ∀ {vs : List Value} {ls : List (List Int)}, OwnsV w base vs ls → OwnsV w' base vs ls
  | [], [], _ => trivial
  | _ :: _, _ :: _, h => ⟨f _ _ h.1, OwnsV.map f h.2⟩
  | [], _ :: _, h => h.elim
  | _ :: _, [], h => h.elim
theorem OwnsV.below {vs : List Value} {ls : List (List Int)} (h : OwnsV w base vs ls) (hb : Below w.heap.size w w') : OwnsV w' base vs ls := h.map fun _ _ x => x.below hb
theorem OwnsV.alloc {vs : List Value} {ls : List (List Int)} (h : OwnsV w base vs ls) (o : Obj) : OwnsV (w.alloc o) base vs ls := h.map fun _ _ x => x.alloc o
theorem OwnsV.grown {v : Value} {n : Nat} {xs vs : List Value} {ls : List (List Int)} (ho : w.ownsRow base 49 1 v n xs) (h : OwnsV w base vs ls) (hg : w.grownBy w' v.ownBlock) : OwnsV w' base vs ls := h.map fun _ _ x => x.grown ho hg
theorem OwnsV.rows : ∀ {vs : List Value} {ls : List (List Int)}, OwnsV w base vs ls → RowsV w w.heap.size vs ls
  | [], [], _ => trivial
  | _ :: _, _ :: _, h => ⟨h.1.rows, OwnsV.rows h.2⟩
  | [], _ :: _, h => h.elim
  | _ :: _, [], h => h.elim
theorem OwnsV.snoc : ∀ {vs : List Value} {ls : List (List Int)} {v : Value} {l : List Int}, OwnsV w base vs ls → OwnV w base v l → OwnsV w base (vs ++ [v]) (ls ++ [l])
  | [], [], _, _, _, h => ⟨h, trivial⟩
  | _ :: _, _ :: _, _, _, h, hv => ⟨h.1, OwnsV.snoc h.2 hv⟩
  | [], _ :: _, _, _, h, _ => h.elim
  | _ :: _, [], _, _, h, _ => h.elim
theorem OwnsV.more {base' : Nat} (hb : base' ≤ base) : ∀ {vs : List Value} {ls : List (List Int)}, OwnsV w base vs ls → OwnsV w base' vs ls
  | [], [], _ => trivial
  | _ :: _, _ :: _, h => ⟨by obtain ⟨A, c, e, hi⟩ := h.1; exact ⟨A, c, e, own_more hi hb⟩, OwnsV.more hb h.2⟩
  | [], _ :: _, h => h.elim
  | _ :: _, [], h => h.elim
end
end Go.Proofs.YtjdpgakkphdjlaaGreatDoor
