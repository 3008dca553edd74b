/- Two lists gathered in two variables: 'x, y = append(x, ..), append(y, ..)' in a round of a range over a function. No function of the program is named here. -/
import Derived.Test.YtmohilfebgahoaaGreatDoorRound
import Derived.WalkKit
import Derived.Maps.AppendAt
namespace Go.Proofs.YtmohilfebgahoaaGreatDoor
open Go.RowKit

/-- Variables B1 and B2 hold u1 and u2; the slices v1 and v2 own their numbers, from block n₁ on, apart from each other. -/
def Two (n₁ B1 B2 k1 k2 : Nat) (u1 u2 v1 v2 : Value) (l1 l2 : List Int) (W : World) : Prop :=
  Boxed W B1 22 u1 ∧ Boxed W B2 22 u2 ∧ W.ownsRow n₁ 3 1 v1 k1 (ivals l1) ∧ W.ownsRow n₁ 3 1 v2 k2 (ivals l2) ∧
  (∀ g, v1.ownBlock = some g → v2.ownBlock ≠ some g) ∧ n₁ ≤ W.heap.size ∧ B1 < n₁ ∧ B2 < n₁ ∧ B1 ≠ B2
/-- What the gathering keeps: all below n₀; all that is no cells; below n₁ all but the two variables. -/
def Keeps3 (n₀ n₁ B1 B2 : Nat) (W W' : World) : Prop := Below n₀ W W' ∧ KeepsOthers W W' ∧ ∀ k, k < n₁ → k ≠ B1 → k ≠ B2 → W'.heap[k]? = W.heap[k]?
section
variable {n₀ n₁ B1 B2 k1 k2 : Nat} {u1 u2 v1 v2 : Value} {l1 l2 : List Int} {W W' : World}
theorem Keeps3.refl (W : World) : Keeps3 n₀ n₁ B1 B2 W W := ⟨Below.refl _ _, KeepsOthers.refl _, fun _ _ _ _ => rfl⟩
theorem Keeps3.trans {X Y Z : World} (h : Keeps3 n₀ n₁ B1 B2 X Y) (k : Keeps3 n₀ n₁ B1 B2 Y Z) : Keeps3 n₀ n₁ B1 B2 X Z := ⟨h.1.trans k.1, h.2.1.trans k.2.1, fun q a b c => (k.2.2 q a b c).trans (h.2.2 q a b c)⟩
theorem Keeps3.drew (W : World) : Keeps3 n₀ n₁ B1 B2 W W.drew := ⟨(Below.refl _ _).drew, KeepsOthers.drew _, fun _ _ _ _ => rfl⟩
theorem Keeps3.drewN (W : World) (q : Nat) : Keeps3 n₀ n₁ B1 B2 W (W.drewN q) := ⟨below_drewN' (Below.refl _ _) q, ⟨Nat.le_refl _, fun _ _ h _ => h⟩, fun _ _ _ _ => rfl⟩
theorem Keeps3.alloc (W : World) (o : Obj) (h0 : n₀ ≤ W.heap.size) (h1 : n₁ ≤ W.heap.size) : Keeps3 n₀ n₁ B1 B2 W (W.alloc o) :=
  ⟨(Below.refl _ _).alloc h0 o, KeepsOthers.alloc _ _, fun k hk _ _ => (World.grownBy_alloc W o none).block k (by omega) (by simp)⟩
theorem Keeps3.store (W : World) (v : Value) {B : Nat} (h0 : n₀ ≤ B) (hB : B = B1 ∨ B = B2) : Keeps3 n₀ n₁ B1 B2 W (W.setCell ⟨B, 0, none⟩ v) :=
  ⟨(Below.refl _ _).setCell (p := ⟨B, 0, none⟩) h0 v, KeepsOthers.setCell _ _ _, fun k _ h1 h2 => heap_setCell_other W ⟨B, 0, none⟩ k v (fun e => by
    have e' : k = B := by first | exact e | exact e.symm
    rcases hB with rfl | rfl
    · exact h1 e'
    · exact h2 e')⟩
theorem Keeps3.grown {v : Value} {k : Nat} {xs : List Value} {e : TypeId} (hr : W.ownsRow n₁ e 1 v k xs) (h0 : n₀ ≤ n₁) (h1 : n₁ ≤ W.heap.size) (hg : W.grownBy W' v.ownBlock) : Keeps3 n₀ n₁ B1 B2 W W' :=
  ⟨(Below.refl _ _).grown hg (by omega) (fun q e => by have := (hr.lt q e).1; omega), KeepsOthers.of_grownBy hg (fun j o ej hj => by
    rcases hr.2 with ⟨rfl, _⟩ | ⟨g, cap, cur, rfl, _, hgb, _⟩
    · simp [Value.ownBlock] at ej
    · obtain rfl : g = j := by simpa [Value.ownBlock] using ej
      rw [hgb] at hj; cases hj; rfl), fun q hq _ _ => hg.block q (by omega) (fun e => by have := (hr.lt q e.symm).1; omega)⟩
theorem Two.drew (h : Two n₁ B1 B2 k1 k2 u1 u2 v1 v2 l1 l2 W) : Two n₁ B1 B2 k1 k2 u1 u2 v1 v2 l1 l2 W.drew := h
theorem Two.drewN (h : Two n₁ B1 B2 k1 k2 u1 u2 v1 v2 l1 l2 W) (q : Nat) : Two n₁ B1 B2 k1 k2 u1 u2 v1 v2 l1 l2 (W.drewN q) := h
theorem Two.alloc (h : Two n₁ B1 B2 k1 k2 u1 u2 v1 v2 l1 l2 W) (o : Obj) : Two n₁ B1 B2 k1 k2 u1 u2 v1 v2 l1 l2 (W.alloc o) := by
  obtain ⟨b1, b2, r1, r2, ha, hn, h1, h2, hne⟩ := h
  exact ⟨b1.alloc o, b2.alloc o, r1.alloc o, r2.alloc o, ha, by simp; omega, h1, h2, hne⟩
theorem row_kept {v v' : Value} {k : Nat} {xs : List Value} {e : TypeId} (hr : W.ownsRow n₁ e 1 v k xs) (hg : W.grownBy W' v'.ownBlock) (ha : ∀ g, v'.ownBlock = some g → v.ownBlock ≠ some g) : W'.ownsRow n₁ e 1 v k xs := by
  cases hv : v'.ownBlock with
  | none =>
    rw [hv] at hg
    rcases hr.2 with h0 | ⟨g, cap, cur, hw, hb, hh, r⟩
    · exact ⟨hr.1, .inl h0⟩
    · exact ⟨hr.1, .inr ⟨g, cap, cur, hw, hb, (hg.block g (Array.getElem?_eq_some_iff.1 hh).1 (by simp)).trans hh, r⟩⟩
  | some g => exact hr.kept hg (.inr (by rw [hv]; exact ha g hv))
theorem box_kept {B : Nat} {t e : TypeId} {u v : Value} {k : Nat} {xs : List Value} (hb : Boxed W B t u) (hB : B < n₁) (hr : W.ownsRow n₁ e 1 v k xs) (hg : W.grownBy W' v.ownBlock) : Boxed W' B t u :=
  hb.kept hg fun e' => by have := (hr.lt B e'.symm).1; omega
theorem Two.left {g cap k' : Nat} {l' : List Int} (h : Two n₁ B1 B2 k1 k2 u1 u2 v1 v2 l1 l2 W) (ho : W'.ownsRow n₁ 3 1 (.slice (some ⟨g, 0, none⟩) k' cap) k' (ivals l')) (hg : W.grownBy W' v1.ownBlock) (hat : v1.ownBlock = some g ∨ g = W.heap.size) :
    Two n₁ B1 B2 k' k2 u1 u2 (.slice (some ⟨g, 0, none⟩) k' cap) v2 l' l2 W' := by
  obtain ⟨b1, b2, r1, r2, ha, hn, h1, h2, hne⟩ := h
  refine ⟨box_kept b1 h1 r1 hg, box_kept b2 h2 r1 hg, ho, row_kept r2 hg ha, fun q hq => ?_, Nat.le_trans hn hg.size, h1, h2, hne⟩
  obtain rfl : g = q := by simpa [Value.ownBlock] using hq
  rcases hat with h | rfl
  · exact ha _ h
  · intro h
    have := (r2.lt _ h).2; omega
theorem Two.right {g cap k' : Nat} {l' : List Int} (h : Two n₁ B1 B2 k1 k2 u1 u2 v1 v2 l1 l2 W) (ho : W'.ownsRow n₁ 3 1 (.slice (some ⟨g, 0, none⟩) k' cap) k' (ivals l')) (hg : W.grownBy W' v2.ownBlock) (hat : v2.ownBlock = some g ∨ g = W.heap.size) :
    Two n₁ B1 B2 k1 k' u1 u2 v1 (.slice (some ⟨g, 0, none⟩) k' cap) l1 l' W' := by
  obtain ⟨b1, b2, r1, r2, ha, hn, h1, h2, hne⟩ := h
  refine ⟨box_kept b1 h1 r2 hg, box_kept b2 h2 r2 hg, row_kept r1 hg (fun q hq hv => ha q hv hq), ho, fun q hq hx => ?_, Nat.le_trans hn hg.size, h1, h2, hne⟩
  obtain rfl : g = q := by simpa [Value.ownBlock] using hx
  rcases hat with h | rfl
  · exact ha _ hq h
  · have := (r1.lt _ hq).2; omega
theorem Two.store1 (h : Two n₁ B1 B2 k1 k2 u1 u2 v1 v2 l1 l2 W) (u : Value) : Two n₁ B1 B2 k1 k2 u u2 v1 v2 l1 l2 (W.setCell ⟨B1, 0, none⟩ u) := by
  obtain ⟨b1, b2, r1, r2, ha, hn, h1, h2, hne⟩ := h
  exact ⟨b1.set u, b2.other (fun e => hne e.symm) u, own_setFar r1 (fun e => by have := (r1.lt _ e).1; simp at this; omega) u, own_setFar r2 (fun e => by have := (r2.lt _ e).1; simp at this; omega) u, ha, by simpa using hn, h1, h2, hne⟩
theorem Two.store2 (h : Two n₁ B1 B2 k1 k2 u1 u2 v1 v2 l1 l2 W) (u : Value) : Two n₁ B1 B2 k1 k2 u1 u v1 v2 l1 l2 (W.setCell ⟨B2, 0, none⟩ u) := by
  obtain ⟨b1, b2, r1, r2, ha, hn, h1, h2, hne⟩ := h
  exact ⟨b1.other hne u, b2.set u, own_setFar r1 (fun e => by have := (r1.lt _ e).1; simp at this; omega) u, own_setFar r2 (fun e => by have := (r2.lt _ e).1; simp at this; omega) u, ha, by simpa using hn, h1, h2, hne⟩
/-- The law of a range over a function asks that its invariant abide the turn of blocks that are no cells. -/
theorem two_own {β : Type} (n₁ B1 B2 : Nat) (k1 k2 : β → Nat) (f1 f2 : β → List Int) : Own (fun s W => ∃ v1 v2, Two n₁ B1 B2 (k1 s) (k2 s) v1 v2 v1 v2 (f1 s) (f2 s) W) := by
  rintro s X Y row ⟨v1, v2, b1, b2, r1, r2, ha, hn, h1, h2, hne⟩ hg hrow
  have hb : ∀ {B t v}, Boxed X B t v → Boxed Y B t v := fun {B t v} hb => hb.kept hg (fun e' => by
    obtain ⟨o, ho, hc⟩ := hrow B e'.symm
    rw [show X.heap[B]? = _ from hb] at ho; cases ho; cases hc)
  have hr : ∀ {v k xs}, X.ownsRow n₁ 3 1 v k xs → Y.ownsRow n₁ 3 1 v k xs := fun {v k xs} hr => hr.kept hg (by
    rcases hr.2 with ⟨rfl, _⟩ | ⟨g, cap, cur, rfl, _, hgb, _⟩
    · exact .inl rfl
    · refine .inr fun e' => ?_
      obtain ⟨o, ho, hc⟩ := hrow g (by simpa [Value.ownBlock] using e'.symm)
      rw [hgb] at ho; cases ho; cases hc)
  exact ⟨v1, v2, hb b1, hb b2, hr r1, hr r2, ha, Nat.le_trans hn hg.size, h1, h2, hne⟩
theorem keeps3_own {β : Type} (n₀ n₁ B1 B2 B : Nat) (w₀ : World) (h0 : n₀ ≤ w₀.heap.size) (hB : w₀.heap.size ≤ B) (hB1 : n₁ ≤ w₀.heap.size) : OwnFrom B (fun (_ : β) W => Keeps3 n₀ n₁ B1 B2 w₀ W) := by
  rintro s X Y row ⟨hb, ho, hk⟩ hg hrow
  refine ⟨hb.grown hg (Nat.le_trans h0 hb.size) (fun k e => by have := (hrow k e).1; omega), ⟨Nat.le_trans ho.size hg.size, fun k o h1 h2 => ?_⟩, fun k h1 h2 h3 => ?_⟩
  · have hX := ho.same k o h1 h2
    refine (hg.block k (Array.getElem?_eq_some_iff.1 hX).1 (fun e => ?_)).trans hX
    have h3 := (hrow k e.symm).1
    have h4 := (Array.getElem?_eq_some_iff.1 h1).1
    omega
  · have h4 := hb.size
    refine (hg.block k (by omega) (fun e => ?_)).trans (hk k h1 h2 h3)
    have := (hrow k e.symm).1; omega
end
/-- An append to the first list, and to the second one, at a step of a region. -/
theorem step_two1 {ops : Array Oper} {o : Oper} {a : Act} {K : Act → World → Prop} {Q : Exit → Act → World → Prop} {E : Prop} (W : World) (hgd : o.guard = none) (s x : Operand)
    (ho : o.op = .call { callee := .builtin .append, args := #[s, x], argTypes := #[22, 22] })
    {n₀ n₁ B1 B2 k1 k2 : Nat} {u1 u2 v1 v2 : Value} {l1 l2 : List Int} (h : Two n₁ B1 B2 k1 k2 u1 u2 v1 v2 l1 l2 W) (h0 : n₀ ≤ n₁) (y : Int) (g0 : Nat)
    (hcell : W.cell? ⟨g0, 0, none⟩ = some (.int .i64 y)) (hk : k1 + 1 ≤ 17592186044415) (hs : a.eval s = v1) (hx : a.eval x = .slice (some ⟨g0, 0, none⟩) 1 1)
    (hc : ∀ g cap w', Two n₁ B1 B2 (k1 + 1) k2 u1 u2 (.slice (some ⟨g, 0, none⟩) (k1 + 1) cap) v2 (l1 ++ [y]) l2 w' → Keeps3 n₀ n₁ B1 B2 W w' → (∀ q, q < W.heap.size → v1.ownBlock ≠ some q → w'.heap[q]? = W.heap[q]?) → K (a.put o.dst (.slice (some ⟨g, 0, none⟩) (k1 + 1) cap)) w') :
    if Region.wanted o (yielded ops a.tmps) = true then Oper.wp Tryz.prog o a W K Q else E := by
  obtain ⟨i0, hi, hz0, hz1, hz2⟩ := info_parts int_info
  refine step_append_lies _ hgd s x 22 ho n₁ 3 i0 (.int .i64 0) 1 8 Tryz.underlying22 hi hz0 hz1 hz2 rfl (by omega) _ _ _ hs h.2.2.1 ⟨g0, 0, none⟩ 1 1 [.int .i64 y] hx rfl ?_ ?_ (by omega) ?_ ?_ h.2.2.2.2.2.1 _ rfl ?_
  · intro j u hj
    match j, hj with
    | 0, hj => simp at hj; subst hj; simpa [Addr.add] using hcell
  · intro u hu
    simp at hu
    subst hu
    rfl
  · unfold maxLen; omega
  · omega
  · intro g cap w' ho' hg hat _
    refine hc g cap w' (h.left (by rw [ivals_append]; exact ho') hg hat) (Keeps3.grown h.2.2.1 h0 h.2.2.2.2.2.1 hg) fun q hq hne => hg.block q hq (fun e => hne e.symm)
theorem step_two2 {ops : Array Oper} {o : Oper} {a : Act} {K : Act → World → Prop} {Q : Exit → Act → World → Prop} {E : Prop} (W : World) (hgd : o.guard = none) (s x : Operand)
    (ho : o.op = .call { callee := .builtin .append, args := #[s, x], argTypes := #[22, 22] })
    {n₀ n₁ B1 B2 k1 k2 : Nat} {u1 u2 v1 v2 : Value} {l1 l2 : List Int} (h : Two n₁ B1 B2 k1 k2 u1 u2 v1 v2 l1 l2 W) (h0 : n₀ ≤ n₁) (y : Int) (g0 : Nat)
    (hcell : W.cell? ⟨g0, 0, none⟩ = some (.int .i64 y)) (hk : k2 + 1 ≤ 17592186044415) (hs : a.eval s = v2) (hx : a.eval x = .slice (some ⟨g0, 0, none⟩) 1 1)
    (hc : ∀ g cap w', Two n₁ B1 B2 k1 (k2 + 1) u1 u2 v1 (.slice (some ⟨g, 0, none⟩) (k2 + 1) cap) l1 (l2 ++ [y]) w' → Keeps3 n₀ n₁ B1 B2 W w' → (∀ q, q < W.heap.size → v2.ownBlock ≠ some q → w'.heap[q]? = W.heap[q]?) → K (a.put o.dst (.slice (some ⟨g, 0, none⟩) (k2 + 1) cap)) w') :
    if Region.wanted o (yielded ops a.tmps) = true then Oper.wp Tryz.prog o a W K Q else E := by
  obtain ⟨i0, hi, hz0, hz1, hz2⟩ := info_parts int_info
  refine step_append_lies _ hgd s x 22 ho n₁ 3 i0 (.int .i64 0) 1 8 Tryz.underlying22 hi hz0 hz1 hz2 rfl (by omega) _ _ _ hs h.2.2.2.1 ⟨g0, 0, none⟩ 1 1 [.int .i64 y] hx rfl ?_ ?_ (by omega) ?_ ?_ h.2.2.2.2.2.1 _ rfl ?_
  · intro j u hj
    match j, hj with
    | 0, hj => simp at hj; subst hj; simpa [Addr.add] using hcell
  · intro u hu
    simp at hu
    subst hu
    rfl
  · unfold maxLen; omega
  · omega
  · intro g cap w' ho' hg hat _
    refine hc g cap w' (h.right (by rw [ivals_append]; exact ho') hg hat) (Keeps3.grown h.2.2.2.1 h0 h.2.2.2.2.2.1 hg) fun q hq hne => hg.block q hq (fun e => hne e.symm)
/-! ### append and copy, with what they turn: the own row's block alone. -/
theorem grownBy_self (w : World) (row : Option Nat) : w.grownBy w row := ⟨rfl, rfl, rfl, Nat.le_refl _, fun _ _ _ => rfl⟩
theorem grownBy_setRow' (w : World) (g : Nat) (cs : Array Value) : w.grownBy (w.setRow g cs) (some g) :=
  ⟨rfl, rfl, rfl, by simp [World.setRow], fun k _ hne => setRow_other w g k cs (fun e => hne (by rw [e]))⟩
set_option maxRecDepth 100000 in
theorem wpList_joinK {ops : Array Oper} {rest : List Oper} {o : Oper} {a : Act} {Q : Exit → Act → World → Prop} (w : World) (hgd : o.guard = none) (s x : Operand)
    (ho : o.op = .call { callee := .builtin .append, args := #[s, x], argTypes := #[22, 22] })
    (base : Nat) (A : Option Addr) (k c : Nat) (l : List Int) (A2 : Option Addr) (k2 c2 : Nat) (l2 : List Int) (B2 : Nat) (hown : w.ownsRow base 3 1 (.slice A k c) k (ivals l)) (hbase : base ≤ w.heap.size)
    (h2 : RdI w B2 A2 k2 l2) (hnil : A2 = none → c2 = 0) (hk : k + k2 ≤ 17592186044415) (hs : a.eval s = .slice A k c) (hx : a.eval x = .slice A2 k2 c2)
    (h : ∀ A' cap w', w'.ownsRow base 3 1 (.slice A' (k + k2) cap) (k + k2) (ivals (l ++ l2)) → w.grownBy w' (Value.slice A k c).ownBlock → wpList Tryz.prog ops Q rest (a.put o.dst (.slice A' (k + k2) cap)) w') :
    wpList Tryz.prog ops Q (o :: rest) a w := by
  obtain ⟨i0, hi, hz0, hz1, hz2⟩ := info_parts int_info
  have hlen := h2.len
  cases A2 with
  | none =>
    have hk0 : k2 = 0 := by
      rcases Nat.eq_zero_or_pos k2 with h0 | h0
      · exact h0
      · obtain ⟨b, off, hA, _⟩ := h2.at_ h0
        cases hA
    have hc0 := hnil rfl
    subst hk0
    subst hc0
    have hl2 : l2 = [] := List.length_eq_zero_iff.1 hlen
    subst hl2
    refine wpList_append_own_none hgd s x 22 ho base 3 i0 1 Tryz.underlying22 hi _ _ _ hs hown hx ?_
    exact h A c w (by rw [List.append_nil]; exact hown) (grownBy_self w _)
  | some ad =>
    refine wpList_append_own _ hgd s x 22 ho base 3 i0 (.int .i64 0) 1 8 Tryz.underlying22 hi hz0 hz1 hz2 rfl (by omega) _ _ _ hs hown ad k2 c2 (ivals l2) hx (by rw [ivals_length]; omega) ?_ (ivals_one _) ?_ (by omega) hbase ?_
    · intro j u hj
      have hj2 : j < k2 := by
        rcases Nat.lt_or_ge j k2 with h0 | h0
        · exact h0
        · rw [List.getElem?_eq_none (by rw [ivals_length]; omega)] at hj
          cases hj
      obtain ⟨b, off, hA, _, hc⟩ := h2.at_ hj2
      have hA2 : ad = ⟨b, off, none⟩ := by injection hA
      subst hA2
      rw [ivals_get (by omega)] at hj
      rw [← hj, ← hc]
      congr 1
      unfold Addr.add
      split
      · rename_i h0; subst h0; rfl
      · rfl
    · unfold maxLen; omega
    · intro v' w' ho' hg _
      obtain ⟨A', cap, rfl⟩ := own_slice ho'
      exact h A' cap w' (by rw [ivals_append]; exact ho') hg
set_option maxRecDepth 100000 in
theorem wpList_copyK {ops : Array Oper} {rest : List Oper} {o : Oper} {a : Act} {Q : Exit → Act → World → Prop} (w : World) (hgd : o.guard = none) (d s : Operand)
    (ho : o.op = .call { callee := .builtin .copy, args := #[d, s], argTypes := #[22, 22] })
    (base : Nat) (A : Option Addr) (n c : Nat) (l : List Int) (A2 : Option Addr) (k2 c2 : Nat) (l2 : List Int) (B2 : Nat) (hown : w.ownsRow base 3 1 (.slice A n c) n (ivals l))
    (h2 : RdI w B2 A2 k2 l2) (hk : k2 ≤ n) (hd : a.eval d = .slice A n c) (hs : a.eval s = .slice A2 k2 c2)
    (h : ∀ w', w'.ownsRow base 3 1 (.slice A n c) n (ivals (l2 ++ l.drop k2)) → w.grownBy w' (Value.slice A n c).ownBlock → wpList Tryz.prog ops Q rest (a.put o.dst (goInt k2)) w') :
    wpList Tryz.prog ops Q (o :: rest) a w := by
  obtain ⟨i0, hi, hz0, hz1, hz2⟩ := info_parts int_info
  have hlen := h2.len
  have hsz1 : (Tryz.prog.info? 3).map (·.size) = some 1 := by rw [hi]; simp [hz1]
  have hll : l.length = n := by have := own_len hown; rwa [ivals_length] at this
  rcases Nat.eq_zero_or_pos k2 with h0 | h0
  · subst h0
    have hl2 : l2 = [] := List.length_eq_zero_iff.1 hlen
    subst hl2
    refine wpList_copy_nothing hgd d s 22 22 ho 3 Tryz.underlying22 hsz1 A A2 n c 0 c2 hd hs (Nat.zero_min _) ?_
    exact h w (by simpa using hown) (grownBy_self w _)
  · rcases hown.2 with ⟨hv, hn0⟩ | ⟨g, cap, cur, hv, hbg, hg, hnc, hcm, hcs, hxs⟩
    · omega
    · have hA : A = some ⟨g, 0, none⟩ := by injection hv
      have hcap : c = cap := by injection hv
      subst hA
      subst hcap
      simp only [Nat.mul_one] at hcs hxs
      obtain ⟨b2, off2, hA2, _, _⟩ := h2.at_ h0
      subst hA2
      refine wpList_copy_own hgd d s 22 22 ho 3 Tryz.underlying22 hsz1 g 0 n c ⟨b2, off2, none⟩ k2 c2 hd hs cur 3 hg (ivals l2) ?_ ?_ ?_ (ivals_one _) ?_
      · rw [ivals_length, hlen]; exact (Nat.min_eq_left hk).symm
      · intro j u hj
        have hj2 : j < k2 := by
          rcases Nat.lt_or_ge j k2 with q | q
          · exact q
          · rw [List.getElem?_eq_none (by rw [ivals_length]; omega)] at hj
            cases hj
        obtain ⟨b, off, hA, _, hc⟩ := h2.at_ hj2
        obtain ⟨rfl, rfl⟩ : b2 = b ∧ off2 = off := by simpa using hA
        rw [ivals_get (by omega)] at hj
        rw [← hj, ← hc]
        congr 1
        unfold Addr.add
        split
        · rename_i q; subst q; rfl
        · rfl
      · rw [ivals_length]; omega
      · have := own_setRow (l2 := l2) hbg hg hnc hcm hcs hxs hll (by omega)
        rw [hlen] at this
        have e : (ivals l2).length = k2 := by rw [ivals_length, hlen]
        rw [e]
        refine h _ ?_ (grownBy_setRow' w g _)
        rw [e] at this
        exact this
theorem two_snoc {n₁ B1 B2 m : Nat} {v1 v2 : Value} {W : World} (f g : Nat → Int) (pre : List (Fin m)) (x : Fin m) (S1 S2 : Int) (h1 : S1 = f x.1) (h2 : S2 = g x.1)
    (h : Two n₁ B1 B2 (pre.length + 1) (pre.length + 1) v1 v2 v1 v2 ((pre.map fun x => f x.1) ++ [S1]) ((pre.map fun x => g x.1) ++ [S2]) W) :
    Two n₁ B1 B2 (pre ++ [x]).length (pre ++ [x]).length v1 v2 v1 v2 ((pre ++ [x]).map fun x => f x.1) ((pre ++ [x]).map fun x => g x.1) W := by
  subst h1; subst h2
  rw [List.length_append, List.map_append, List.map_append]; exact h
end Go.Proofs.YtmohilfebgahoaaGreatDoor
