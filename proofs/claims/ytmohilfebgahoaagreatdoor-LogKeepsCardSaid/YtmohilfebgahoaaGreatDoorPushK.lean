/- Two slices of ints, each the call's own and apart from the other: an append to either. -/
import Derived.Test.YtmohilfebgahoaaGreatDoorMem
import Derived.Maps.AppendAt
namespace Go.Proofs.YtmohilfebgahoaaGreatDoor
open Go.RowKit

def TwoS (n₁ k1 k2 : Nat) (v1 v2 : Value) (l1 l2 : List Int) (W : World) : Prop :=
  W.ownsRow n₁ 3 1 v1 k1 (ivals l1) ∧ W.ownsRow n₁ 3 1 v2 k2 (ivals l2) ∧ (∀ g, v1.ownBlock = some g → v2.ownBlock ≠ some g) ∧ n₁ ≤ W.heap.size
section
variable {n₁ k1 k2 : Nat} {v1 v2 : Value} {l1 l2 : List Int} {W W' : World}
theorem TwoS.drew (h : TwoS n₁ k1 k2 v1 v2 l1 l2 W) : TwoS n₁ k1 k2 v1 v2 l1 l2 W.drew := h
theorem TwoS.drewN (h : TwoS n₁ k1 k2 v1 v2 l1 l2 W) (q : Nat) : TwoS n₁ k1 k2 v1 v2 l1 l2 (W.drewN q) := h
theorem TwoS.alloc (h : TwoS n₁ k1 k2 v1 v2 l1 l2 W) (o : Obj) : TwoS n₁ k1 k2 v1 v2 l1 l2 (W.alloc o) := by
  obtain ⟨r1, r2, ha, hn⟩ := h
  exact ⟨r1.alloc o, r2.alloc o, ha, by simp; omega⟩
theorem rowS_kept {v v' : Value} {k : Nat} {xs : List Value} {e : TypeId} (hr : W.ownsRow n₁ e 1 v k xs) (hg : W.grownBy W' v'.ownBlock) (ha : ∀ g, v'.ownBlock = some g → v.ownBlock ≠ some g) : W'.ownsRow n₁ e 1 v k xs := by
  cases hv : v'.ownBlock with
  | none =>
    rw [hv] at hg
    rcases hr.2 with h0 | ⟨g, cap, cur, hw, hb, hh, r⟩
    · exact ⟨hr.1, .inl h0⟩
    · exact ⟨hr.1, .inr ⟨g, cap, cur, hw, hb, (hg.block g (Array.getElem?_eq_some_iff.1 hh).1 (by simp)).trans hh, r⟩⟩
  | some g => exact hr.kept hg (.inr (by rw [hv]; exact ha g hv))
theorem TwoS.left {g cap k' : Nat} {l' : List Int} (h : TwoS n₁ k1 k2 v1 v2 l1 l2 W) (ho : W'.ownsRow n₁ 3 1 (.slice (some ⟨g, 0, none⟩) k' cap) k' (ivals l')) (hg : W.grownBy W' v1.ownBlock) (hat : v1.ownBlock = some g ∨ g = W.heap.size) :
    TwoS n₁ k' k2 (.slice (some ⟨g, 0, none⟩) k' cap) v2 l' l2 W' := by
  obtain ⟨r1, r2, ha, hn⟩ := h
  refine ⟨ho, rowS_kept r2 hg ha, fun q hq => ?_, Nat.le_trans hn hg.size⟩
  obtain rfl : g = q := by simpa [Value.ownBlock] using hq
  rcases hat with h | rfl
  · exact ha _ h
  · intro h
    have := (r2.lt _ h).2; omega
theorem TwoS.right {g cap k' : Nat} {l' : List Int} (h : TwoS n₁ k1 k2 v1 v2 l1 l2 W) (ho : W'.ownsRow n₁ 3 1 (.slice (some ⟨g, 0, none⟩) k' cap) k' (ivals l')) (hg : W.grownBy W' v2.ownBlock) (hat : v2.ownBlock = some g ∨ g = W.heap.size) :
    TwoS n₁ k1 k' v1 (.slice (some ⟨g, 0, none⟩) k' cap) l1 l' W' := by
  obtain ⟨r1, r2, ha, hn⟩ := h
  refine ⟨rowS_kept r1 hg (fun q hq hv => ha q hv hq), ho, fun q hq hx => ?_, Nat.le_trans hn hg.size⟩
  obtain rfl : g = q := by simpa [Value.ownBlock] using hx
  rcases hat with h | rfl
  · exact ha _ hq h
  · have := (r1.lt _ hq).2; omega
end
theorem wpList_twoS1 {ops : Array Oper} {rest : List Oper} {o : Oper} {a : Act} {Q : Exit → Act → World → Prop} (w : World) (hgd : o.guard = none) (s x : Operand)
    (ho : o.op = .call { callee := .builtin .append, args := #[s, x], argTypes := #[22, 22] })
    (W0 : World) {n₁ k1 k2 : Nat} {v1 v2 : Value} {l1 l2 : List Int} (y : Int) (ht : TwoS n₁ k1 k2 v1 v2 l1 l2 w) (hbel : Below n₁ W0 w)
    (hk : k1 + 1 ≤ 17592186044415) (hs : a.eval s = v1) (hx : a.eval x = .slice (some ⟨w.heap.size, 0, none⟩) 1 1)
    (h : ∀ g cap w', TwoS n₁ (k1 + 1) k2 (.slice (some ⟨g, 0, none⟩) (k1 + 1) cap) v2 (l1 ++ [y]) l2 w' → Below n₁ W0 w' → wpList Tryz.prog ops Q rest (a.put o.dst (.slice (some ⟨g, 0, none⟩) (k1 + 1) cap)) w') :
    wpList Tryz.prog ops Q (o :: rest) a (w.alloc (.cells #[.int .i64 y] 3)) := by
  obtain ⟨i0, hi, hz0, hz1, hz2⟩ := info_parts int_info
  have hbase := ht.2.2.2
  refine wpList_append_lies _ hgd s x 22 ho n₁ 3 i0 (.int .i64 0) 1 8 Tryz.underlying22 hi hz0 hz1 hz2 rfl (by omega) _ _ _ hs (ht.1.alloc _) ⟨w.heap.size, 0, none⟩ 1 1 [.int .i64 y] hx rfl ?_ ?_ (by omega) ?_ ?_ ?_ (w.heap.size + 1) (by simp) ?_
  · intro j u hj
    match j, hj with
    | 0, hj => simp at hj; subst hj; simp [Addr.add]
  · intro u hu
    simp at hu
    subst hu
    rfl
  · unfold maxLen; omega
  · omega
  · simp; omega
  · intro g cap w' ho' hg hat _
    refine h g cap w' ((ht.alloc _).left (by rw [ivals_append]; exact ho') hg (hat.imp id fun e => by rw [e]; simp)) ?_
    exact (hbel.alloc hbase _).grown hg (by simp; omega) fun q hq => (ht.1.lt q hq).1
theorem step_twoS2 {ops : Array Oper} {o : Oper} {a : Act} {K : Act → World → Prop} {Q : Exit → Act → World → Prop} {E : Prop} (W : World) (hgd : o.guard = none) (s x : Operand)
    (ho : o.op = .call { callee := .builtin .append, args := #[s, x], argTypes := #[22, 22] })
    (W0 : World) (n₁ k1 k2 : Nat) (v1 v2 : Value) (l1 l2 : List Int) (y : Int) (g0 : Nat) (ht : TwoS n₁ k1 k2 v1 v2 l1 l2 W) (hbel : Below n₁ W0 W)
    (hcell : W.cell? ⟨g0, 0, none⟩ = some (.int .i64 y)) (hk : k2 + 1 ≤ 17592186044415) (hs : a.eval s = v2) (hx : a.eval x = .slice (some ⟨g0, 0, none⟩) 1 1)
    (h : ∀ g cap w', TwoS n₁ k1 (k2 + 1) v1 (.slice (some ⟨g, 0, none⟩) (k2 + 1) cap) l1 (l2 ++ [y]) w' → Below n₁ W0 w' → K (a.put o.dst (.slice (some ⟨g, 0, none⟩) (k2 + 1) cap)) w') :
    if Region.wanted o (yielded ops a.tmps) = true then Oper.wp Tryz.prog o a W K Q else E := by
  obtain ⟨i0, hi, hz0, hz1, hz2⟩ := info_parts int_info
  refine step_append_lies _ hgd s x 22 ho n₁ 3 i0 (.int .i64 0) 1 8 Tryz.underlying22 hi hz0 hz1 hz2 rfl (by omega) _ _ _ hs ht.2.1 ⟨g0, 0, none⟩ 1 1 [.int .i64 y] hx rfl ?_ ?_ (by omega) ?_ ?_ ht.2.2.2 _ rfl ?_
  · intro j u hj
    match j, hj with
    | 0, hj => simp at hj; subst hj; simpa [Addr.add] using hcell
  · intro u hu
    simp at hu
    subst hu
    rfl
  · unfold maxLen; omega
  · omega
  · intro g cap w' ho' hg hat _
    exact h g cap w' (ht.right (by rw [ivals_append]; exact ho') hg hat) (hbel.grown hg ht.2.2.2 fun q hq => (ht.2.1.lt q hq).1)
end Go.Proofs.YtmohilfebgahoaaGreatDoor
