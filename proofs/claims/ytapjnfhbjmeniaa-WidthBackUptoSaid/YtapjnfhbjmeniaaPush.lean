/- 'append(v, x)' where v is a slice of ints, nil or the call's own: the row one longer, and all below as it was. -/
import Derived.Test.YtapjnfhbjmeniaaMem
import Derived.Deep.RegionHeld3
import Derived.Laws.AppendOwnNone
import Derived.Laws.CopyOwn
namespace Go.Proofs.Ytapjnfhbjmeniaa
open Go.RowKit

theorem below_same {B : Nat} {a w w' : World} (h : Below B a w) (h1 : w'.os = w.os) (h2 : w'.tape = w.tape) (h3 : w'.output = w.output) (h4 : w'.heap = w.heap) : Below B a w' :=
  ⟨h1.trans h.os, h2.trans h.tape, h3.trans h.output, by rw [h4]; exact h.size, by rw [h4]; exact h.block⟩
theorem cell_of_alloc (w : World) (y : Value) (t : TypeId) : (w.alloc (.cells #[y] t)).cell? ⟨w.heap.size, 0, none⟩ = some y := by
  simp
theorem wpList_push {ops : Array Oper} {rest : List Oper} {o : Oper} {a : Act} {Q : Exit → Act → World → Prop} (w : World) (hgd : o.guard = none) (s x : Operand)
    (ho : o.op = .call { callee := .builtin .append, args := #[s, x], argTypes := #[22, 22] })
    (W0 : World) (base : Nat) (A : Option Addr) (k c : Nat) (l : List Int) (y : Int) (hown : w.ownsRow base 3 1 (.slice A k c) k (ivals l)) (hbel : Below base W0 w) (hbase : base ≤ w.heap.size)
    (hk : k + 1 ≤ 17592186044415) (hs : a.eval s = .slice A k c) (hx : a.eval x = .slice (some ⟨w.heap.size, 0, none⟩) 1 1)
    (h : ∀ g cap w', w'.ownsRow base 3 1 (.slice (some ⟨g, 0, none⟩) (k + 1) cap) (k + 1) (ivals (l ++ [y])) → Below base W0 w' → wpList Try.prog ops Q rest (a.put o.dst (.slice (some ⟨g, 0, none⟩) (k + 1) cap)) w') :
    wpList Try.prog ops Q (o :: rest) a (w.alloc (.cells #[.int .i64 y] 3)) := by
  obtain ⟨i0, hi, hz0, hz1, hz2⟩ := info_parts int_info
  refine wpList_append_lies _ hgd s x 22 ho base 3 i0 (.int .i64 0) 1 8 Try.underlying22 hi hz0 hz1 hz2 rfl (by omega) _ _ _ hs (hown.alloc _) ⟨w.heap.size, 0, none⟩ 1 1 [.int .i64 y] hx rfl ?_ ?_ (by omega) ?_ ?_ ?_ (w.heap.size + 1) (by simp) ?_
  · intro j u hj
    match j, hj with
    | 0, hj => simp at hj; subst hj; simp [Addr.add]
  · intro u hu
    simp at hu
    subst hu
    rfl
  · unfold maxLen; omega
  · omega
  · simp; omega
  · intro g cap w' ho' hg _ _
    refine h g cap w' (by rw [ivals_append]; exact ho') ?_
    refine (hbel.alloc hbase _).grown hg (by simp; omega) ?_
    intro q hq
    rcases hown.2 with ⟨h1, h2⟩ | ⟨g', cap', cur, h1, h2, _⟩
    · rw [h1] at hq; simp [Value.ownBlock] at hq
    · rw [h1] at hq; simp [Value.ownBlock] at hq; omega
/-- 'append(v, u...)' where v is nil or the call's own, and u a slice that reads. -/
theorem own_slice {w : World} {base : Nat} {e : TypeId} {v : Value} {n : Nat} {xs : List Value} (h : w.ownsRow base e 1 v n xs) : ∃ A c, v = .slice A n c := by
  rcases h.2 with ⟨h1, h2⟩ | ⟨g, cap, cur, h1, _⟩
  · subst h2; exact ⟨none, 0, h1⟩
  · exact ⟨some ⟨g, 0, none⟩, cap, h1⟩
theorem grown_below {w w' W0 : World} {base : Nat} {e : TypeId} {v : Value} {n : Nat} {xs : List Value} (hown : w.ownsRow base e 1 v n xs) (hbel : Below base W0 w) (hbase : base ≤ w.heap.size) (hg : w.grownBy w' v.ownBlock) : Below base W0 w' :=
  hbel.grown hg hbase fun k hk => (hown.lt k hk).1
set_option maxRecDepth 100000 in
theorem wpList_join {ops : Array Oper} {rest : List Oper} {o : Oper} {a : Act} {Q : Exit → Act → World → Prop} (w : World) (hgd : o.guard = none) (s x : Operand)
    (ho : o.op = .call { callee := .builtin .append, args := #[s, x], argTypes := #[22, 22] })
    (W0 : World) (base : Nat) (A : Option Addr) (k c : Nat) (l : List Int) (A2 : Option Addr) (k2 c2 : Nat) (l2 : List Int) (B2 : Nat) (hown : w.ownsRow base 3 1 (.slice A k c) k (ivals l)) (hbel : Below base W0 w) (hbase : base ≤ w.heap.size)
    (h2 : RdI w B2 A2 k2 l2) (hnil : A2 = none → c2 = 0) (hk : k + k2 ≤ 17592186044415) (hs : a.eval s = .slice A k c) (hx : a.eval x = .slice A2 k2 c2)
    (h : ∀ A' cap w', w'.ownsRow base 3 1 (.slice A' (k + k2) cap) (k + k2) (ivals (l ++ l2)) → Below base W0 w' → wpList Try.prog ops Q rest (a.put o.dst (.slice A' (k + k2) cap)) w') :
    wpList Try.prog ops Q (o :: rest) a w := by
  obtain ⟨i0, hi, hz0, hz1, hz2⟩ := info_parts int_info
  have hlen := h2.len
  cases A2 with
  | none =>
    have hk0 : k2 = 0 := by
      rcases Nat.eq_zero_or_pos k2 with h0 | h0
      · exact h0
      · obtain ⟨b, off, hA, _⟩ := h2.at_ h0
        cases hA
    have hc0 := hnil rfl
    subst hk0
    subst hc0
    have hl2 : l2 = [] := List.length_eq_zero_iff.1 hlen
    subst hl2
    refine wpList_append_own_none hgd s x 22 ho base 3 i0 1 Try.underlying22 hi _ _ _ hs hown hx ?_
    exact h A c w (by rw [List.append_nil]; exact hown) hbel
  | some ad =>
    refine wpList_append_own _ hgd s x 22 ho base 3 i0 (.int .i64 0) 1 8 Try.underlying22 hi hz0 hz1 hz2 rfl (by omega) _ _ _ hs hown ad k2 c2 (ivals l2) hx (by rw [ivals_length]; omega) ?_ (ivals_one _) ?_ (by omega) hbase ?_
    · intro j u hj
      have hj2 : j < k2 := by
        rcases Nat.lt_or_ge j k2 with h0 | h0
        · exact h0
        · rw [List.getElem?_eq_none (by rw [ivals_length]; omega)] at hj
          cases hj
      obtain ⟨b, off, hA, _, hc⟩ := h2.at_ hj2
      have hA2 : ad = ⟨b, off, none⟩ := by injection hA
      subst hA2
      rw [ivals_get (by omega)] at hj
      rw [← hj, ← hc]
      congr 1
      unfold Addr.add
      split
      · rename_i h0; subst h0; rfl
      · rfl
    · unfold maxLen; omega
    · intro v' w' ho' hg _
      obtain ⟨A', cap, rfl⟩ := own_slice ho'
      exact h A' cap w' (by rw [ivals_append]; exact ho') (grown_below hown hbel hbase hg)
/-- The same at a step of a region that draws its order, at whatever world. -/
theorem step_push {ops : Array Oper} {o : Oper} {a : Act} {K : Act → World → Prop} {Q : Exit → Act → World → Prop} {E : Prop} (W : World) (hgd : o.guard = none) (s x : Operand)
    (ho : o.op = .call { callee := .builtin .append, args := #[s, x], argTypes := #[22, 22] })
    (W0 : World) (base : Nat) (A : Option Addr) (k c : Nat) (l : List Int) (y : Int) (g0 : Nat) (hown : W.ownsRow base 3 1 (.slice A k c) k (ivals l)) (hbel : Below base W0 W) (hbase : base ≤ W.heap.size)
    (hcell : W.cell? ⟨g0, 0, none⟩ = some (.int .i64 y)) (hk : k + 1 ≤ 17592186044415) (hs : a.eval s = .slice A k c) (hx : a.eval x = .slice (some ⟨g0, 0, none⟩) 1 1)
    (h : ∀ g cap w', w'.ownsRow base 3 1 (.slice (some ⟨g, 0, none⟩) (k + 1) cap) (k + 1) (ivals (l ++ [y])) → Below base W0 w' → K (a.put o.dst (.slice (some ⟨g, 0, none⟩) (k + 1) cap)) w') :
    if Region.wanted o (yielded ops a.tmps) = true then Oper.wp Try.prog o a W K Q else E := by
  obtain ⟨i0, hi, hz0, hz1, hz2⟩ := info_parts int_info
  refine step_append_lies _ hgd s x 22 ho base 3 i0 (.int .i64 0) 1 8 Try.underlying22 hi hz0 hz1 hz2 rfl (by omega) _ _ _ hs hown ⟨g0, 0, none⟩ 1 1 [.int .i64 y] hx rfl ?_ ?_ (by omega) ?_ ?_ hbase _ rfl ?_
  · intro j u hj
    match j, hj with
    | 0, hj => simp at hj; subst hj; simpa [Addr.add] using hcell
  · intro u hu
    simp at hu
    subst hu
    rfl
  · unfold maxLen; omega
  · omega
  · intro g cap w' ho' hg _ _
    refine h g cap w' (by rw [ivals_append]; exact ho') (hbel.grown hg hbase ?_)
    intro q hq
    rcases hown.2 with ⟨h1, h2⟩ | ⟨g', cap', cur, h1, h2, _⟩
    · rw [h1] at hq; simp [Value.ownBlock] at hq
    · rw [h1] at hq; simp [Value.ownBlock] at hq; omega
/-- Two at once, at a step of a region that draws its order, at whatever world. -/
theorem step_push2 {ops : Array Oper} {o : Oper} {a : Act} {K : Act → World → Prop} {Q : Exit → Act → World → Prop} {E : Prop} (W : World) (hgd : o.guard = none) (s x : Operand)
    (ho : o.op = .call { callee := .builtin .append, args := #[s, x], argTypes := #[22, 22] })
    (W0 : World) (base : Nat) (A : Option Addr) (k c : Nat) (l : List Int) (x0 y : Int) (g0 : Nat) (hown : W.ownsRow base 3 1 (.slice A k c) k (ivals l)) (hbel : Below base W0 W) (hbase : base ≤ W.heap.size)
    (hcell : W.cell? ⟨g0, 0, none⟩ = some (.int .i64 x0)) (hcell2 : W.cell? ⟨g0, 1, none⟩ = some (.int .i64 y)) (hk : k + 2 ≤ 17592186044415) (hs : a.eval s = .slice A k c) (hx : a.eval x = .slice (some ⟨g0, 0, none⟩) 2 2)
    (h : ∀ g cap w', w'.ownsRow base 3 1 (.slice (some ⟨g, 0, none⟩) (k + 2) cap) (k + 2) (ivals (l ++ [x0, y])) → Below base W0 w' → K (a.put o.dst (.slice (some ⟨g, 0, none⟩) (k + 2) cap)) w') :
    if Region.wanted o (yielded ops a.tmps) = true then Oper.wp Try.prog o a W K Q else E := by
  obtain ⟨i0, hi, hz0, hz1, hz2⟩ := info_parts int_info
  refine step_append_lies _ hgd s x 22 ho base 3 i0 (.int .i64 0) 1 8 Try.underlying22 hi hz0 hz1 hz2 rfl (by omega) _ _ _ hs hown ⟨g0, 0, none⟩ 2 2 [.int .i64 x0, .int .i64 y] hx rfl ?_ ?_ (by omega) ?_ ?_ hbase _ rfl ?_
  · intro j u hj
    match j, hj with
    | 0, hj => simp at hj; subst hj; simpa [Addr.add] using hcell
    | 1, hj => simp at hj; subst hj; simpa [Addr.add] using hcell2
  · intro u hu
    simp at hu
    rcases hu with rfl | rfl <;> rfl
  · unfold maxLen; omega
  · omega
  · intro g cap w' ho' hg _ _
    refine h g cap w' (by rw [ivals_append]; exact ho') (hbel.grown hg hbase ?_)
    intro q hq
    rcases hown.2 with ⟨h1, h2⟩ | ⟨g', cap', cur, h1, h2, _⟩
    · rw [h1] at hq; simp [Value.ownBlock] at hq
    · rw [h1] at hq; simp [Value.ownBlock] at hq; omega
theorem cell_of_alloc2 (w : World) (x y : Value) (t : TypeId) : (w.alloc (.cells #[x, y] t)).cell? ⟨w.heap.size, 0, none⟩ = some x ∧ (w.alloc (.cells #[x, y] t)).cell? ⟨w.heap.size, 1, none⟩ = some y := by
  simp
/-- 'copy(d, s)' where d is the call's own row, and s a slice that reads, no longer than it. -/
theorem own_setRow {w : World} {base g n cap : Nat} {l l2 : List Int} {cur : Array Value} (hb : base ≤ g) (hg : w.heap[g]? = some (.cells cur 3 (0, 0))) (hnc : n ≤ cap) (hcm : cap ≤ maxLen) (hsz : cur.size = cap) (hxs : cur.toList.take n = ivals l) (hl : l.length = n) (hk : l2.length ≤ n) :
    (w.setRow g (cur.toList.take 0 ++ (ivals l2 ++ cur.toList.drop (0 + (ivals l2).length))).toArray).ownsRow base 3 1 (.slice (some ⟨g, 0, none⟩) n cap) n (ivals (l2 ++ l.drop l2.length)) := by
  refine ⟨by rw [ivals_length, List.length_append, List.length_drop]; omega, .inr ⟨g, cap, _, rfl, hb, setRow_heap w g cur _ _ _ hg, hnc, hcm, ?_, ?_⟩⟩
  · simp [ivals_length]; omega
  · simp only [List.take_zero, List.nil_append, Nat.zero_add, ivals_length, Nat.mul_one]
    rw [List.take_append, ivals_length, List.take_of_length_le (by rw [ivals_length]; exact hk), ivals_append]
    congr 1
    rw [← List.drop_take, hxs]
    simp [ivals]
set_option maxRecDepth 100000 in
theorem wpList_copyI {ops : Array Oper} {rest : List Oper} {o : Oper} {a : Act} {Q : Exit → Act → World → Prop} (w : World) (hgd : o.guard = none) (d s : Operand)
    (ho : o.op = .call { callee := .builtin .copy, args := #[d, s], argTypes := #[22, 22] })
    (W0 : World) (base : Nat) (A : Option Addr) (n c : Nat) (l : List Int) (A2 : Option Addr) (k2 c2 : Nat) (l2 : List Int) (B2 : Nat) (hown : w.ownsRow base 3 1 (.slice A n c) n (ivals l)) (hbel : Below base W0 w)
    (h2 : RdI w B2 A2 k2 l2) (hk : k2 ≤ n) (hd : a.eval d = .slice A n c) (hs : a.eval s = .slice A2 k2 c2)
    (h : ∀ w', w'.ownsRow base 3 1 (.slice A n c) n (ivals (l2 ++ l.drop k2)) → Below base W0 w' → wpList Try.prog ops Q rest (a.put o.dst (goInt k2)) w') :
    wpList Try.prog ops Q (o :: rest) a w := by
  obtain ⟨i0, hi, hz0, hz1, hz2⟩ := info_parts int_info
  have hlen := h2.len
  have hsz1 : (Try.prog.info? 3).map (·.size) = some 1 := by rw [hi]; simp [hz1]
  have hll : l.length = n := by have := own_len hown; rwa [ivals_length] at this
  rcases Nat.eq_zero_or_pos k2 with h0 | h0
  · subst h0
    have hl2 : l2 = [] := List.length_eq_zero_iff.1 hlen
    subst hl2
    refine wpList_copy_nothing hgd d s 22 22 ho 3 Try.underlying22 hsz1 A A2 n c 0 c2 hd hs (Nat.zero_min _) ?_
    exact h w (by simpa using hown) hbel
  · rcases hown.2 with ⟨hv, hn0⟩ | ⟨g, cap, cur, hv, hbg, hg, hnc, hcm, hcs, hxs⟩
    · omega
    · have hA : A = some ⟨g, 0, none⟩ := by injection hv
      have hcap : c = cap := by injection hv
      subst hA
      subst hcap
      simp only [Nat.mul_one] at hcs hxs
      obtain ⟨b2, off2, hA2, _, _⟩ := h2.at_ h0
      subst hA2
      refine wpList_copy_own hgd d s 22 22 ho 3 Try.underlying22 hsz1 g 0 n c ⟨b2, off2, none⟩ k2 c2 hd hs cur 3 hg (ivals l2) ?_ ?_ ?_ (ivals_one _) ?_
      · rw [ivals_length, hlen]; exact (Nat.min_eq_left hk).symm
      · intro j u hj
        have hj2 : j < k2 := by
          rcases Nat.lt_or_ge j k2 with q | q
          · exact q
          · rw [List.getElem?_eq_none (by rw [ivals_length]; omega)] at hj
            cases hj
        obtain ⟨b, off, hA, _, hc⟩ := h2.at_ hj2
        obtain ⟨rfl, rfl⟩ : b2 = b ∧ off2 = off := by simpa using hA
        rw [ivals_get (by omega)] at hj
        rw [← hj, ← hc]
        congr 1
        unfold Addr.add
        split
        · rename_i q; subst q; rfl
        · rfl
      · rw [ivals_length]; omega
      · have := own_setRow (l2 := l2) hbg hg hnc hcm hcs hxs hll (by omega)
        rw [hlen] at this
        have e : (ivals l2).length = k2 := by rw [ivals_length, hlen]
        rw [e]
        refine h _ ?_ (below_setRow hbel hbg _)
        rw [e] at this
        exact this
/-- Two at once. -/
theorem wpList_push2 {ops : Array Oper} {rest : List Oper} {o : Oper} {a : Act} {Q : Exit → Act → World → Prop} (w : World) (hgd : o.guard = none) (s x : Operand)
    (ho : o.op = .call { callee := .builtin .append, args := #[s, x], argTypes := #[22, 22] })
    (W0 : World) (base : Nat) (A : Option Addr) (k c : Nat) (l : List Int) (y z : Int) (hown : w.ownsRow base 3 1 (.slice A k c) k (ivals l)) (hbel : Below base W0 w) (hbase : base ≤ w.heap.size)
    (hk : k + 2 ≤ 17592186044415) (hs : a.eval s = .slice A k c) (hx : a.eval x = .slice (some ⟨w.heap.size, 0, none⟩) 2 2)
    (h : ∀ g cap w', w'.ownsRow base 3 1 (.slice (some ⟨g, 0, none⟩) (k + 2) cap) (k + 2) (ivals (l ++ [y, z])) → Below base W0 w' → wpList Try.prog ops Q rest (a.put o.dst (.slice (some ⟨g, 0, none⟩) (k + 2) cap)) w') :
    wpList Try.prog ops Q (o :: rest) a (w.alloc (.cells #[.int .i64 y, .int .i64 z] 3)) := by
  obtain ⟨i0, hi, hz0, hz1, hz2⟩ := info_parts int_info
  refine wpList_append_lies _ hgd s x 22 ho base 3 i0 (.int .i64 0) 1 8 Try.underlying22 hi hz0 hz1 hz2 rfl (by omega) _ _ _ hs (hown.alloc _) ⟨w.heap.size, 0, none⟩ 2 2 [.int .i64 y, .int .i64 z] hx rfl ?_ ?_ (by omega) ?_ ?_ ?_ (w.heap.size + 1) (by simp) ?_
  · intro j u hj
    match j, hj with
    | 0, hj => simp at hj; subst hj; simp [Addr.add]
    | 1, hj => simp at hj; subst hj; simp [Addr.add]
  · intro u hu
    simp at hu
    rcases hu with rfl | rfl <;> rfl
  · unfold maxLen; omega
  · omega
  · simp; omega
  · intro g cap w' ho' hg _ _
    refine h g cap w' (by rw [ivals_append]; exact ho') ?_
    refine (hbel.alloc hbase _).grown hg (by simp; omega) ?_
    intro q hq
    rcases hown.2 with ⟨h1, h2⟩ | ⟨g', cap', cur, h1, h2, _⟩
    · rw [h1] at hq; simp [Value.ownBlock] at hq
    · rw [h1] at hq; simp [Value.ownBlock] at hq; omega
theorem own_none {w : World} {base : Nat} {e : TypeId} {A : Option Addr} {n c : Nat} {xs : List Value} (h : w.ownsRow base e 1 (.slice A n c) n xs) (hA : A = none) : c = 0 := by
  subst hA
  rcases h.2 with ⟨h1, _⟩ | ⟨g, cap, cur, h1, _⟩
  · injection h1
  · cases h1
end Go.Proofs.Ytapjnfhbjmeniaa
