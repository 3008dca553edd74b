/- Frames that a caller keeps beside a log and a player: what is left of them where blocks of other types are turned; 'append(frames, x)'. -/
import Derived.Test.YtmohilfebgahoaaGreatDoorLog3
import Derived.Test.YtmohilfebgahoaaGreatDoorParts
namespace Go.Proofs.YtmohilfebgahoaaGreatDoor
open Go.RowKit

/-- Blocks of these types are as they were. -/
def KeepT (T : TypeId → Prop) (w w' : World) : Prop := ∀ (k : Nat) (cs : Array Value) (t : TypeId) (fr : Nat × Nat), w.heap[k]? = some (.cells cs t fr) → T t → w'.heap[k]? = some (.cells cs t fr)
section
variable {T : TypeId → Prop} {w w' w2 : World}
theorem KeepT.own {base n s : Nat} {e : TypeId} {v : Value} {xs : List Value} (h : KeepT T w w') (hT : T e) (ho : w.ownsRow base e s v n xs) : w'.ownsRow base e s v n xs := by
  refine ⟨ho.1, ?_⟩
  rcases ho.2 with h0 | ⟨g, cap, cur, rfl, hg, hh, r⟩
  · exact .inl h0
  · exact .inr ⟨g, cap, cur, rfl, hg, h _ _ _ _ hh hT, r⟩
theorem KeepT.trans (h : KeepT T w w') (h2 : KeepT T w' w2) : KeepT T w w2 := fun k cs t fr hk ht => h2 k cs t fr (h k cs t fr hk ht) ht
theorem some_lt {k : Nat} {o : Obj} (h : w.heap[k]? = some o) : k < w.heap.size := by
  rcases Nat.lt_or_ge k w.heap.size with h1 | h1
  · exact h1
  · rw [Array.getElem?_eq_none h1] at h; cases h
theorem KeepT.below (hb : Below w.heap.size w w') : KeepT T w w' := fun k _ _ _ hk _ => (hb.block k (some_lt hk)).trans hk
theorem KeepT.kept {S : Nat → Prop} (hk : KeptBut S w w') (hS : ∀ (k : Nat) (cs : Array Value) (t : TypeId) (fr : Nat × Nat), S k → w.heap[k]? = some (.cells cs t fr) → ¬ T t) : KeepT T w w' := fun k cs t fr h ht =>
  (hk.block k (some_lt h) (fun hs => hS k cs t fr hs h ht)).trans h
theorem KeepT.grown {o : Obj} {r : Option Nat} (hg : (w.alloc o).grownBy w' r) (hr : ∀ (k : Nat) (cs : Array Value) (t : TypeId) (fr : Nat × Nat), r = some k → w.heap[k]? = some (.cells cs t fr) → ¬ T t) : KeepT T w w' := fun k cs t fr h ht => by
  have hl := some_lt h
  rw [hg.block k (by simp; omega) (fun e => hr k cs t fr e.symm h ht), heap_alloc_old w o hl]
  exact h
/-- A row's own block bears the row's type. -/
theorem own_typed {base n s k : Nat} {e : TypeId} {v : Value} {xs : List Value} {cs : Array Value} {t : TypeId} {fr : Nat × Nat} (ho : w.ownsRow base e s v n xs) (hk : v.ownBlock = some k) (h : w.heap[k]? = some (.cells cs t fr)) : t = e := by
  rcases ho.2 with ⟨h1, _⟩ | ⟨g, cap, cur, rfl, _, hh, _⟩
  · rw [h1] at hk; simp [Value.ownBlock] at hk
  · have e1 : g = k := by simpa [Value.ownBlock] using hk
    subst e1
    rw [hh] at h
    injection h with h
    injection h with _ h2 _
    exact h2.symm
theorem KeepT.ownsV (h : KeepT T w w') (hT : T 3) {base : Nat} {vs : List Value} {ls : List (List Int)} (ho : OwnsV w base vs ls) : OwnsV w' base vs ls := ho.map fun _ _ ⟨A, c, hv, hr⟩ => ⟨A, c, hv, h.own hT hr⟩
theorem KeepT.ownPV (h : KeepT T w w') (h1 : T 78) (h2 : T 3) {base n c : Nat} {A : Option Addr} {ps : List Ph.Part} (ho : OwnPV w base A n c ps) : OwnPV w' base A n c ps := by
  obtain ⟨vs, a1, a2, a3⟩ := ho
  exact ⟨vs, h.own h1 a1, h.ownsV h2 a2, a3⟩
end
/-- Slices of parts, each one's own. -/
def FramesV (w : World) (base : Nat) : List Value → List (List Ph.Part) → Prop
  | [], [] => True
  | v :: vs, p :: ps => (∃ A n c, v = .slice A n c ∧ OwnPV w base A n c p) ∧ FramesV w base vs ps
  | _, _ => False
section
variable {w w' : World} {base : Nat}
theorem FramesV.keep {T : TypeId → Prop} (h : KeepT T w w') (h1 : T 78) (h2 : T 3) : ∀ {vs : List Value} {pss : List (List Ph.Part)}, FramesV w base vs pss → FramesV w' base vs pss
  | [], [], _ => trivial
  | _ :: _, _ :: _, ⟨⟨A, n, c, e, ho⟩, hr⟩ => ⟨⟨A, n, c, e, h.ownPV h1 h2 ho⟩, hr.keep h h1 h2⟩
  | [], _ :: _, x => x.elim
  | _ :: _, [], x => x.elim
theorem FramesV.len : ∀ {vs : List Value} {pss : List (List Ph.Part)}, FramesV w base vs pss → vs.length = pss.length
  | [], [], _ => rfl
  | _ :: _, _ :: _, h => by simp [FramesV.len h.2]
  | [], _ :: _, x => x.elim
  | _ :: _, [], x => x.elim
theorem FramesV.snoc {A : Option Addr} {n c : Nat} {p : List Ph.Part} (ho : OwnPV w base A n c p) : ∀ {vs : List Value} {pss : List (List Ph.Part)}, FramesV w base vs pss → FramesV w base (vs ++ [.slice A n c]) (pss ++ [p])
  | [], [], _ => ⟨⟨A, n, c, rfl, ho⟩, trivial⟩
  | _ :: _, _ :: _, h => ⟨h.1, FramesV.snoc ho h.2⟩
  | [], _ :: _, x => x.elim
  | _ :: _, [], x => x.elim
theorem FramesV.get : ∀ {vs : List Value} {pss : List (List Ph.Part)} {i : Nat}, FramesV w base vs pss → i < pss.length → ∃ A n c, vs[i]? = some (.slice A n c) ∧ OwnPV w base A n c (pss.getD i [])
  | _ :: _, _ :: _, 0, h, _ => by
    obtain ⟨⟨A, n, c, rfl, ho⟩, _⟩ := h
    exact ⟨A, n, c, rfl, ho⟩
  | _ :: _, _ :: _, i + 1, h, hi => by
    obtain ⟨A, n, c, h1, h2⟩ := FramesV.get (i := i) h.2 (by simpa using hi)
    exact ⟨A, n, c, by simpa using h1, by simpa using h2⟩
  | [], [], _, _, hi => by simp at hi
  | [], _ :: _, _, x, _ => x.elim
  | _ :: _, [], _, x, _ => x.elim
end
theorem parts_info : (Tryz.prog.info? 36).map (fun i => (i.zero, i.size, i.bytes)) = some (some (.slice none 0 0), 1, 24) := by kernel_rfl
/-- 'append(v, x)' of one frame. -/
theorem wpList_pushF {ops : Array Oper} {rest : List Oper} {o : Oper} {a : Act} {Q : Exit → Act → World → Prop} (w : World) (hgd : o.guard = none) (s x : Operand)
    (ho : o.op = .call { callee := .builtin .append, args := #[s, x], argTypes := #[50, 50] })
    (base : Nat) (A : Option Addr) (k c : Nat) (vs : List Value) (y : Value) (hown : w.ownsRow base 36 1 (.slice A k c) k vs) (hbase : base ≤ w.heap.size)
    (hy : y.oneCell' = true) (hk : k + 1 ≤ 4000000000) (hs : a.eval s = .slice A k c) (hx : a.eval x = .slice (some ⟨w.heap.size, 0, none⟩) 1 1)
    (h : ∀ g cap w', w'.ownsRow base 36 1 (.slice (some ⟨g, 0, none⟩) (k + 1) cap) (k + 1) (vs ++ [y]) → (w.alloc (.cells #[y] 36)).grownBy w' (Value.slice A k c).ownBlock → wpList Tryz.prog ops Q rest (a.put o.dst (.slice (some ⟨g, 0, none⟩) (k + 1) cap)) w') :
    wpList Tryz.prog ops Q (o :: rest) a (w.alloc (.cells #[y] 36)) := by
  obtain ⟨i0, hi, hz0, hz1, hz2⟩ := info_parts parts_info
  refine wpList_append_lies _ hgd s x 50 ho base 36 i0 (.slice none 0 0) 1 24 Tryz.underlying50 hi hz0 hz1 hz2 rfl (by omega) _ _ _ hs (hown.alloc _) ⟨w.heap.size, 0, none⟩ 1 1 [y] hx rfl ?_ ?_ (by omega) ?_ ?_ ?_ (w.heap.size + 1) (by simp) ?_
  · intro j u hj
    match j, hj with
    | 0, hj => simp at hj; subst hj; simp [Addr.add]
  · intro u hu
    simp at hu
    subst hu
    exact hy
  · unfold maxLen; omega
  · omega
  · simp; omega
  · intro g cap w' ho' hg _ _
    exact h g cap w' ho' hg
end Go.Proofs.YtmohilfebgahoaaGreatDoor
