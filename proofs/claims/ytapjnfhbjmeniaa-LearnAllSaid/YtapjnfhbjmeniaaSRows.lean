/- Slices of slices of ints: rows that read as lists of lists; 'append(v, x)' of one slice to one's own row of slices. -/
import Derived.Test.YtapjnfhbjmeniaaPush
namespace Go.Proofs.Ytapjnfhbjmeniaa
open Go.RowKit

/-- A value that reads as the list l. -/
def RowV (w : World) (B : Nat) (v : Value) (l : List Int) : Prop := ∃ A c, v = .slice A l.length c ∧ (l.length ≤ c ∧ (A = none → c = 0)) ∧ RdI w B A l.length l
/-- Values that read as the lists ls. -/
def RowsV (w : World) (B : Nat) : List Value → List (List Int) → Prop
  | [], [] => True
  | v :: vs, l :: ls => RowV w B v l ∧ RowsV w B vs ls
  | _, _ => False
section
variable {w w' : World} {B B' : Nat}
theorem RowV.more {v : Value} {l : List Int} (h : RowV w B v l) (hB : B ≤ B') : RowV w B' v l := by
  obtain ⟨A, c, e, hc, hr⟩ := h
  exact ⟨A, c, e, hc, hr.more hB⟩
theorem RowV.below {v : Value} {l : List Int} (h : RowV w B v l) (hb : Below B w w') : RowV w' B v l := by
  obtain ⟨A, c, e, hc, hr⟩ := h
  exact ⟨A, c, e, hc, hr.below hb⟩
theorem RowsV.more : ∀ {vs : List Value} {ls : List (List Int)}, RowsV w B vs ls → B ≤ B' → RowsV w B' vs ls
  | [], [], _, _ => trivial
  | _ :: _, _ :: _, h, hB => ⟨h.1.more hB, RowsV.more h.2 hB⟩
  | [], _ :: _, h, _ => h.elim
  | _ :: _, [], h, _ => h.elim
theorem RowsV.below : ∀ {vs : List Value} {ls : List (List Int)}, RowsV w B vs ls → Below B w w' → RowsV w' B vs ls
  | [], [], _, _ => trivial
  | _ :: _, _ :: _, h, hb => ⟨h.1.below hb, RowsV.below h.2 hb⟩
  | [], _ :: _, h, _ => h.elim
  | _ :: _, [], h, _ => h.elim
theorem RowsV.on {vs : List Value} {ls : List (List Int)} (h : RowsV w w.heap.size vs ls) (hb : Below w.heap.size w w') : RowsV w' w'.heap.size vs ls := (h.below hb).more hb.size
theorem RowsV.len : ∀ {vs : List Value} {ls : List (List Int)}, RowsV w B vs ls → vs.length = ls.length
  | [], [], _ => rfl
  | _ :: _, _ :: _, h => by simp [RowsV.len h.2]
  | [], _ :: _, h => h.elim
  | _ :: _, [], h => h.elim
theorem RowsV.get : ∀ {vs : List Value} {ls : List (List Int)} {i : Nat}, RowsV w B vs ls → i < ls.length → ∃ v, vs[i]? = some v ∧ RowV w B v (ls.getD i [])
  | v :: _, _ :: _, 0, h, _ => ⟨v, rfl, h.1⟩
  | _ :: vs, _ :: ls, i + 1, h, hi => by
    have := RowsV.get (i := i) h.2 (by simpa using hi)
    simpa using this
  | [], [], _, _, hi => by simp at hi
  | [], _ :: _, _, h, _ => h.elim
  | _ :: _, [], _, h, _ => h.elim
theorem RowsV.snoc : ∀ {vs : List Value} {ls : List (List Int)} {v : Value} {l : List Int}, RowsV w B vs ls → RowV w B v l → RowsV w B (vs ++ [v]) (ls ++ [l])
  | [], [], _, _, _, h => ⟨h, trivial⟩
  | _ :: _, _ :: _, _, _, h, hv => ⟨h.1, RowsV.snoc h.2 hv⟩
  | [], _ :: _, _, _, h, _ => h.elim
  | _ :: _, [], _, _, h, _ => h.elim
theorem RowsV.one : ∀ {vs : List Value} {ls : List (List Int)}, RowsV w B vs ls → ∀ u ∈ vs, u.oneCell' = true
  | [], [], _, _, hu => by cases hu
  | v :: vs, _ :: _, h, u, hu => by
    rcases List.mem_cons.1 hu with rfl | hu
    · obtain ⟨A, c, rfl, _, _⟩ := h.1
      rfl
    · exact RowsV.one h.2 u hu
  | [], _ :: _, h, _, _ => h.elim
  | _ :: _, [], h, _, _ => h.elim
end
theorem ints_info : (Try.prog.info? 22).map (fun i => (i.zero, i.size, i.bytes)) = some (some (.slice none 0 0), 1, 24) := by kernel_rfl
/-- A slice of slices that reads as lists of lists. -/
def RdR (w : World) (B : Nat) (A : Option Addr) (n : Nat) (ls : List (List Int)) : Prop := ∃ vs, Rd w B A n vs ∧ RowsV w B vs ls
section
variable {w w' : World} {B B' n : Nat} {A : Option Addr} {ls : List (List Int)}
theorem RdR.len (h : RdR w B A n ls) : ls.length = n := by
  obtain ⟨vs, h1, h2⟩ := h
  rw [← h2.len]; exact h1.1
theorem RdR.more (h : RdR w B A n ls) (hB : B ≤ B') : RdR w B' A n ls := by
  obtain ⟨vs, h1, h2⟩ := h
  exact ⟨vs, h1.more hB, h2.more hB⟩
theorem RdR.below (h : RdR w B A n ls) (hb : Below B w w') : RdR w' B A n ls := by
  obtain ⟨vs, h1, h2⟩ := h
  exact ⟨vs, h1.below hb, h2.below hb⟩
theorem RdR.on (h : RdR w w.heap.size A n ls) (hb : Below w.heap.size w w') : RdR w' w'.heap.size A n ls := (h.below hb).more hb.size
theorem RdR.at_ {k : Nat} (h : RdR w B A n ls) (hk : k < n) : ∃ b off A2 c2, A = some ⟨b, off, none⟩ ∧ b < B ∧ w.cell? ⟨b, off + k, none⟩ = some (.slice A2 (ls.getD k []).length c2) ∧ (ls.getD k []).length ≤ c2 ∧ RdI w B A2 (ls.getD k []).length (ls.getD k []) := by
  have hl := h.len
  obtain ⟨vs, h1, h2⟩ := h
  obtain ⟨b, off, u, e, hb, hu, hc⟩ := h1.at_ hk
  obtain ⟨v, hv, A2, c2, rfl, hle, hr⟩ := h2.get (i := k) (by omega)
  rw [hv] at hu
  have hu' := Option.some.inj hu
  subst hu'
  exact ⟨b, off, A2, c2, e, hb, hc, hle.1, hr⟩
/-- The same, of a nil one besides that it has no room. -/
theorem RdR.at2 {k : Nat} (h : RdR w B A n ls) (hk : k < n) : ∃ b off A2 c2, A = some ⟨b, off, none⟩ ∧ b < B ∧ w.cell? ⟨b, off + k, none⟩ = some (.slice A2 (ls.getD k []).length c2) ∧ (A2 = none → c2 = 0) ∧ RdI w B A2 (ls.getD k []).length (ls.getD k []) := by
  have hl := h.len
  obtain ⟨vs, h1, h2⟩ := h
  obtain ⟨b, off, u, e, hb, hu, hc⟩ := h1.at_ hk
  obtain ⟨v, hv, A2, c2, rfl, hle, hr⟩ := h2.get (i := k) (by omega)
  rw [hv] at hu
  have hu' := Option.some.inj hu
  subst hu'
  exact ⟨b, off, A2, c2, e, hb, hc, hle.2, hr⟩
/-- .. as a value that reads. -/
theorem RdR.at3 {k : Nat} (h : RdR w B A n ls) (hk : k < n) : ∃ b off A2 c2, A = some ⟨b, off, none⟩ ∧ b < B ∧ w.cell? ⟨b, off + k, none⟩ = some (.slice A2 (ls.getD k []).length c2) ∧ RowV w B (.slice A2 (ls.getD k []).length c2) (ls.getD k []) := by
  have hl := h.len
  obtain ⟨vs, h1, h2⟩ := h
  obtain ⟨b, off, u, e, hb, hu, hc⟩ := h1.at_ hk
  obtain ⟨v, hv, A2, c2, rfl, hle, hr⟩ := h2.get (i := k) (by omega)
  rw [hv] at hu
  have hu' := Option.some.inj hu
  subst hu'
  exact ⟨b, off, A2, c2, e, hb, hc, A2, c2, rfl, hle, hr⟩
theorem RdR.own {base c : Nat} {vs : List Value} (h : w.ownsRow base 22 1 (.slice A n c) n vs) (h2 : RowsV w w.heap.size vs ls) : RdR w w.heap.size A n ls := ⟨vs, Rd.own h, h2⟩
end
theorem wpList_pushR {ops : Array Oper} {rest : List Oper} {o : Oper} {a : Act} {Q : Exit → Act → World → Prop} (w : World) (hgd : o.guard = none) (s x : Operand)
    (ho : o.op = .call { callee := .builtin .append, args := #[s, x], argTypes := #[32, 32] })
    (W0 : World) (base : Nat) (A : Option Addr) (k c : Nat) (vs : List Value) (y : Value) (hown : w.ownsRow base 22 1 (.slice A k c) k vs) (hbel : Below base W0 w) (hbase : base ≤ w.heap.size)
    (hy : y.oneCell' = true) (hk : k + 1 ≤ 5000000000000) (hs : a.eval s = .slice A k c) (hx : a.eval x = .slice (some ⟨w.heap.size, 0, none⟩) 1 1)
    (h : ∀ g cap w', w'.ownsRow base 22 1 (.slice (some ⟨g, 0, none⟩) (k + 1) cap) (k + 1) (vs ++ [y]) → Below base W0 w' → (w.alloc (.cells #[y] 22)).grownBy w' (Value.slice A k c).ownBlock → wpList Try.prog ops Q rest (a.put o.dst (.slice (some ⟨g, 0, none⟩) (k + 1) cap)) w') :
    wpList Try.prog ops Q (o :: rest) a (w.alloc (.cells #[y] 22)) := by
  obtain ⟨i0, hi, hz0, hz1, hz2⟩ := info_parts ints_info
  refine wpList_append_lies _ hgd s x 32 ho base 22 i0 (.slice none 0 0) 1 24 Try.underlying32 hi hz0 hz1 hz2 rfl (by omega) _ _ _ hs (hown.alloc _) ⟨w.heap.size, 0, none⟩ 1 1 [y] hx rfl ?_ ?_ (by omega) ?_ ?_ ?_ (w.heap.size + 1) (by simp) ?_
  · intro j u hj
    match j, hj with
    | 0, hj => simp at hj; subst hj; simp [Addr.add]
  · intro u hu
    simp at hu
    subst hu
    exact hy
  · unfold maxLen; omega
  · omega
  · simp; omega
  · intro g cap w' ho' hg _ _
    refine h g cap w' ho' ?_ hg
    refine (hbel.alloc hbase _).grown hg (by simp; omega) ?_
    intro q hq
    rcases hown.2 with ⟨h1, h2⟩ | ⟨g', cap', cur, h1, h2, _⟩
    · rw [h1] at hq; simp [Value.ownBlock] at hq
    · rw [h1] at hq; simp [Value.ownBlock] at hq; omega
/-- The same at a step of a region that draws its order, at whatever world. -/
theorem step_pushR {ops : Array Oper} {o : Oper} {a : Act} {K : Act → World → Prop} {Q : Exit → Act → World → Prop} {E : Prop} (W : World) (hgd : o.guard = none) (s x : Operand)
    (ho : o.op = .call { callee := .builtin .append, args := #[s, x], argTypes := #[32, 32] })
    (W0 : World) (base : Nat) (A : Option Addr) (k c : Nat) (vs : List Value) (y : Value) (g0 : Nat) (hown : W.ownsRow base 22 1 (.slice A k c) k vs) (hbel : Below base W0 W) (hbase : base ≤ W.heap.size)
    (hcell : W.cell? ⟨g0, 0, none⟩ = some y) (hy : y.oneCell' = true) (hk : k + 1 ≤ 5000000000000) (hs : a.eval s = .slice A k c) (hx : a.eval x = .slice (some ⟨g0, 0, none⟩) 1 1)
    (h : ∀ g cap w', w'.ownsRow base 22 1 (.slice (some ⟨g, 0, none⟩) (k + 1) cap) (k + 1) (vs ++ [y]) → Below base W0 w' → W.grownBy w' (Value.slice A k c).ownBlock → K (a.put o.dst (.slice (some ⟨g, 0, none⟩) (k + 1) cap)) w') :
    if Region.wanted o (yielded ops a.tmps) = true then Oper.wp Try.prog o a W K Q else E := by
  obtain ⟨i0, hi, hz0, hz1, hz2⟩ := info_parts ints_info
  refine step_append_lies _ hgd s x 32 ho base 22 i0 (.slice none 0 0) 1 24 Try.underlying32 hi hz0 hz1 hz2 rfl (by omega) _ _ _ hs hown ⟨g0, 0, none⟩ 1 1 [y] hx rfl ?_ ?_ (by omega) ?_ ?_ hbase _ rfl ?_
  · intro j u hj
    match j, hj with
    | 0, hj => simp at hj; subst hj; simpa [Addr.add] using hcell
  · intro u hu
    simp at hu
    subst hu
    exact hy
  · unfold maxLen; omega
  · omega
  · intro g cap w' ho' hg _ _
    refine h g cap w' ho' (hbel.grown hg hbase ?_) hg
    intro q hq
    rcases hown.2 with ⟨h1, h2⟩ | ⟨g', cap', cur, h1, h2, _⟩
    · rw [h1] at hq; simp [Value.ownBlock] at hq
    · rw [h1] at hq; simp [Value.ownBlock] at hq; omega
/-! ### Slices of the call's own in a row of the call's own. -/
/-- A value that is the call's own row of the list l. -/
def OwnV (w : World) (base : Nat) (v : Value) (l : List Int) : Prop := ∃ A c, v = .slice A l.length c ∧ w.ownsRow base 3 1 (.slice A l.length c) l.length (ivals l)
def OwnsV (w : World) (base : Nat) : List Value → List (List Int) → Prop
  | [], [] => True
  | v :: vs, l :: ls => OwnV w base v l ∧ OwnsV w base vs ls
  | _, _ => False
section
variable {w w' : World} {base : Nat}
theorem OwnV.below {v : Value} {l : List Int} (h : OwnV w base v l) (hb : Below w.heap.size w w') : OwnV w' base v l := by
  obtain ⟨A, c, e, ho⟩ := h
  exact ⟨A, c, e, own_below' ho hb⟩
/-- A row of slices grows: the rows of ints are as they were, their blocks being of another type. -/
theorem ints_apart {v u : Value} {n k : Nat} {xs : List Value} {l : List Int} (ho : w.ownsRow base 22 1 v n xs) (hi : w.ownsRow base 3 1 u k (ivals l)) : u.ownBlock = none ∨ v.ownBlock = none ∨ u.ownBlock ≠ v.ownBlock := by
  rcases ho.2 with ⟨h1, _⟩ | ⟨g, cap, cur, h1, _, hg, _⟩
  · right; left; rw [h1]; rfl
  · rcases hi.2 with ⟨h2, _⟩ | ⟨g', cap', cur', h2, _, hg', _⟩
    · left; rw [h2]; rfl
    · right; right
      rw [h1, h2]
      intro e
      have e2 : g' = g := by simpa [Value.ownBlock] using e
      subst e2
      rw [hg] at hg'
      have := Option.some.inj hg'
      injection this with _ h3 _
      exact absurd h3 (by decide)
theorem OwnV.grown {v u : Value} {n : Nat} {xs : List Value} {l : List Int} (ho : w.ownsRow base 22 1 v n xs) (h : OwnV w base u l) (hg : w.grownBy w' v.ownBlock) : OwnV w' base u l := by
  obtain ⟨A, c, e, hi⟩ := h
  refine ⟨A, c, e, ?_⟩
  rcases ints_apart ho hi with h1 | h1 | h1
  · rcases hi.2 with ⟨h2, h3⟩ | ⟨g', cap', cur', h2, _⟩
    · exact ⟨hi.1, .inl ⟨h2, h3⟩⟩
    · exact hi.kept hg (.inl h1)
  · by_cases h2 : (Value.slice A l.length c).ownBlock = none
    · exact hi.kept hg (.inl h2)
    · exact hi.kept hg (.inr (by rw [h1]; exact h2))
  · exact hi.kept hg (.inr h1)
theorem OwnV.alloc {u : Value} {l : List Int} (h : OwnV w base u l) (o : Obj) : OwnV (w.alloc o) base u l := by
  obtain ⟨A, c, e, hi⟩ := h
  exact ⟨A, c, e, hi.alloc o⟩
theorem OwnV.rows {u : Value} {l : List Int} (h : OwnV w base u l) : RowV w w.heap.size u l := by
  obtain ⟨A, c, e, hi⟩ := h
  exact ⟨A, c, e, ⟨own_cap hi, own_none hi⟩, RdI.own hi⟩
theorem OwnsV.map (f : ∀ v l, OwnV w base v l → OwnV w' base v l) : ∀ {vs : List Value} {ls : List (List Int)}, OwnsV w base vs ls → OwnsV w' base vs ls
  | [], [], _ => trivial
  | _ :: _, _ :: _, h => ⟨f _ _ h.1, OwnsV.map f h.2⟩
  | [], _ :: _, h => h.elim
  | _ :: _, [], h => h.elim
theorem OwnsV.below {vs : List Value} {ls : List (List Int)} (h : OwnsV w base vs ls) (hb : Below w.heap.size w w') : OwnsV w' base vs ls := h.map fun _ _ x => x.below hb
theorem OwnsV.alloc {vs : List Value} {ls : List (List Int)} (h : OwnsV w base vs ls) (o : Obj) : OwnsV (w.alloc o) base vs ls := h.map fun _ _ x => x.alloc o
theorem OwnsV.grown {v : Value} {n : Nat} {xs vs : List Value} {ls : List (List Int)} (ho : w.ownsRow base 22 1 v n xs) (h : OwnsV w base vs ls) (hg : w.grownBy w' v.ownBlock) : OwnsV w' base vs ls := h.map fun _ _ x => x.grown ho hg
theorem OwnsV.rows : ∀ {vs : List Value} {ls : List (List Int)}, OwnsV w base vs ls → RowsV w w.heap.size vs ls
  | [], [], _ => trivial
  | _ :: _, _ :: _, h => ⟨h.1.rows, OwnsV.rows h.2⟩
  | [], _ :: _, h => h.elim
  | _ :: _, [], h => h.elim
theorem OwnsV.snoc : ∀ {vs : List Value} {ls : List (List Int)} {v : Value} {l : List Int}, OwnsV w base vs ls → OwnV w base v l → OwnsV w base (vs ++ [v]) (ls ++ [l])
  | [], [], _, _, _, h => ⟨h, trivial⟩
  | _ :: _, _ :: _, _, _, h, hv => ⟨h.1, OwnsV.snoc h.2 hv⟩
  | [], _ :: _, _, _, h, _ => h.elim
  | _ :: _, [], _, _, h, _ => h.elim
theorem OwnsV.more {base' : Nat} (hb : base' ≤ base) : ∀ {vs : List Value} {ls : List (List Int)}, OwnsV w base vs ls → OwnsV w base' vs ls
  | [], [], _ => trivial
  | _ :: _, _ :: _, h => ⟨by obtain ⟨A, c, e, hi⟩ := h.1; exact ⟨A, c, e, own_more hi hb⟩, OwnsV.more hb h.2⟩
  | [], _ :: _, h => h.elim
  | _ :: _, [], h => h.elim
end
end Go.Proofs.Ytapjnfhbjmeniaa
