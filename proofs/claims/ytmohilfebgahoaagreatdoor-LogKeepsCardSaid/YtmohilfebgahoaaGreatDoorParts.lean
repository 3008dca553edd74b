/- Slices of parts (a gain, and pulses: two cells each): read, and of the call's own. -/
import Derived.Test.YtmohilfebgahoaaGreatDoorMem
import Derived.Test.YtmohilfebgahoaaGreatDoorPhAll
namespace Go.Proofs.YtmohilfebgahoaaGreatDoor
open Go.RowKit

/-- The cells of parts: of each its gain, and its pulses' slice. -/
def pcells : List Int → List Value → List Value
  | g :: gs, v :: vs => .int .i64 g :: v :: pcells gs vs
  | _, _ => []
theorem pcells_length : ∀ {gs : List Int} {vs : List Value}, gs.length = vs.length → (pcells gs vs).length = gs.length * 2
  | [], [], _ => rfl
  | g :: gs, v :: vs, h => by
    have := pcells_length (gs := gs) (vs := vs) (by simpa using h)
    simp only [pcells, List.length_cons, this]; omega
  | [], _ :: _, h => by simp at h
  | _ :: _, [], h => by simp at h
theorem pcells_get : ∀ {gs : List Int} {vs : List Value} {k : Nat}, gs.length = vs.length → k < gs.length → (pcells gs vs)[k * 2]? = some (.int .i64 (gs.getD k 0)) ∧ (pcells gs vs)[k * 2 + 1]? = vs[k]?
  | g :: gs, v :: vs, 0, _, _ => ⟨rfl, rfl⟩
  | g :: gs, v :: vs, k + 1, h, hk => by
    have := pcells_get (gs := gs) (vs := vs) (k := k) (by simpa using h) (by simpa using hk)
    have e1 : (k + 1) * 2 = k * 2 + 2 := by omega
    have e2 : (k + 1) * 2 + 1 = k * 2 + 1 + 2 := by omega
    rw [e2, e1]
    simpa [pcells] using this
  | [], _, _, _, hk => by simp at hk
  | _ :: _, [], _, h, _ => by simp at h
theorem pcells_append : ∀ {gs gs2 : List Int} {vs vs2 : List Value}, gs.length = vs.length → pcells (gs ++ gs2) (vs ++ vs2) = pcells gs vs ++ pcells gs2 vs2
  | [], _, [], _, _ => rfl
  | g :: gs, gs2, v :: vs, vs2, h => by simp only [List.cons_append, pcells, pcells_append (gs := gs) (vs := vs) (by simpa using h)]
  | [], _, _ :: _, _, h => by simp at h
  | _ :: _, _, [], _, h => by simp at h
theorem pcells_set_gain : ∀ {gs : List Int} {vs : List Value} {k : Nat} (g : Int), gs.length = vs.length → (pcells gs vs).set (k * 2) (.int .i64 g) = pcells (gs.set k g) vs
  | [], [], _, _, _ => rfl
  | g :: gs, v :: vs, 0, _, _ => rfl
  | g :: gs, v :: vs, k + 1, x, h => by
    have := pcells_set_gain (gs := gs) (vs := vs) (k := k) x (by simpa using h)
    have e1 : (k + 1) * 2 = k * 2 + 1 + 1 := by omega
    rw [e1]
    simp only [pcells, List.set_cons_succ, this]
  | [], _ :: _, _, _, h => by simp at h
  | _ :: _, [], _, _, h => by simp at h
theorem pcells_set_row : ∀ {gs : List Int} {vs : List Value} {k : Nat} (u : Value), gs.length = vs.length → (pcells gs vs).set (k * 2 + 1) u = pcells gs (vs.set k u)
  | [], [], _, _, _ => rfl
  | g :: gs, v :: vs, 0, _, _ => rfl
  | g :: gs, v :: vs, k + 1, x, h => by
    have := pcells_set_row (gs := gs) (vs := vs) (k := k) x (by simpa using h)
    have e1 : (k + 1) * 2 + 1 = k * 2 + 1 + 1 + 1 := by omega
    rw [e1]
    simp only [pcells, List.set_cons_succ, this]
  | [], _ :: _, _, _, h => by simp at h
  | _ :: _, [], _, _, h => by simp at h
theorem pcells_one : ∀ {gs : List Int} {vs : List Value}, (∀ u ∈ vs, u.oneCell' = true) → ∀ u ∈ pcells gs vs, u.oneCell' = true
  | g :: gs, v :: vs, h, u, hu => by
    simp only [pcells, List.mem_cons] at hu
    rcases hu with rfl | rfl | hu
    · rfl
    · exact h _ (by simp)
    · exact pcells_one (gs := gs) (vs := vs) (fun x hx => h x (by simp [hx])) u hu
  | [], _, _, _, hu => by simp [pcells] at hu
  | _ :: _, [], _, _, hu => by simp [pcells] at hu
def gainsP (ps : List Ph.Part) : List Int := ps.map fun p => p.gain
def rowsP (ps : List Ph.Part) : List (List Int) := ps.map fun p => p.pulses
/-- A slice of parts that reads as ps. -/
def RdP (w : World) (B : Nat) (A : Option Addr) (n : Nat) (ps : List Ph.Part) : Prop :=
  ps.length = n ∧ ∃ vs, Rd w B A (n * 2) (pcells (gainsP ps) vs) ∧ RowsV w B vs (rowsP ps)
section
variable {w w' : World} {B B' n : Nat} {A : Option Addr} {ps : List Ph.Part}
theorem RdP.len (h : RdP w B A n ps) : ps.length = n := h.1
theorem RdP.more (h : RdP w B A n ps) (hB : B ≤ B') : RdP w B' A n ps := by
  obtain ⟨hl, vs, h1, h2⟩ := h
  exact ⟨hl, vs, h1.more hB, h2.more hB⟩
theorem RdP.below (h : RdP w B A n ps) (hb : Below B w w') : RdP w' B A n ps := by
  obtain ⟨hl, vs, h1, h2⟩ := h
  exact ⟨hl, vs, h1.below hb, h2.below hb⟩
theorem RdP.on (h : RdP w w.heap.size A n ps) (hb : Below w.heap.size w w') : RdP w' w'.heap.size A n ps := (h.below hb).more hb.size
theorem RdP.nil : RdP w B A 0 [] := ⟨rfl, [], Rd.nil, trivial⟩
theorem getD_map {α β : Type} (f : α → β) (l : List α) (k : Nat) (d : α) (d' : β) (h : k < l.length) : (l.map f).getD k d' = f (l.getD k d) := by
  rw [List.getD_eq_getElem?_getD, List.getElem?_map, List.getD_eq_getElem?_getD, List.getElem?_eq_getElem h]; rfl
theorem RdP.at_ {k : Nat} (h : RdP w B A n ps) (hk : k < n) : ∃ b off A2 c2, A = some ⟨b, off, none⟩ ∧ b < B ∧ w.cell? ⟨b, off + k * 2, none⟩ = some (.int .i64 (ps.getD k ⟨0, []⟩).gain) ∧
    w.cell? ⟨b, off + k * 2 + 1, none⟩ = some (.slice A2 (ps.getD k ⟨0, []⟩).pulses.length c2) ∧ ((ps.getD k ⟨0, []⟩).pulses.length ≤ c2 ∧ (A2 = none → c2 = 0)) ∧ RdI w B A2 (ps.getD k ⟨0, []⟩).pulses.length (ps.getD k ⟨0, []⟩).pulses := by
  obtain ⟨hl, vs, h1, h2⟩ := h
  obtain ⟨b, off, e, hb, hc⟩ := h1.2 (by omega)
  have hvl := h2.len
  have hgv : (gainsP ps).length = vs.length := by rw [hvl]; simp [gainsP, rowsP]
  have hg := pcells_get (k := k) hgv (by simp [gainsP]; omega)
  obtain ⟨v, hv, A2, c2, rfl, hle, hr⟩ := h2.get (i := k) (by simp [rowsP]; omega)
  have e1 : (gainsP ps).getD k 0 = (ps.getD k ⟨0, []⟩).gain := getD_map _ _ _ _ _ (by omega)
  have e2 : (rowsP ps).getD k [] = (ps.getD k ⟨0, []⟩).pulses := getD_map _ _ _ _ _ (by omega)
  rw [e1, hv, e2] at hg
  rw [e2] at hle hr
  refine ⟨b, off, A2, c2, e, hb, ?_, ?_, hle, hr⟩
  · rw [hc _ (by omega), hg.1]
  · rw [Nat.add_assoc, hc _ (by omega), hg.2]
/-- What is the call's own reads. -/
theorem Rd.own2 {base : Nat} {e : TypeId} {c : Nat} {xs : List Value} (h : w.ownsRow base e 2 (.slice A n c) n xs) : Rd w w.heap.size A (n * 2) xs := by
  refine ⟨h.1, fun hn => ?_⟩
  obtain ⟨g, cap, hv, _, hlt⟩ := h.form (by omega)
  have hA : A = some ⟨g, 0, none⟩ := by injection hv
  have hcap : c = cap := by injection hv
  subst hA
  subst hcap
  exact ⟨g, 0, rfl, hlt, fun j hj => by rw [Nat.zero_add]; exact h.cellAt j hj⟩
/-- A slice of parts of the call's own: the row, and what its pulses read as. -/
def OwnP (w : World) (base : Nat) (A : Option Addr) (n c : Nat) (ps : List Ph.Part) : Prop :=
  ∃ vs, w.ownsRow base 78 2 (.slice A n c) n (pcells (gainsP ps) vs) ∧ RowsV w w.heap.size vs (rowsP ps) ∧ ps.length = n
theorem OwnP.rd {base c : Nat} (h : OwnP w base A n c ps) : RdP w w.heap.size A n ps := by
  obtain ⟨vs, h1, h2, h3⟩ := h
  exact ⟨h3, vs, Rd.own2 h1, h2⟩
theorem OwnP.len {base c : Nat} (h : OwnP w base A n c ps) : ps.length = n := by
  obtain ⟨vs, h1, h2, h3⟩ := h
  exact h3
theorem OwnP.nil (w : World) (base : Nat) : OwnP w base none 0 0 [] := ⟨[], World.ownsRow_nil w base _ 2, trivial, rfl⟩
theorem own_below2 {base : Nat} {e : TypeId} {v : Value} {n : Nat} {xs : List Value} {w w' : World} {B : Nat} (h : w.ownsRow base e 2 v n xs) (hb : Below B w w') (hB : ∀ g, v.ownBlock = some g → g < B) : w'.ownsRow base e 2 v n xs := by
  refine ⟨h.1, ?_⟩
  rcases h.2 with h0 | ⟨g, cap, cur, rfl, hg, hh, r⟩
  · exact .inl h0
  · exact .inr ⟨g, cap, cur, rfl, hg, by rw [hb.block g (hB g rfl)]; exact hh, r⟩
theorem OwnP.below' {base c : Nat} (h : OwnP w base A n c ps) (hb : Below w.heap.size w w') : OwnP w' base A n c ps := by
  obtain ⟨vs, h1, h2, h3⟩ := h
  refine ⟨vs, own_below2 h1 hb fun g hg => (h1.lt g hg).2, h2.on hb, h3⟩
theorem OwnP.cap {base c : Nat} (h : OwnP w base A n c ps) : n ≤ c ∧ (A = none → c = 0) := by
  obtain ⟨vs, h1, h2, h3⟩ := h
  rcases h1.2 with ⟨hv, h0⟩ | ⟨g, cap, cur, hv, _, _, hnc, _⟩
  · injection hv with a1 a2 a3
    exact ⟨by omega, fun _ => a3⟩
  · injection hv with a1 a2 a3
    exact ⟨by omega, fun h => by rw [h] at a1; cases a1⟩
end
theorem part_info : (Tryz.prog.info? 78).map (fun i => (i.zero, i.size, i.bytes)) = some (some (.agg #[.int .i64 0, .slice none 0 0]), 2, 32) := by kernel_rfl
/-- Rows of numbers and rows of parts never share a block, by the block's type. -/
theorem parts_apart {w : World} {b1 b2 : Nat} {v u : Value} {n k : Nat} {xs ys : List Value} (ho : w.ownsRow b1 78 2 v n xs) (hi : w.ownsRow b2 3 1 u k ys) : u.ownBlock = none ∨ v.ownBlock = none ∨ u.ownBlock ≠ v.ownBlock := by
  rcases ho.2 with ⟨h1, _⟩ | ⟨g, cap, cur, h1, _, hg, _⟩
  · right; left; rw [h1]; rfl
  · rcases hi.2 with ⟨h2, _⟩ | ⟨g', cap', cur', h2, _, hg', _⟩
    · left; rw [h2]; rfl
    · right; right
      rw [h1, h2]
      intro e
      have e2 : g' = g := by simpa [Value.ownBlock] using e
      subst e2
      rw [hg] at hg'
      have := Option.some.inj hg'
      injection this with _ h3 _
      exact absurd h3 (by decide)
theorem ints_kept {w w' : World} {b1 b2 : Nat} {v u : Value} {n k : Nat} {xs ys : List Value} (ho : w.ownsRow b1 78 2 v n xs) (hi : w.ownsRow b2 3 1 u k ys) (hg : w.grownBy w' v.ownBlock) : w'.ownsRow b2 3 1 u k ys := by
  rcases parts_apart ho hi with h1 | h1 | h1
  · rcases hi.2 with ⟨h2, h3⟩ | ⟨g', cap', cur', h2, _⟩
    · exact ⟨hi.1, .inl ⟨h2, h3⟩⟩
    · exact hi.kept hg (.inl h1)
  · by_cases h2 : u.ownBlock = none
    · exact hi.kept hg (.inl h2)
    · exact hi.kept hg (.inr (by rw [h1]; exact h2))
  · exact hi.kept hg (.inr h1)
theorem OwnV.grownP {w w' : World} {base b1 : Nat} {v u : Value} {n : Nat} {xs : List Value} {l : List Int} (ho : w.ownsRow b1 78 2 v n xs) (h : OwnV w base u l) (hg : w.grownBy w' v.ownBlock) : OwnV w' base u l := by
  obtain ⟨A, c, e, hi⟩ := h
  exact ⟨A, c, e, ints_kept ho hi hg⟩
theorem OwnsV.grownP {w w' : World} {base b1 : Nat} {v : Value} {n : Nat} {xs vs : List Value} {ls : List (List Int)} (ho : w.ownsRow b1 78 2 v n xs) (h : OwnsV w base vs ls) (hg : w.grownBy w' v.ownBlock) : OwnsV w' base vs ls := h.map fun _ _ x => x.grownP ho hg
/-- A slice of parts of the call's own, its pulses' rows too. -/
def OwnPV (w : World) (base : Nat) (A : Option Addr) (n c : Nat) (ps : List Ph.Part) : Prop :=
  ∃ vs, w.ownsRow base 78 2 (.slice A n c) n (pcells (gainsP ps) vs) ∧ OwnsV w base vs (rowsP ps) ∧ ps.length = n
section
variable {w w' : World} {base n c : Nat} {A : Option Addr} {ps : List Ph.Part}
theorem OwnPV.own (h : OwnPV w base A n c ps) : OwnP w base A n c ps := by
  obtain ⟨vs, h1, h2, h3⟩ := h
  exact ⟨vs, h1, h2.rows, h3⟩
theorem OwnPV.below' (h : OwnPV w base A n c ps) (hb : Below w.heap.size w w') : OwnPV w' base A n c ps := by
  obtain ⟨vs, h1, h2, h3⟩ := h
  exact ⟨vs, own_below2 h1 hb fun g hg => (h1.lt g hg).2, h2.below hb, h3⟩
theorem OwnPV.alloc (h : OwnPV w base A n c ps) (o : Obj) : OwnPV (w.alloc o) base A n c ps := by
  obtain ⟨vs, h1, h2, h3⟩ := h
  exact ⟨vs, h1.alloc o, h2.alloc o, h3⟩
theorem OwnPV.nil (w : World) (base : Nat) : OwnPV w base none 0 0 [] := ⟨[], World.ownsRow_nil w base _ 2, trivial, rfl⟩
end
theorem OwnsV.len {w : World} {base : Nat} : ∀ {vs : List Value} {ls : List (List Int)}, OwnsV w base vs ls → vs.length = ls.length
  | [], [], _ => rfl
  | _ :: _, _ :: _, h => by simp [OwnsV.len h.2]
  | [], _ :: _, h => h.elim
  | _ :: _, [], h => h.elim
/-- 'append(v, x)' of one part. -/
theorem wpList_pushP {ops : Array Oper} {rest : List Oper} {o : Oper} {a : Act} {Q : Exit → Act → World → Prop} (w : World) (hgd : o.guard = none) (s x : Operand)
    (ho : o.op = .call { callee := .builtin .append, args := #[s, x], argTypes := #[36, 36] })
    (W0 : World) (base : Nat) (A : Option Addr) (k c : Nat) (ps : List Ph.Part) (y : Int) (hown : OwnPV w base A k c ps) (hbel : Below base W0 w) (hbase : base ≤ w.heap.size)
    (hk : k + 1 ≤ 4000000000000) (hs : a.eval s = .slice A k c) (hx : a.eval x = .slice (some ⟨w.heap.size, 0, none⟩) 1 1)
    (h : ∀ g cap w', OwnPV w' base (some ⟨g, 0, none⟩) (k + 1) cap (ps ++ [⟨y, []⟩]) → Below base W0 w' → (w.alloc (.cells #[.int .i64 y, .slice none 0 0] 78)).grownBy w' (Value.slice A k c).ownBlock → wpList Tryz.prog ops Q rest (a.put o.dst (.slice (some ⟨g, 0, none⟩) (k + 1) cap)) w') :
    wpList Tryz.prog ops Q (o :: rest) a (w.alloc (.cells #[.int .i64 y, .slice none 0 0] 78)) := by
  obtain ⟨i0, hi, hz0, hz1, hz2⟩ := info_parts part_info
  obtain ⟨vs, h1, h2, h3⟩ := hown
  have hgv : (gainsP ps).length = vs.length := by rw [h2.len]; simp [gainsP, rowsP]
  refine wpList_append_lies _ hgd s x 36 ho base 78 i0 (.agg #[.int .i64 0, .slice none 0 0]) 2 32 Tryz.underlying36 hi hz0 hz1 hz2 rfl (by omega) _ _ _ hs (h1.alloc _) ⟨w.heap.size, 0, none⟩ 1 1 [.int .i64 y, .slice none 0 0] hx rfl ?_ ?_ (by omega) ?_ ?_ ?_ (w.heap.size + 1) (by simp) ?_
  · intro j u hj
    match j, hj with
    | 0, hj => simp at hj; subst hj; simp [Addr.add]
    | 1, hj => simp at hj; subst hj; simp [Addr.add]
  · intro u hu
    simp at hu
    rcases hu with rfl | rfl <;> rfl
  · unfold maxLen; omega
  · omega
  · simp; omega
  · intro g cap w' ho' hg _ _
    have hown' : (w.alloc (.cells #[.int .i64 y, .slice none 0 0] 78)).ownsRow base 78 2 (.slice A k c) k (pcells (gainsP ps) vs) := h1.alloc _
    have hv2 := (h2.alloc (.cells #[.int .i64 y, .slice none 0 0] 78)).grownP hown' hg
    refine h g cap w' ⟨vs ++ [.slice none 0 0], ?_, ?_, by simp [h3]⟩ ?_ hg
    · have e : pcells (gainsP (ps ++ [⟨y, []⟩])) (vs ++ [.slice none 0 0]) = pcells (gainsP ps) vs ++ [.int .i64 y, .slice none 0 0] := by
        unfold gainsP at *
        rw [List.map_append, pcells_append hgv]; rfl
      rw [e]; exact ho'
    · have e : rowsP (ps ++ [⟨y, []⟩]) = rowsP ps ++ [[]] := by simp [rowsP]
      rw [e]; exact hv2.snoc ⟨none, 0, rfl, own_nil _ _ _⟩
    · refine (hbel.alloc hbase _).grown hg (by simp; omega) ?_
      intro q hq
      exact (h1.lt q hq).1
end Go.Proofs.YtmohilfebgahoaaGreatDoor
/- Slices of parts of the call's own: a gain, or pulses, stored; what else is kept. -/
namespace Go.Proofs.YtmohilfebgahoaaGreatDoor
open Go.RowKit

/-- A row of another type never shares a block with a row of parts. -/
theorem other_kept {w w' : World} {b1 b2 s : Nat} {e : TypeId} (he : ¬ 78 = e) {v u : Value} {n k : Nat} {xs ys : List Value} (ho : w.ownsRow b1 78 2 v n xs) (hi : w.ownsRow b2 e s u k ys) (hg : w.grownBy w' v.ownBlock) : w'.ownsRow b2 e s u k ys := by
  rcases hi.2 with ⟨h2, h3⟩ | ⟨g', cap', cur', h2, _, hg', _⟩
  · exact ⟨hi.1, .inl ⟨h2, h3⟩⟩
  · refine hi.kept hg ?_
    rcases ho.2 with ⟨h1, _⟩ | ⟨g, cap, cur, h1, _, hgg, _⟩
    · right; rw [h1, h2]; simp [Value.ownBlock]
    · right
      rw [h1, h2]
      intro e2
      have e3 : g' = g := by simpa [Value.ownBlock] using e2
      subst e3
      rw [hgg] at hg'
      have := Option.some.inj hg'
      injection this with _ h3 _
      exact he h3
section
variable {w w' : World} {base : Nat}
theorem OwnsV.set : ∀ {vs : List Value} {ls : List (List Int)} {u : Value} {l : List Int} (k : Nat), OwnsV w base vs ls → OwnV w base u l → OwnsV w base (vs.set k u) (ls.set k l)
  | [], [], _, _, _, _, _ => trivial
  | _ :: _, _ :: _, _, _, 0, h, hu => ⟨hu, h.2⟩
  | _ :: _, _ :: _, _, _, k + 1, h, hu => ⟨h.1, OwnsV.set k h.2 hu⟩
  | [], _ :: _, _, _, _, h, _ => h.elim
  | _ :: _, [], _, _, _, h, _ => h.elim
theorem OwnsV.get : ∀ {vs : List Value} {ls : List (List Int)} {i : Nat}, OwnsV w base vs ls → i < ls.length → ∃ v, vs[i]? = some v ∧ OwnV w base v (ls.getD i [])
  | v :: _, _ :: _, 0, h, _ => ⟨v, rfl, h.1⟩
  | _ :: vs, _ :: ls, i + 1, h, hi => by
    have := OwnsV.get (i := i) h.2 (by simpa using hi)
    simpa using this
  | [], [], _, _, hi => by simp at hi
  | [], _ :: _, _, h, _ => h.elim
  | _ :: _, [], _, h, _ => h.elim
end
section
variable {w w' : World} {base g n c : Nat} {ps : List Ph.Part}
theorem OwnPV.more {b2 : Nat} {A : Option Addr} (h : OwnPV w b2 A n c ps) (hb : base ≤ b2) : OwnPV w base A n c ps := by
  obtain ⟨vs, h1, h2, h3⟩ := h
  refine ⟨vs, ⟨h1.1, ?_⟩, h2.more hb, h3⟩
  rcases h1.2 with h0 | ⟨g, cap, cur, hv, hg, r⟩
  · exact .inl h0
  · exact .inr ⟨g, cap, cur, hv, by omega, r⟩
theorem OwnPV.len {A : Option Addr} (h : OwnPV w base A n c ps) : ps.length = n := h.own.len
theorem OwnPV.rd {A : Option Addr} (h : OwnPV w base A n c ps) : RdP w w.heap.size A n ps := h.own.rd
theorem OwnPV.form {A : Option Addr} (h : OwnPV w base A n c ps) (hn : 0 < n) : ∃ g, A = some ⟨g, 0, none⟩ ∧ base ≤ g ∧ g < w.heap.size := by
  obtain ⟨vs, h1, h2, h3⟩ := h
  obtain ⟨g, cap, hv, hb, hlt⟩ := h1.form hn
  exact ⟨g, by injection hv, hb, hlt⟩
theorem OwnPV.cells (h : OwnPV w base (some ⟨g, 0, none⟩) n c ps) {k : Nat} (hk : k < n) :
    (w.cell? ⟨g, k * 2, none⟩ = some (.int .i64 (ps.getD k ⟨0, []⟩).gain) ∧ w.frozen? ⟨g, k * 2, none⟩ = false) ∧
    (∃ A2 c2, w.cell? ⟨g, k * 2 + 1, none⟩ = some (.slice A2 (ps.getD k ⟨0, []⟩).pulses.length c2) ∧ OwnV w base (.slice A2 (ps.getD k ⟨0, []⟩).pulses.length c2) (ps.getD k ⟨0, []⟩).pulses) ∧ w.frozen? ⟨g, k * 2 + 1, none⟩ = false := by
  obtain ⟨vs, h1, h2, h3⟩ := h
  have hgv : (gainsP ps).length = vs.length := by rw [h2.len]; simp [gainsP, rowsP]
  have hg := pcells_get (k := k) hgv (by simp [gainsP]; omega)
  obtain ⟨v, hv, hr⟩ := h2.get (i := k) (by simp [rowsP]; omega)
  have e1 : (gainsP ps).getD k 0 = (ps.getD k ⟨0, []⟩).gain := getD_map _ _ _ _ _ (by omega)
  have e2 : (rowsP ps).getD k [] = (ps.getD k ⟨0, []⟩).pulses := getD_map _ _ _ _ _ (by omega)
  rw [e1, hv] at hg
  rw [e2] at hr
  refine ⟨⟨by rw [h1.cellAt _ (by omega), hg.1], h1.frozenAt _⟩, ?_, h1.frozenAt _⟩
  obtain ⟨A2, c2, rfl, ho⟩ := hr
  exact ⟨A2, c2, by rw [h1.cellAt _ (by omega), hg.2], A2, c2, rfl, ho⟩
/-- 'out[k].Pulses = u'. -/
theorem OwnPV.setRow (h : OwnPV w base (some ⟨g, 0, none⟩) n c ps) {k : Nat} (hk : k < n) {u : Value} {l : List Int} (hu : OwnV w base u l) :
    OwnPV (w.setCell ⟨g, k * 2 + 1, none⟩ u) base (some ⟨g, 0, none⟩) n c (ps.set k ⟨(ps.getD k ⟨0, []⟩).gain, l⟩) ∧ w.grownBy (w.setCell ⟨g, k * 2 + 1, none⟩ u) (some g) := by
  obtain ⟨vs, h1, h2, h3⟩ := h
  have hgv : (gainsP ps).length = vs.length := by rw [h2.len]; simp [gainsP, rowsP]
  have hs := h1.stored (k * 2 + 1) u
  rw [pcells_set_row _ hgv] at hs
  have hgp : gainsP (ps.set k ⟨(ps.getD k ⟨0, []⟩).gain, l⟩) = gainsP ps := by
    unfold gainsP
    apply List.ext_getElem
    · simp
    · intro j h1 h2
      rw [List.getElem_map, List.getElem_map, List.getElem_set]
      split
      · rename_i e
        subst e
        rw [List.getD_eq_getElem?_getD, List.getElem?_eq_getElem (by omega)]; rfl
      · rfl
  have hrp : rowsP (ps.set k ⟨(ps.getD k ⟨0, []⟩).gain, l⟩) = (rowsP ps).set k l := by unfold rowsP; rw [List.map_set]
  refine ⟨⟨vs.set k u, by rw [hgp]; exact hs.1, ?_, by simpa using h3⟩, hs.2⟩
  rw [hrp]
  exact OwnsV.set k (h2.grownP h1 hs.2) (hu.grownP h1 hs.2)
/-- 'out[k].Gain = y'. -/
theorem OwnPV.setGain (h : OwnPV w base (some ⟨g, 0, none⟩) n c ps) {k : Nat} (hk : k < n) (y : Int) :
    OwnPV (w.setCell ⟨g, k * 2, none⟩ (.int .i64 y)) base (some ⟨g, 0, none⟩) n c (ps.set k ⟨y, (ps.getD k ⟨0, []⟩).pulses⟩) ∧ w.grownBy (w.setCell ⟨g, k * 2, none⟩ (.int .i64 y)) (some g) := by
  obtain ⟨vs, h1, h2, h3⟩ := h
  have hgv : (gainsP ps).length = vs.length := by rw [h2.len]; simp [gainsP, rowsP]
  have hs := h1.stored (k * 2) (.int .i64 y)
  rw [pcells_set_gain _ hgv] at hs
  have hgp : gainsP (ps.set k ⟨y, (ps.getD k ⟨0, []⟩).pulses⟩) = (gainsP ps).set k y := by unfold gainsP; rw [List.map_set]
  have hrp : rowsP (ps.set k ⟨y, (ps.getD k ⟨0, []⟩).pulses⟩) = rowsP ps := by
    unfold rowsP
    apply List.ext_getElem
    · simp
    · intro j h1 h2
      rw [List.getElem_map, List.getElem_map, List.getElem_set]
      split
      · rename_i e
        subst e
        rw [List.getD_eq_getElem?_getD, List.getElem?_eq_getElem (by omega)]; rfl
      · rfl
  refine ⟨⟨vs, by rw [hgp]; exact hs.1, ?_, by simpa using h3⟩, hs.2⟩
  rw [hrp]
  exact h2.grownP h1 hs.2
/-- Other rows, and what lies below, at such a store. -/
theorem OwnPV.keeps {e : TypeId} {s b2 : Nat} {A : Option Addr} (h : OwnPV w base A n c ps) (he : ¬ 78 = e) {u : Value} {k : Nat} {ys : List Value} (hi : w.ownsRow b2 e s u k ys) (hg : w.grownBy w' (Value.slice A n c).ownBlock) : w'.ownsRow b2 e s u k ys := by
  obtain ⟨vs, h1, h2, h3⟩ := h
  exact other_kept he h1 hi hg
theorem OwnPV.keepsV {b2 : Nat} {A : Option Addr} (h : OwnPV w base A n c ps) {vs : List Value} {ls : List (List Int)} (hi : OwnsV w b2 vs ls) (hg : w.grownBy w' (Value.slice A n c).ownBlock) : OwnsV w' b2 vs ls := by
  obtain ⟨vs', h1, h2, h3⟩ := h
  exact hi.grownP h1 hg
end
end Go.Proofs.YtmohilfebgahoaaGreatDoor
