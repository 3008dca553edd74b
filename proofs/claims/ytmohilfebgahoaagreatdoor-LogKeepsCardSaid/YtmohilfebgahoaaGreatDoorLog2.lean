/- Walks: frames kept (chapter 19): a log, made, filled, told. -/
import Derived.Test.YtmohilfebgahoaaGreatDoorLog
import Derived.Test.YtmohilfebgahoaaGreatDoorUnpack
import Derived.BigRegion
import Derived.Deep.DeepCutAuto
import Derived.Deep.CutBlock
import Derived.Deep.Cut
namespace Go.Proofs.YtmohilfebgahoaaGreatDoor
open Go.RowKit

/-- The cells of a log. -/
def logV (vs : Value) (bits : Int) (va : Value) (bytes : ByteArray) (safe left : Int) (st : Bool) : Array Value := #[vs, .int .i64 bits, va, .string bytes, .int .i64 safe, .int .i64 left, .bool st]
/-- What a log has. -/
structure LogS where
  all : List ByteArray
  bytes : List UInt8
  safe : Int
  left : Int
  st : Bool
/-- A log at block X. -/
def LogAt (w : World) (base X : Nat) (As : Option Addr) (ns cs : Nat) (s : List Int) (bits : Int) (Aa : Option Addr) (na ca : Nat) (S : LogS) : Prop :=
  base ≤ X ∧ w.heap[X]? = some (.cells (logV (.slice As ns cs) bits (.slice Aa na ca) (strL S.bytes) S.safe S.left S.st) 64 (0, 0)) ∧ w.ownsRow base 3 1 (.slice As ns cs) ns (ivals s) ∧ w.ownsRow base 9 1 (.slice Aa na ca) na (svals S.all)
section
variable {w w' : World} {base X ns cs na ca : Nat} {As Aa : Option Addr} {s : List Int} {bits : Int} {S : LogS}
theorem LogAt.lt (h : LogAt w base X As ns cs s bits Aa na ca S) : X < w.heap.size := by
  rcases Nat.lt_or_ge X w.heap.size with h1 | h1
  · exact h1
  · have := h.2.1
    rw [Array.getElem?_eq_none h1] at this
    cases this
theorem LogAt.cell (h : LogAt w base X As ns cs s bits Aa na ca S) (j : Nat) : w.cell? ⟨X, j, none⟩ = (logV (.slice As ns cs) bits (.slice Aa na ca) (strL S.bytes) S.safe S.left S.st)[j]? := cell_of_row w X j _ _ (0, 0) h.2.1
theorem LogAt.frozen (h : LogAt w base X As ns cs s bits Aa na ca S) (j : Nat) : w.frozen? ⟨X, j, none⟩ = false := frozen_of_row w X j _ _ h.2.1
theorem LogAt.cells (h : LogAt w base X As ns cs s bits Aa na ca S) : w.cell? ⟨X, 0, none⟩ = some (.slice As ns cs) ∧ w.cell? ⟨X, 1, none⟩ = some (.int .i64 bits) ∧ w.cell? ⟨X, 2, none⟩ = some (.slice Aa na ca) ∧ w.cell? ⟨X, 3, none⟩ = some (.string (strL S.bytes)) ∧ w.cell? ⟨X, 4, none⟩ = some (.int .i64 S.safe) ∧ w.cell? ⟨X, 5, none⟩ = some (.int .i64 S.left) ∧ w.cell? ⟨X, 6, none⟩ = some (.bool S.st) :=
  ⟨h.cell 0, h.cell 1, h.cell 2, h.cell 3, h.cell 4, h.cell 5, h.cell 6⟩
theorem LogAt.below' (h : LogAt w base X As ns cs s bits Aa na ca S) (hb : Below w.heap.size w w') : LogAt w' base X As ns cs s bits Aa na ca S :=
  ⟨h.1, (hb.block X h.lt).trans h.2.1, own_below' h.2.2.1 hb, own_below' h.2.2.2 hb⟩
theorem LogAt.len (h : LogAt w base X As ns cs s bits Aa na ca S) : S.all.length = na := by have := own_len h.2.2.2; rwa [svals_length] at this
theorem log_grown (w : World) (X j : Nat) (u : Value) : w.grownBy (w.setCell ⟨X, j, none⟩ u) (some X) := ⟨rfl, rfl, rfl, by simp, fun k _ hk => heap_setCell_other w ⟨X, j, none⟩ k _ (fun e => hk (by simp [e]))⟩
theorem LogAt.rows (h : LogAt w base X As ns cs s bits Aa na ca S) (j : Nat) (u : Value) : (w.setCell ⟨X, j, none⟩ u).ownsRow base 3 1 (.slice As ns cs) ns (ivals s) ∧ (w.setCell ⟨X, j, none⟩ u).ownsRow base 9 1 (.slice Aa na ca) na (svals S.all) :=
  ⟨h.2.2.1.kept (log_grown w X j u) (.inr (row_type h.2.2.1 h.2.1 (by decide))), h.2.2.2.kept (log_grown w X j u) (.inr (row_type h.2.2.2 h.2.1 (by decide)))⟩
theorem LogAt.setBytes (h : LogAt w base X As ns cs s bits Aa na ca S) (l : List UInt8) : LogAt (w.setCell ⟨X, 3, none⟩ (.string (strL l))) base X As ns cs s bits Aa na ca { S with bytes := l } := by
  refine ⟨h.1, ?_, (h.rows 3 _).1, (h.rows 3 _).2⟩
  rw [heap_setCell_same w X 3 _ _ _ h.2.1]; rfl
theorem LogAt.setSafe (h : LogAt w base X As ns cs s bits Aa na ca S) (y : Int) : LogAt (w.setCell ⟨X, 4, none⟩ (.int .i64 y)) base X As ns cs s bits Aa na ca { S with safe := y } := by
  refine ⟨h.1, ?_, (h.rows 4 _).1, (h.rows 4 _).2⟩
  rw [heap_setCell_same w X 4 _ _ _ h.2.1]; rfl
theorem LogAt.setLeft (h : LogAt w base X As ns cs s bits Aa na ca S) (y : Int) : LogAt (w.setCell ⟨X, 5, none⟩ (.int .i64 y)) base X As ns cs s bits Aa na ca { S with left := y } := by
  refine ⟨h.1, ?_, (h.rows 5 _).1, (h.rows 5 _).2⟩
  rw [heap_setCell_same w X 5 _ _ _ h.2.1]; rfl
theorem LogAt.setSt (h : LogAt w base X As ns cs s bits Aa na ca S) (y : Bool) : LogAt (w.setCell ⟨X, 6, none⟩ (.bool y)) base X As ns cs s bits Aa na ca { S with st := y } := by
  refine ⟨h.1, ?_, (h.rows 6 _).1, (h.rows 6 _).2⟩
  rw [heap_setCell_same w X 6 _ _ _ h.2.1]; rfl
theorem LogAt.setAll {A2 : Option Addr} {n2 c2 : Nat} {l : List ByteArray} (h : LogAt w base X As ns cs s bits Aa na ca S) (ho : w.ownsRow base 9 1 (.slice A2 n2 c2) n2 (svals l)) : LogAt (w.setCell ⟨X, 2, none⟩ (.slice A2 n2 c2)) base X As ns cs s bits A2 n2 c2 { S with all := l } := by
  refine ⟨h.1, ?_, (h.rows 2 _).1, ho.kept (log_grown w X 2 _) (.inr (row_type ho h.2.1 (by decide)))⟩
  rw [heap_setCell_same w X 2 _ _ _ h.2.1]; rfl
end
theorem str_info : (Tryz.prog.info? 9).map (fun i => (i.zero, i.size, i.bytes)) = some (some (.string ByteArray.empty), 1, 16) := by kernel_rfl
/-- 'append(v, x)' of one string. -/
theorem wpList_pushStr2 {ops : Array Oper} {rest : List Oper} {o : Oper} {a : Act} {Q : Exit → Act → World → Prop} (w : World) (hgd : o.guard = none) (s x : Operand)
    (ho : o.op = .call { callee := .builtin .append, args := #[s, x], argTypes := #[23, 23] })
    (base : Nat) (A : Option Addr) (k c : Nat) (l : List ByteArray) (y : ByteArray) (hown : w.ownsRow base 9 1 (.slice A k c) k (svals l)) (hbase : base ≤ w.heap.size)
    (hk : k + 1 ≤ 4000000000) (hs : a.eval s = .slice A k c) (hx : a.eval x = .slice (some ⟨w.heap.size, 0, none⟩) 1 1)
    (h : ∀ g cap w', w'.ownsRow base 9 1 (.slice (some ⟨g, 0, none⟩) (k + 1) cap) (k + 1) (svals (l ++ [y])) → (w.alloc (.cells #[.string y] 9)).grownBy w' (Value.slice A k c).ownBlock → ((Value.slice A k c).ownBlock = some g ∨ g = w.heap.size + 1) → wpList Tryz.prog ops Q rest (a.put o.dst (.slice (some ⟨g, 0, none⟩) (k + 1) cap)) w') :
    wpList Tryz.prog ops Q (o :: rest) a (w.alloc (.cells #[.string y] 9)) := by
  obtain ⟨i0, hi, hz0, hz1, hz2⟩ := info_parts str_info
  refine wpList_append_lies _ hgd s x 23 ho base 9 i0 (.string ByteArray.empty) 1 16 Tryz.underlying23 hi hz0 hz1 hz2 rfl (by omega) _ _ _ hs (hown.alloc _) ⟨w.heap.size, 0, none⟩ 1 1 [.string y] hx rfl ?_ ?_ (by omega) ?_ ?_ ?_ (w.heap.size + 1) (by simp) ?_
  · intro j u hj
    match j, hj with
    | 0, hj => simp at hj; subst hj; simp [Addr.add]
  · intro u hu
    simp at hu
    subst hu
    rfl
  · unfold maxLen; omega
  · omega
  · simp; omega
  · intro g cap w' ho' hg hq _
    exact h g cap w' (by rw [svals_append]; exact ho') hg hq
/-- 'append(v, x)' of one string. -/
theorem wpList_pushStr {ops : Array Oper} {rest : List Oper} {o : Oper} {a : Act} {Q : Exit → Act → World → Prop} (w : World) (hgd : o.guard = none) (s x : Operand)
    (ho : o.op = .call { callee := .builtin .append, args := #[s, x], argTypes := #[23, 23] })
    (base : Nat) (A : Option Addr) (k c : Nat) (l : List ByteArray) (y : ByteArray) (hown : w.ownsRow base 9 1 (.slice A k c) k (svals l)) (hbase : base ≤ w.heap.size)
    (hk : k + 1 ≤ 4000000000) (hs : a.eval s = .slice A k c) (hx : a.eval x = .slice (some ⟨w.heap.size, 0, none⟩) 1 1)
    (h : ∀ g cap w', w'.ownsRow base 9 1 (.slice (some ⟨g, 0, none⟩) (k + 1) cap) (k + 1) (svals (l ++ [y])) → (w.alloc (.cells #[.string y] 9)).grownBy w' (Value.slice A k c).ownBlock → wpList Tryz.prog ops Q rest (a.put o.dst (.slice (some ⟨g, 0, none⟩) (k + 1) cap)) w') :
    wpList Tryz.prog ops Q (o :: rest) a (w.alloc (.cells #[.string y] 9)) :=
  wpList_pushStr2 w hgd s x ho base A k c l y hown hbase hk hs hx fun g cap w' a1 a2 _ => h g cap w' a1 a2
set_option maxHeartbeats 1000000 in
theorem lstep_any (W : World) (base X : Nat) (As : Option Addr) (ns cs : Nat) (s : List Int) (bits : Int) (Aa : Option Addr) (na ca : Nat) (S : LogS) (h : LogAt W base X As ns cs s bits Aa na ca S) (hl : -1 ≤ S.left ∧ S.left ≤ 9223372036854775807) :
    Calls Tryz.prog 29 #[.pointer (some ⟨X, 0, none⟩)] W fun e w' => e = .returned (.bool (decide (S.left = 0))) ∧ LogAt w' base X As ns cs s bits Aa na ca { S with left := max (-1) (S.left - 1), st := decide (S.left = 0) } ∧ KeptBut (fun k => k = X) W w' := by
  obtain ⟨c0, c1, c2, c3, c4, c5, c6⟩ := h.cells
  have f5 := h.frozen 5
  have f6 := h.frozen 6
  have H := Lib.hid h
  have hmx : max (-1) (wrap64 (S.left - 1)) = max (-1) (S.left - 1) := by rw [IntWalk.wrap64_in _ (by omega)]
  have HMX := Lib.hid hmx
  obtain ⟨L, hL⟩ : ∃ L, L = S.left := ⟨_, rfl⟩
  rw [← hL] at c5 hl HMX ⊢
  obtain ⟨d, hd⟩ : ∃ d, d = decide (L = 0) := ⟨_, rfl⟩
  have hd2 : (L == 0) = d := by rw [hd]; by_cases h0 : L = 0 <;> simp [h0]
  rw [← hd]
  clear h c0 c1 c2 c3 c4 hmx hd hL
  go_enter Tryz.func29, Tryz.ntmps29
  go_wp2_with fail
  go_ret
  try rw [HMX.out]
  exact ⟨rfl, (H.out.setSt d).setLeft _, KeptBut.setCell (S := fun k => k = X) (KeptBut.setCell (S := fun k => k = X) (KeptBut.refl _ W) (p := ⟨X, 6, none⟩) rfl _) (p := ⟨X, 5, none⟩) rfl _⟩
set_option maxHeartbeats 1000000 in
theorem lall_any (W : World) (base X : Nat) (As : Option Addr) (ns cs : Nat) (s : List Int) (bits : Int) (Aa : Option Addr) (na ca : Nat) (S : LogS) (h : LogAt W base X As ns cs s bits Aa na ca S) (hn : na ≤ 1000000) :
    Calls Tryz.prog 9 #[.pointer (some ⟨X, 0, none⟩)] W fun e w' => ∃ A' c', e = .returned (.slice A' na c') ∧ w'.ownsRow W.heap.size 9 1 (.slice A' na c') na (svals S.all) ∧ Below W.heap.size W w' := by
  obtain ⟨c0, c1, c2, c3, c4, c5, c6⟩ := h.cells
  have HC : Hid (Calls Tryz.prog 32 #[.slice Aa na ca] W fun e w' => ∃ A' c', e = .returned (.slice A' na c') ∧ w'.ownsRow W.heap.size 9 1 (.slice A' na c') na (svals S.all) ∧ Below W.heap.size W w') := Lib.hid (by
    have hl := h.len
    have hr := h.2.2.2
    rcases hr.2 with ⟨hv, h0⟩ | ⟨g, cap, cur, hv, _, _⟩
    · injection hv with e1 e2 e3
      subst e1
      subst e2
      subst e3
      have e4 : S.all = [] := List.length_eq_zero_iff.1 hl
      refine (Tryz.slices_Clone_string_nil 0 0 W).mono ?_
      rintro e w' ⟨rfl, rfl⟩
      exact ⟨none, 0, rfl, by rw [e4]; exact own_nil _ _ _, Below.refl _ _⟩
    · injection hv with e1 e2 e3
      subst e1
      refine (Tryz.slices_Clone_string g 0 na ca S.all W (by omega) (by omega) ?_).mono ?_
      · intro j hj
        rw [Nat.zero_add, hr.cellAt j (by omega), svals_get hj]
      · rintro e w' ⟨v', rfl, ho, _, hb⟩
        obtain ⟨A', c', rfl⟩ := own_slice ho
        rw [List.take_of_length_le (by omega)] at ho
        exact ⟨A', c', rfl, ho, hb⟩)
  clear h c0 c1 c3 c4 c5 c6
  go_enter Tryz.func9, Tryz.ntmps9
  go_wp2_with fail
  refine HC.out.mono ?_
  rintro e w1 ⟨A', c', rfl, ho, hb⟩
  have HO := Lib.hid ho
  have HB := Lib.hid hb
  clear ho hb
  go_wp2_with fail
  go_ret
  exact ⟨A', c', rfl, HO.out, HB.out⟩
theorem lbytes_any (W : World) (base X : Nat) (As : Option Addr) (ns cs : Nat) (s : List Int) (bits : Int) (Aa : Option Addr) (na ca : Nat) (S : LogS) (h : LogAt W base X As ns cs s bits Aa na ca S) :
    Calls Tryz.prog 10 #[.pointer (some ⟨X, 0, none⟩)] W fun e w' => e = .returned (.int .i64 (S.bytes.length : Nat)) ∧ w' = W := by
  obtain ⟨c0, c1, c2, c3, c4, c5, c6⟩ := h.cells
  have hz := strL_size S.bytes
  obtain ⟨B, hB⟩ : ∃ B, B = strL S.bytes := ⟨_, rfl⟩
  rw [← hB] at c3 hz
  obtain ⟨N, hN⟩ : ∃ N, N = S.bytes.length := ⟨_, rfl⟩
  rw [← hN] at hz ⊢
  clear h c0 c1 c2 c4 c5 c6 hB hN
  go_enter Tryz.func10, Tryz.ntmps10
  go_wp2_with fail
  go_ret
  exact ⟨rfl, rfl⟩
theorem lsafe_any (W : World) (base X : Nat) (As : Option Addr) (ns cs : Nat) (s : List Int) (bits : Int) (Aa : Option Addr) (na ca : Nat) (S : LogS) (h : LogAt W base X As ns cs s bits Aa na ca S) :
    Calls Tryz.prog 11 #[.pointer (some ⟨X, 0, none⟩)] W fun e w' => e = .returned (.int .i64 S.safe) ∧ w' = W := by
  obtain ⟨c0, c1, c2, c3, c4, c5, c6⟩ := h.cells
  clear h c0 c1 c2 c3 c5 c6
  go_enter Tryz.func11, Tryz.ntmps11
  go_wp2_with fail
  go_ret
  exact ⟨rfl, rfl⟩
/-- A new log. -/
def newS : LogS := ⟨[], [], 0, -1, false⟩
set_option maxHeartbeats 1000000 in
theorem lnew_ok (A : Option Addr) (n c : Nat) (s : List Int) (bits : Int) (w : World) (B : Nat) (h : RdI w B A n s) (hB : B ≤ w.heap.size) (h0 : newErr s bits = 0) (hn : n ≤ 1000000) :
    Calls Tryz.prog 5 #[.slice A n c, .int .i64 bits] w fun e w' => ∃ X As cs, e = .returned (.tuple #[.pointer (some ⟨X, 0, none⟩), .nilIface]) ∧ LogAt w' w.heap.size X As n cs s bits none 0 0 newS ∧ Below w.heap.size w w' := by
  have HN := Lib.hid (hnew_ok A n c s bits w B h hB h0)
  have HCL := Lib.hid fun W (hW : RdI W B A n s) => clone_any A n c s W B hW hn
  have H := Lib.hid h
  clear h h0
  go_enter Tryz.func5, Tryz.ntmps5
  go_wp2_with fail
  refine HN.out.mono ?_
  rintro e w1 ⟨X1, As1, cs1, rfl, _, hb⟩
  have HB1 := Lib.hid hb
  clear hb HN
  go_wp2_with fail
  refine (HCL.out _ (H.out.below (HB1.out.mono hB))).mono ?_
  rintro e w2 ⟨A5, c5, rfl, ho, hb⟩
  have HO := Lib.hid (own_more ho HB1.out.size)
  have HB2 := Lib.hid (below_on HB1.out hb)
  clear ho hb
  go_wp2_with fail
  go_ret2
  exact ⟨w2.heap.size, A5, c5, rfl, ⟨HB2.out.size, heap_alloc_new w2 _, HO.out.alloc _, own_nil _ _ _⟩, HB2.out.alloc HB2.out.size _⟩
theorem rows_apart {w : World} {b1 b2 s1 s2 n k : Nat} {e1 e2 : TypeId} {v u : Value} {xs ys : List Value} (h1 : w.ownsRow b1 e1 s1 v n xs) (h2 : w.ownsRow b2 e2 s2 u k ys) (he : ¬ e1 = e2) : ∀ q, v.ownBlock = some q → u.ownBlock ≠ some q := by
  intro q hq
  rcases h1.2 with ⟨a1, _⟩ | ⟨g, cap, cur, rfl, _, hh, _⟩
  · rw [a1] at hq; simp [Value.ownBlock] at hq
  · have : g = q := by simpa [Value.ownBlock] using hq
    subst this
    exact row_type h2 hh he
theorem tab_on {W w' : World} {n : String} {k : IntKind} {zs : List Int} (h : Lib.TabIs Tryz.prog W n k zs) (hb : Below W.heap.size W w') : Lib.TabIs Tryz.prog w' n k zs := by
  cases hg : Tryz.prog.globalNamed n with
  | none => unfold Lib.TabIs World.var? at h; rw [hg] at h; cases h
  | some g => exact tab_below hg h hb
/-- A log where its frames grow by one: its cells, its sizes. -/
theorem log_pushed {w w' : World} {base X ns cs na ca : Nat} {As Aa : Option Addr} {s : List Int} {bits : Int} {S : LogS} {o : Obj} (h : LogAt w base X As ns cs s bits Aa na ca S) (hg : (w.alloc o).grownBy w' (Value.slice Aa na ca).ownBlock) :
    w'.heap[X]? = some (.cells (logV (.slice As ns cs) bits (.slice Aa na ca) (strL S.bytes) S.safe S.left S.st) 64 (0, 0)) ∧ w'.ownsRow base 3 1 (.slice As ns cs) ns (ivals s) := by
  refine ⟨?_, (h.2.2.1.alloc o).kept hg ?_⟩
  · rw [hg.block X (by have := h.lt; simp; omega) (fun e => row_type h.2.2.2 h.2.1 (by decide) e.symm), heap_alloc_old w o h.lt]
    exact h.2.1
  · by_cases hn : (Value.slice As ns cs).ownBlock = none
    · exact .inl hn
    · right
      intro e
      cases hb : (Value.slice As ns cs).ownBlock with
      | none => exact hn hb
      | some q => exact rows_apart h.2.2.1 h.2.2.2 (by decide) q hb (e.symm.trans hb)
/-- What is wrong where a frame is put. -/
def putE (S : LogS) (E : Int) : Int := if S.st = true then 6 else if 20 ≤ S.all.length then 4 else if E ≠ 0 then E else if S.left = 0 then 6 else 0
/-- What the log has then. -/
def putS (S : LogS) (E : Int) (b : ByteArray) : LogS :=
  if S.st = true ∨ 20 ≤ S.all.length ∨ E ≠ 0 then S
  else if S.left = 0 then { S with bytes := S.bytes ++ (recL (bytesOf b)).take ((recL (bytesOf b)).length / 2), left := -1, st := true }
  else { S with all := S.all ++ [b], bytes := S.bytes ++ recL (bytesOf b), left := max (-1) (S.left - 1), st := false }
/-- The blocks that a log turns. -/
def logBlocks (X : Nat) (A : Option Addr) (n c : Nat) (k : Nat) : Prop := k = X ∨ (Value.slice A n c).ownBlock = some k
/-- What becomes of a log, and what is told, where a frame is put. -/
def PutP (W : World) (base X : Nat) (As : Option Addr) (ns cs : Nat) (s : List Int) (bits : Int) (Aa : Option Addr) (na ca : Nat) (S' : LogS) (E : Int) (e : Ending) (w' : World) : Prop :=
  ∃ A' n' c', e = .returned (errV E) ∧ LogAt w' base X As ns cs s bits A' n' c' S' ∧ KeptBut (logBlocks X Aa na ca) W w'
/-- What becomes of a log, and what is told, where a frame is put; and where its frames lie then. -/
def PutQ (W : World) (base X : Nat) (As : Option Addr) (ns cs : Nat) (s : List Int) (bits : Int) (Aa : Option Addr) (na ca : Nat) (S' : LogS) (E : Int) (e : Ending) (w' : World) : Prop :=
  ∃ A' n' c', e = .returned (errV E) ∧ LogAt w' base X As ns cs s bits A' n' c' S' ∧ KeptBut (logBlocks X Aa na ca) W w' ∧ ∀ q, (Value.slice A' n' c').ownBlock = some q → (Value.slice Aa na ca).ownBlock = some q ∨ W.heap.size ≤ q
theorem strL_take (l : List UInt8) (k : Nat) : (strL l).extract 0 k = strL (l.take k) := by
  unfold strL
  apply ByteArray.ext
  simp [ByteArray.data_extract]
theorem LogAt.belowL {w w' : World} {base X ns cs na ca B : Nat} {As Aa : Option Addr} {s : List Int} {bits : Int} {S : LogS} (h : LogAt w base X As ns cs s bits Aa na ca S) (hk : KeptBut (logBlocks X Aa na ca) w w') (hb : B ≤ base) (hB : B ≤ w.heap.size) : Below B w w' := by
  refine hk.below hB ?_
  rintro k (rfl | hk)
  · exact Nat.le_trans hb h.1
  · exact Nat.le_trans hb (h.2.2.2.lt k hk).1
set_option maxHeartbeats 2000000 in
set_option maxRecDepth 100000 in
theorem lput_own (W : World) (base X : Nat) (As : Option Addr) (ns cs : Nat) (s : List Int) (bits : Int) (Aa : Option Addr) (na ca : Nat) (S : LogS) (b : ByteArray) (h : LogAt W base X As ns cs s bits Aa na ca S) (hbs : base ≤ W.heap.size) (hl : -1 ≤ S.left ∧ S.left ≤ 9223372036854775807) (hb : b.size ≤ 140737488351232) (hns : ns ≤ 100000000000000) (hby : S.bytes.length ≤ 100000) (htab : Lib.TabIs Tryz.prog W "internal/strconv.uint64pow10" .u64 Lib.pow10Tab) :
    Calls Tryz.prog 6 #[.pointer (some ⟨X, 0, none⟩), .string b] W (PutQ W base X As ns cs s bits Aa na ca (putS S (unpE (bytesOf b) s bits) b) (putE S (unpE (bytesOf b) s bits))) := by
  have H := Lib.hid h
  obtain ⟨c0, c1, c2, c3, c4, c5, c6⟩ := h.cells
  have hlen := h.len
  obtain ⟨E1, hE1⟩ : ∃ E, E = unpE (bytesOf b) s bits := ⟨_, rfl⟩
  have HUN := Lib.hid fun W' (hW : LogAt W' base X As ns cs s bits Aa na ca S) => unpack_any b As ns cs s bits W' W'.heap.size (RdI.own hW.2.2.1) (Nat.le_refl _) hns hb
  rw [← hE1] at HUN ⊢
  have hs50 : E1 = 0 → b.size ≤ 50 := fun h => by
    have := (unpE_zero (hE1.symm.trans h)).2.2.1
    rwa [bytesOf_length] at this
  clear hE1 c3 c4 c5
  by_cases hst : S.st = true
  · have e1 : putE S E1 = 6 := by unfold putE; rw [if_pos hst]
    have e2 : putS S E1 b = S := by unfold putS; rw [if_pos (.inl hst)]
    rw [e1, e2]
    rw [hst] at c6
    clear e1 e2 HUN hs50 hst hlen h c0 c1 c2
    go_enter Tryz.func6, Tryz.ntmps6
    go_wp2_with fail
    go_ret
    exact ⟨Aa, na, ca, rfl, H.out, KeptBut.refl _ _, fun q h => .inl h⟩
  · have hsf : S.st = false := by simpa using hst
    rw [hsf] at c6
    by_cases h20 : 20 ≤ na
    · have e1 : putE S E1 = 4 := by unfold putE; rw [if_neg hst, if_pos (by omega)]
      have e2 : putS S E1 b = S := by unfold putS; rw [if_pos (.inr (.inl (by omega)))]
      rw [e1, e2]
      have h20' : (20 : Int) ≤ (na : Int) := by omega
      clear e1 e2 HUN hs50 hst hlen h c0 c1 hsf
      go_enter Tryz.func6, Tryz.ntmps6
      go_wp2_with fail
      go_ret
      exact ⟨Aa, na, ca, rfl, H.out, KeptBut.refl _ _, fun q h => .inl h⟩
    · have h20' : ¬ (20 : Int) ≤ (na : Int) := by omega
      by_cases hE : E1 = 0
      · have hs5 := hs50 hE
        subst hE
        have HREC := Lib.hid fun W' (hB : Below W.heap.size W W') => record_any b W' (by omega) (tab_on htab hB)
        have hrl := recL_few (bytesOf_lt b)
        rw [bytesOf_length] at hrl
        have hpE : putE S 0 = if S.left = 0 then 6 else 0 := by unfold putE; rw [if_neg hst, if_neg (by omega), if_neg (by omega)]
        have hpS : putS S 0 b = if S.left = 0 then { S with bytes := S.bytes ++ (recL (bytesOf b)).take ((recL (bytesOf b)).length / 2), left := -1, st := true } else { S with all := S.all ++ [b], bytes := S.bytes ++ recL (bytesOf b), left := max (-1) (S.left - 1), st := false } := by
          unfold putS; rw [if_neg (by rintro (h | h | h); exact hst h; omega; exact h rfl)]
        rw [hpE, hpS]
        obtain ⟨R, hR⟩ : ∃ R, R = recL (bytesOf b) := ⟨_, rfl⟩
        rw [← hR] at HREC hrl ⊢
        have hR200 : R.length ≤ 1000 := by omega
        have HLS := Lib.hid fun W' (hW : LogAt W' base X As ns cs s bits Aa na ca S) => lstep_any W' base X As ns cs s bits Aa na ca S hW hl
        have hzR := strL_size R
        have hzB := strL_size S.bytes
        have hap := fun k => strL_append S.bytes (R.take k)
        have hap2 := strL_append S.bytes R
        have hex := fun k => strL_take R k
        obtain ⟨RS, hRS⟩ : ∃ q, q = strL R := ⟨_, rfl⟩
        rw [← hRS] at HREC hzR hex
        have HAP := Lib.hid hap
        have HAP2 := Lib.hid hap2
        have HEX := Lib.hid hex
        have HZB := Lib.hid hzB
        have HRS := Lib.hid hRS
        clear hpE hpS hR hrl hap hap2 hex hzB hRS hs50 hst hlen h hsf hs5
        by_cases h0 : S.left = 0
        · rw [if_pos h0, if_pos h0]
          have hd : decide (S.left = 0) = true := by simp [h0]
          rw [hd] at HLS
          have HL0 := Lib.hid h0
          clear hd h0
          go_enter Tryz.func6, Tryz.ntmps6
          go_upto_region 5 with (fail)
          go_cut [5, 6] (fun _ s6 wx => s6 = .nilIface ∧ Hid (Below W.heap.size W wx))
          case first =>
            go_region_with (go_at_call 27; refine (HUN.out W.drew (H.out.below' ⟨rfl, rfl, rfl, Nat.le_refl _, fun _ _ => rfl⟩)).mono ?_; rintro e w3 ⟨A6, n6, c6', rfl, ho3, hb3⟩; rw [errV_zero])
            all_goals go_wp2_with fail
            all_goals go_meet
            all_goals exact ⟨rfl, Lib.hid ⟨hb3.os, hb3.tape, hb3.output, hb3.size, hb3.block⟩⟩
          case rest =>
            obtain ⟨rfl, HB3⟩ := hcut
            rename World => w3
            go_wp2_with fail
            refine (HREC.out _ HB3.out).mono ?_
            rintro e w4 ⟨rfl, hb4⟩
            have HB4 := Lib.hid (below_on HB3.out hb4)
            have H4 := Lib.hid (H.out.below' HB4.out)
            clear hb4 HB3 HREC
            go_wp2_with fail
            refine (HLS.out _ H4.out).mono ?_
            rintro e w5 ⟨rfl, hl5, hk5⟩
            have H5 := Lib.hid hl5
            have HK5 : Hid (KeptBut (logBlocks X Aa na ca) W w5) := Lib.hid ((KeptBut.of_below HB4.out).trans (hk5.mono fun k _ h => .inl h))
            have e3 := H5.out.cells.2.2.2.1
            have g3 := H5.out.frozen 3
            obtain ⟨SB, hSB⟩ : ∃ q, q = strL S.bytes := ⟨_, rfl⟩
            have e3' : w5.cell? ⟨X, 3, none⟩ = some (.string SB) := by rw [hSB]; exact e3
            have HSB := Lib.hid hSB
            have hml : max (-1) (S.left - 1) = -1 := by rw [HL0.out]; rfl
            have HML := Lib.hid hml
            obtain ⟨N, hN⟩ : ∃ N, N = R.length := ⟨_, rfl⟩
            rw [← hN] at hzR hR200
            have HN := Lib.hid hN
            obtain ⟨M, hM⟩ : ∃ M, M = N / 2 := ⟨_, rfl⟩
            have k1 : ((N : Int)).tdiv 2 = (M : Int) := by rw [Int.tdiv_eq_ediv_of_nonneg (by omega)]; omega
            have k2 : IntKind.i64.wrap (M : Int) = (M : Int) := IntWalk.i64_in _ (by omega)
            have k3 : M ≤ N := by omega
            have k4 : SB.size ≤ 100000 := by rw [hSB, strL_size]; exact hby
            have HM := Lib.hid hM
            clear hl5 hk5 e3 hSB c0 c1 c2 c6 hml hN hM
            go_wp2_with fail
            go_region
            go_wp2_with fail
            go_ret
            have hx : SB ++ RS.extract 0 M = strL (S.bytes ++ R.take (R.length / 2)) := by rw [HEX.out, HM.out, HN.out, HSB.out, HAP.out]
            rw [hx]
            have h5 := H5.out
            rw [HML.out] at h5
            exact ⟨Aa, na, ca, rfl, (h5.setBytes _).below' ⟨rfl, rfl, rfl, Nat.le_refl _, fun _ _ => rfl⟩, ((HK5.out.setCell (p := ⟨X, 3, none⟩) (.inl rfl) _).drewN 1), fun q h => .inl h⟩
        · rw [if_neg h0, if_neg h0]
          have hd : decide (S.left = 0) = false := by simp [h0]
          rw [hd] at HLS
          clear hd h0
          go_enter Tryz.func6, Tryz.ntmps6
          go_upto_region 5 with (fail)
          go_cut [5, 6] (fun _ s6 wx => s6 = .nilIface ∧ Hid (Below W.heap.size W wx))
          case first =>
            go_region_with (go_at_call 27; refine (HUN.out W.drew (H.out.below' ⟨rfl, rfl, rfl, Nat.le_refl _, fun _ _ => rfl⟩)).mono ?_; rintro e w3 ⟨A6, n6, c6', rfl, ho3, hb3⟩; rw [errV_zero])
            all_goals go_wp2_with fail
            all_goals go_meet
            all_goals exact ⟨rfl, Lib.hid ⟨hb3.os, hb3.tape, hb3.output, hb3.size, hb3.block⟩⟩
          case rest =>
            obtain ⟨rfl, HB3⟩ := hcut
            rename World => w3
            go_wp2_with fail
            refine (HREC.out _ HB3.out).mono ?_
            rintro e w4 ⟨rfl, hb4⟩
            have HB4 := Lib.hid (below_on HB3.out hb4)
            have H4 := Lib.hid (H.out.below' HB4.out)
            clear hb4 HB3 HREC
            go_wp2_with fail
            refine (HLS.out _ H4.out).mono ?_
            rintro e w5 ⟨rfl, hl5, hk5⟩
            have H5 := Lib.hid hl5
            have HK5 : Hid (KeptBut (logBlocks X Aa na ca) W w5) := Lib.hid ((KeptBut.of_below HB4.out).trans (hk5.mono fun k _ h => .inl h))
            obtain ⟨e0, e1, e2, e3, e4, e5, e6⟩ := H5.out.cells
            have g3 := H5.out.frozen 3
            obtain ⟨SB, hSB⟩ : ∃ q, q = strL S.bytes := ⟨_, rfl⟩
            have e3' : w5.cell? ⟨X, 3, none⟩ = some (.string SB) := by rw [hSB]; exact e3
            have HSB := Lib.hid hSB
            obtain ⟨N, hN⟩ : ∃ N, N = R.length := ⟨_, rfl⟩
            rw [← hN] at hzR hR200
            have k4 : SB.size ≤ 100000 := by rw [hSB, strL_size]; exact hby
            have hx : SB ++ RS = strL (S.bytes ++ R) := by rw [hSB, HRS.out, HAP2.out]
            have h6 := H5.out.setBytes (S.bytes ++ R)
            rw [← hx] at h6
            have HX := Lib.hid hx
            obtain ⟨W6, hW6⟩ : ∃ W6, W6 = w5.setCell ⟨X, 3, none⟩ (.string (SB ++ RS)) := ⟨_, rfl⟩
            rw [← hW6] at h6
            have H6 := Lib.hid h6
            have i2 : W6.cell? ⟨X, 2, none⟩ = some (.slice Aa na ca) := h6.cells.2.2.1
            have HK6 : Hid (KeptBut (logBlocks X Aa na ca) W W6) := Lib.hid (by rw [hW6]; exact HK5.out.setCell (p := ⟨X, 3, none⟩) (.inl rfl) _)
            have HW6 := Lib.hid hW6
            clear hl5 hk5 e0 e1 e2 e3 e4 e5 e6 hSB c0 c1 c2 c6 hN hx h6 hW6
            go_upto_region 13 with (fail)
            rw [← HW6.out]
            clear e3' g3
            go_wp2_with (at_builtin; refine wpList_pushStr2 _ (by rfl) _ _ (by rfl) base Aa na ca _ b H6.out.2.2.2 (Nat.le_trans hbs HK6.out.size) (by omega) (by rfl) (by rfl) ?_; intro g9 cap w9 ho9 hg9 hq9; have HQ9 := Lib.hid hq9; have h9 := log_pushed H6.out hg9; have g2 := frozen_of_row w9 X 2 _ _ h9.1; have d2 := cell_of_row w9 X 2 _ _ (0, 0) h9.1; have HO9 := Lib.hid ho9; have H9 := Lib.hid h9; have HG9 := Lib.hid hg9; clear ho9 h9 hg9 hq9)
            go_wp2_with fail
            go_ret
            have HK9 : KeptBut (logBlocks X Aa na ca) W w9 := ⟨HG9.out.os.trans HK6.out.os, HG9.out.tape.trans HK6.out.tape, HG9.out.output.trans HK6.out.output, Nat.le_trans HK6.out.size (Nat.le_trans (by simp) HG9.out.size), fun k hk hs => by
              have h1 := Nat.lt_of_lt_of_le hk HK6.out.size
              rw [HG9.out.block k (by simp; omega) (fun e => hs (.inr e.symm)), heap_alloc_old W6 _ h1]
              exact HK6.out.block k hk hs⟩
            refine ⟨some ⟨g9, 0, none⟩, na + 1, cap, rfl, ⟨H6.out.1, ?_, H9.out.2.kept (log_grown w9 X 2 _) (.inr (row_type H9.out.2 H9.out.1 (by decide))), HO9.out.kept (log_grown w9 X 2 _) (.inr (row_type HO9.out H9.out.1 (by decide)))⟩, HK9.setCell (p := ⟨X, 2, none⟩) (.inl rfl) _, fun q h => ?_⟩
            · rw [heap_setCell_same w9 X 2 _ _ _ H9.out.1]; rfl
            · have h2 : g9 = q := by simpa [Value.ownBlock] using h
              subst h2
              rcases HQ9.out with h3 | h3
              · exact .inl h3
              · exact .inr (by rw [h3]; exact Nat.le_succ_of_le HK6.out.size)
      · have e1 : putE S E1 = E1 := by unfold putE; rw [if_neg hst, if_neg (by omega), if_pos hE]
        have e2 : putS S E1 b = S := by unfold putS; rw [if_pos (.inr (.inr hE))]
        rw [e1, e2]
        clear e1 e2 hs50 hst hlen h hsf
        go_enter Tryz.func6, Tryz.ntmps6
        go_upto_region 5 with (fail)
        go_cut [5, 6] (fun _ s6 wx => s6 = errV E1 ∧ Hid (Below W.heap.size W wx))
        case first =>
          go_region_with (go_at_call 27; refine (HUN.out W.drew (H.out.below' ⟨rfl, rfl, rfl, Nat.le_refl _, fun _ _ => rfl⟩)).mono ?_; rintro e w3 ⟨A6, n6, c6', rfl, ho3, hb3⟩)
          all_goals go_wp2_with fail
          all_goals go_meet
          all_goals exact ⟨rfl, Lib.hid ⟨hb3.os, hb3.tape, hb3.output, hb3.size, hb3.block⟩⟩
        case rest =>
          obtain ⟨rfl, HB3⟩ := hcut
          rename World => w3
          rw [errV_ne hE]
          go_wp2_with fail
          go_ret
          exact ⟨Aa, na, ca, by rw [errV_ne hE]; rfl, H.out.below' HB3.out, .of_below HB3.out, fun q h => .inl h⟩
theorem lput_any (W : World) (base X : Nat) (As : Option Addr) (ns cs : Nat) (s : List Int) (bits : Int) (Aa : Option Addr) (na ca : Nat) (S : LogS) (b : ByteArray) (h : LogAt W base X As ns cs s bits Aa na ca S) (hbs : base ≤ W.heap.size) (hl : -1 ≤ S.left ∧ S.left ≤ 9223372036854775807) (hb : b.size ≤ 140737488351232) (hns : ns ≤ 100000000000000) (hby : S.bytes.length ≤ 100000) (htab : Lib.TabIs Tryz.prog W "internal/strconv.uint64pow10" .u64 Lib.pow10Tab) :
    Calls Tryz.prog 6 #[.pointer (some ⟨X, 0, none⟩), .string b] W (PutP W base X As ns cs s bits Aa na ca (putS S (unpE (bytesOf b) s bits) b) (putE S (unpE (bytesOf b) s bits))) :=
  (lput_own W base X As ns cs s bits Aa na ca S b h hbs hl hb hns hby htab).mono fun _ _ ⟨A', n', c', a1, a2, a3, _⟩ => ⟨A', n', c', a1, a2, a3⟩
end Go.Proofs.YtmohilfebgahoaaGreatDoor
