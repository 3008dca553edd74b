/- Words for two variables of a closure, one of them bytes that grow; and for bytes of a string. -/
import Derived.Test.YtmohilfebgahoaaGreatDoorTwo
import Derived.Test.YtmohilfebgahoaaGreatDoorBytes
import Derived.Test.YtmohilfebgahoaaGreatDoorRound
import Derived.Test.YtmohilfebgahoaaGreatDoorPhAll
import Derived.Maps.OwnIn
namespace Go.Proofs.YtmohilfebgahoaaGreatDoor
open Go.RowKit

attribute [local go_sem] Oper.semAt_some
/-- Variable BX holds the number x, variable BO the bytes u; the bytes l are v's own, from block n₁ on. -/
def OffS (n₁ BX BO : Nat) (x : Nat) (u v : Value) (l : List Nat) (W : World) : Prop :=
  Boxed W BX 3 (.int .i64 (x : Int)) ∧ Boxed W BO 103 u ∧ W.ownsRow n₁ 5 1 v l.length (bvals l) ∧ n₁ ≤ W.heap.size ∧ BX < n₁ ∧ BO < n₁ ∧ BX ≠ BO
section
variable {n₀ n₁ BX BO x : Nat} {u v : Value} {l : List Nat} {W W' : World}
theorem OffS.drew (h : OffS n₁ BX BO x u v l W) : OffS n₁ BX BO x u v l W.drew := h
theorem OffS.drewN (h : OffS n₁ BX BO x u v l W) (q : Nat) : OffS n₁ BX BO x u v l (W.drewN q) := h
theorem OffS.alloc (h : OffS n₁ BX BO x u v l W) (o : Obj) : OffS n₁ BX BO x u v l (W.alloc o) := by
  obtain ⟨b1, b2, r1, hn, h1, h2, hne⟩ := h
  exact ⟨b1.alloc o, b2.alloc o, r1.alloc o, by simp; omega, h1, h2, hne⟩
theorem OffS.grown {v' : Value} {l' : List Nat} (h : OffS n₁ BX BO x u v l W) (ho : W'.ownsRow n₁ 5 1 v' l'.length (bvals l')) (hg : W.grownBy W' v.ownBlock) : OffS n₁ BX BO x u v' l' W' := by
  obtain ⟨b1, b2, r1, hn, h1, h2, hne⟩ := h
  exact ⟨box_kept b1 h1 r1 hg, box_kept b2 h2 r1 hg, ho, Nat.le_trans hn hg.size, h1, h2, hne⟩
theorem OffS.storeX (h : OffS n₁ BX BO x u v l W) (y : Nat) : OffS n₁ BX BO y u v l (W.setCell ⟨BX, 0, none⟩ (.int .i64 (y : Int))) := by
  obtain ⟨b1, b2, r1, hn, h1, h2, hne⟩ := h
  exact ⟨b1.set _, b2.other (fun e => hne e.symm) _, own_setFar r1 (fun e => by have := (r1.lt _ e).1; simp at this; omega) _, by simpa using hn, h1, h2, hne⟩
theorem OffS.storeO (h : OffS n₁ BX BO x u v l W) (u' : Value) : OffS n₁ BX BO x u' v l (W.setCell ⟨BO, 0, none⟩ u') := by
  obtain ⟨b1, b2, r1, hn, h1, h2, hne⟩ := h
  exact ⟨b1.other hne _, b2.set _, own_setFar r1 (fun e => by have := (r1.lt _ e).1; simp at this; omega) _, by simpa using hn, h1, h2, hne⟩
theorem offS_own {β : Type} (n₁ BX BO : Nat) (fx : β → Nat) (fl : β → List Nat) : Own (fun s W => ∃ v, OffS n₁ BX BO (fx s) v v (fl s) W) := by
  rintro s X Y row ⟨v, b1, b2, r1, hn, h1, h2, hne⟩ hg hrow
  have hb : ∀ {B t v}, Boxed X B t v → Boxed Y B t v := fun {B t v} hb => hb.kept hg (fun e' => by
    obtain ⟨o, ho, hc⟩ := hrow B e'.symm
    rw [show X.heap[B]? = _ from hb] at ho; cases ho; cases hc)
  have hr : ∀ {v k xs}, X.ownsRow n₁ 5 1 v k xs → Y.ownsRow n₁ 5 1 v k xs := fun {v k xs} hr => hr.kept hg (by
    rcases hr.2 with ⟨rfl, _⟩ | ⟨g, cap, cur, rfl, _, hgb, _⟩
    · exact .inl rfl
    · refine .inr fun e' => ?_
      obtain ⟨o, ho, hc⟩ := hrow g (by simpa [Value.ownBlock] using e'.symm)
      rw [hgb] at ho; cases ho; cases hc)
  exact ⟨v, hb b1, hb b2, hr r1, Nat.le_trans hn hg.size, h1, h2, hne⟩
end
theorem wpListIn_pushOff {F : Fence} {nF : Nat} {ops : Array Oper} {rest : List Oper} {o : Oper} {a : Act} {Q : Exit → Act → World → Prop} {n₀ n₁ BX BO x : Nat} {u v : Value} {l : List Nat} (W : World) (h : OffS n₁ BX BO x u v l W) (h0 : n₀ ≤ n₁) (hl : l.length ≤ 1000000) (y : Nat)
    (hgd : o.guard = none) (s z : Operand) (ho : o.op = .call { callee := .builtin .append, args := #[s, z], argTypes := #[103, 103] }) (hs : a.eval s = v) (hx : a.eval z = .slice (some ⟨W.heap.size, 0, none⟩) 1 1)
    (hc : ∀ g cap w', OffS n₁ BX BO x u (.slice (some ⟨g, 0, none⟩) (l.length + 1) cap) (l ++ [y]) w' → Keeps3 n₀ n₁ BX BO W w' → wpListIn F nF Tryz.prog ops Q rest (a.put o.dst (.slice (some ⟨g, 0, none⟩) (l.length + 1) cap)) w') :
    wpListIn F nF Tryz.prog ops Q (o :: rest) a (W.alloc (.cells #[.int .u8 (y : Int)] 5)) := by
  obtain ⟨i0, hi, hz0, hz1, hz2⟩ := info_parts byte_info
  have hA := h.alloc (.cells #[.int .u8 (y : Int)] 5)
  refine wpListIn_append_own_at _ hgd s z 103 ho n₁ 5 i0 (.int .u8 0) 1 1 Tryz.underlying103 hi hz0 hz1 hz2 rfl (by omega) v l.length (bvals l) hs hA.2.2.1 ⟨W.heap.size, 0, none⟩ 1 1 [.int .u8 (y : Int)] hx rfl ?_ ?_ (by unfold maxLen; omega) (by omega) hA.2.2.2.1 ?_
  · intro j u hj
    match j, hj with
    | 0, hj => simp at hj; subst hj; simp [Addr.add]
  · intro u hu
    simp at hu
    subst hu
    rfl
  · intro v' w' ho' hg _ _
    obtain ⟨A', cap, rfl⟩ := own_slice ho'
    obtain ⟨g, rfl, _, _⟩ := own_form ho' (by omega)
    have e : l.length + 1 = (l ++ [y]).length := by simp
    refine hc g cap w' (hA.grown (by rw [← e, bvals_append]; exact ho') hg) ?_
    exact (Keeps3.alloc W _ (Nat.le_trans h0 h.2.2.2.1) h.2.2.2.1).trans (Keeps3.grown hA.2.2.1 h0 hA.2.2.2.1 hg)
theorem cells_row {w : World} {base : Nat} {e : TypeId} {v : Value} {k : Nat} {xs : List Value} (h : w.ownsRow base e 1 v k xs) {j : Nat} {o : Obj} (ej : v.ownBlock = some j) (hj : w.heap[j]? = some o) : o.isCells = true := by
  rcases h.2 with ⟨rfl, _⟩ | ⟨g, cap, cur, rfl, _, hgb, _⟩
  · simp [Value.ownBlock] at ej
  · obtain rfl : g = j := by simpa [Value.ownBlock] using ej
    rw [hgb] at hj; cases hj; rfl
/-- The signs that have come. -/
def signs {m : Nat} (l : List Int) (pre : List (Fin m)) : List Int := pre.map fun x => l.getD x.1 0
theorem signs_snoc {m : Nat} (l : List Int) (pre : List (Fin m)) (x : Fin m) : signs l (pre ++ [x]) = signs l pre ++ [l.getD x.1 0] := by simp [signs]
theorem u8_wrap (x : Nat) : IntKind.u8.wrap (x : Int) = ((x % 256 : Nat) : Int) := by
  show (x : Int) % 256 = _
  omega
theorem str_get (s : ByteArray) (k : Nat) (h : k < s.size) : (s[k]'h).toNat = (bytesOf s).getD k 0 := by
  unfold bytesOf
  rw [List.getD_eq_getElem?_getD, List.getElem?_map, List.getElem?_eq_getElem (by simpa using h)]
  rfl
end Go.Proofs.YtmohilfebgahoaaGreatDoor
