/- Walks: signs as bytes, by the program (chapter 11). -/
import Derived.Test.YtapjnfhbjmeniaaBack
import Derived.Test.YtapjnfhbjmeniaaRev
import Derived.Test.YtapjnfhbjmeniaaRound
import Derived.Test.YtapjnfhbjmeniaaHorn2
import Derived.Test.YtapjnfhbjmeniaaPhAll
import Derived.Maps.OwnIn
namespace Go.Proofs.Ytapjnfhbjmeniaa
open Go.RowKit

attribute [local go_sem] Oper.semAt_some
/-- Variable BX holds the number x, variable BO the bytes u; the bytes l are v's own, from block n₁ on. -/
def OffS (n₁ BX BO : Nat) (x : Nat) (u v : Value) (l : List Nat) (W : World) : Prop :=
  Boxed W BX 3 (.int .i64 (x : Int)) ∧ Boxed W BO 79 u ∧ W.ownsRow n₁ 5 1 v l.length (bvals l) ∧ n₁ ≤ W.heap.size ∧ BX < n₁ ∧ BO < n₁ ∧ BX ≠ BO
section
variable {n₀ n₁ BX BO x : Nat} {u v : Value} {l : List Nat} {W W' : World}
theorem OffS.drew (h : OffS n₁ BX BO x u v l W) : OffS n₁ BX BO x u v l W.drew := h
theorem OffS.drewN (h : OffS n₁ BX BO x u v l W) (q : Nat) : OffS n₁ BX BO x u v l (W.drewN q) := h
theorem OffS.alloc (h : OffS n₁ BX BO x u v l W) (o : Obj) : OffS n₁ BX BO x u v l (W.alloc o) := by
  obtain ⟨b1, b2, r1, hn, h1, h2, hne⟩ := h
  exact ⟨b1.alloc o, b2.alloc o, r1.alloc o, by simp; omega, h1, h2, hne⟩
theorem OffS.grown {v' : Value} {l' : List Nat} (h : OffS n₁ BX BO x u v l W) (ho : W'.ownsRow n₁ 5 1 v' l'.length (bvals l')) (hg : W.grownBy W' v.ownBlock) : OffS n₁ BX BO x u v' l' W' := by
  obtain ⟨b1, b2, r1, hn, h1, h2, hne⟩ := h
  exact ⟨box_kept b1 h1 r1 hg, box_kept b2 h2 r1 hg, ho, Nat.le_trans hn hg.size, h1, h2, hne⟩
theorem OffS.storeX (h : OffS n₁ BX BO x u v l W) (y : Nat) : OffS n₁ BX BO y u v l (W.setCell ⟨BX, 0, none⟩ (.int .i64 (y : Int))) := by
  obtain ⟨b1, b2, r1, hn, h1, h2, hne⟩ := h
  exact ⟨b1.set _, b2.other (fun e => hne e.symm) _, own_setFar r1 (fun e => by have := (r1.lt _ e).1; simp at this; omega) _, by simpa using hn, h1, h2, hne⟩
theorem OffS.storeO (h : OffS n₁ BX BO x u v l W) (u' : Value) : OffS n₁ BX BO x u' v l (W.setCell ⟨BO, 0, none⟩ u') := by
  obtain ⟨b1, b2, r1, hn, h1, h2, hne⟩ := h
  exact ⟨b1.other hne _, b2.set _, own_setFar r1 (fun e => by have := (r1.lt _ e).1; simp at this; omega) _, by simpa using hn, h1, h2, hne⟩
theorem offS_own {β : Type} (n₁ BX BO : Nat) (fx : β → Nat) (fl : β → List Nat) : Own (fun s W => ∃ v, OffS n₁ BX BO (fx s) v v (fl s) W) := by
  rintro s X Y row ⟨v, b1, b2, r1, hn, h1, h2, hne⟩ hg hrow
  have hb : ∀ {B t v}, Boxed X B t v → Boxed Y B t v := fun {B t v} hb => hb.kept hg (fun e' => by
    obtain ⟨o, ho, hc⟩ := hrow B e'.symm
    rw [show X.heap[B]? = _ from hb] at ho; cases ho; cases hc)
  have hr : ∀ {v k xs}, X.ownsRow n₁ 5 1 v k xs → Y.ownsRow n₁ 5 1 v k xs := fun {v k xs} hr => hr.kept hg (by
    rcases hr.2 with ⟨rfl, _⟩ | ⟨g, cap, cur, rfl, _, hgb, _⟩
    · exact .inl rfl
    · refine .inr fun e' => ?_
      obtain ⟨o, ho, hc⟩ := hrow g (by simpa [Value.ownBlock] using e'.symm)
      rw [hgb] at ho; cases ho; cases hc)
  exact ⟨v, hb b1, hb b2, hr r1, Nat.le_trans hn hg.size, h1, h2, hne⟩
end
theorem wpListIn_pushOff {F : Fence} {nF : Nat} {ops : Array Oper} {rest : List Oper} {o : Oper} {a : Act} {Q : Exit → Act → World → Prop} {n₀ n₁ BX BO x : Nat} {u v : Value} {l : List Nat} (W : World) (h : OffS n₁ BX BO x u v l W) (h0 : n₀ ≤ n₁) (hl : l.length ≤ 1000000) (y : Nat)
    (hgd : o.guard = none) (s z : Operand) (ho : o.op = .call { callee := .builtin .append, args := #[s, z], argTypes := #[79, 79] }) (hs : a.eval s = v) (hx : a.eval z = .slice (some ⟨W.heap.size, 0, none⟩) 1 1)
    (hc : ∀ g cap w', OffS n₁ BX BO x u (.slice (some ⟨g, 0, none⟩) (l.length + 1) cap) (l ++ [y]) w' → Keeps3 n₀ n₁ BX BO W w' → wpListIn F nF Try.prog ops Q rest (a.put o.dst (.slice (some ⟨g, 0, none⟩) (l.length + 1) cap)) w') :
    wpListIn F nF Try.prog ops Q (o :: rest) a (W.alloc (.cells #[.int .u8 (y : Int)] 5)) := by
  obtain ⟨i0, hi, hz0, hz1, hz2⟩ := info_parts byte_info
  have hA := h.alloc (.cells #[.int .u8 (y : Int)] 5)
  refine wpListIn_append_own_at _ hgd s z 79 ho n₁ 5 i0 (.int .u8 0) 1 1 Try.underlying79 hi hz0 hz1 hz2 rfl (by omega) v l.length (bvals l) hs hA.2.2.1 ⟨W.heap.size, 0, none⟩ 1 1 [.int .u8 (y : Int)] hx rfl ?_ ?_ (by unfold maxLen; omega) (by omega) hA.2.2.2.1 ?_
  · intro j u hj
    match j, hj with
    | 0, hj => simp at hj; subst hj; simp [Addr.add]
  · intro u hu
    simp at hu
    subst hu
    rfl
  · intro v' w' ho' hg _ _
    obtain ⟨A', cap, rfl⟩ := own_slice ho'
    obtain ⟨g, rfl, _, _⟩ := own_form ho' (by omega)
    have e : l.length + 1 = (l ++ [y]).length := by simp
    refine hc g cap w' (hA.grown (by rw [← e, bvals_append]; exact ho') hg) ?_
    exact (Keeps3.alloc W _ (Nat.le_trans h0 h.2.2.2.1) h.2.2.2.1).trans (Keeps3.grown hA.2.2.1 h0 hA.2.2.2.1 hg)
theorem cells_row {w : World} {base : Nat} {e : TypeId} {v : Value} {k : Nat} {xs : List Value} (h : w.ownsRow base e 1 v k xs) {j : Nat} {o : Obj} (ej : v.ownBlock = some j) (hj : w.heap[j]? = some o) : o.isCells = true := by
  rcases h.2 with ⟨rfl, _⟩ | ⟨g, cap, cur, rfl, _, hgb, _⟩
  · simp [Value.ownBlock] at ej
  · obtain rfl : g = j := by simpa [Value.ownBlock] using ej
    rw [hgb] at hj; cases hj; rfl
/-- The signs that have come. -/
def signs {m : Nat} (l : List Int) (pre : List (Fin m)) : List Int := pre.map fun x => l.getD x.1 0
theorem signs_snoc {m : Nat} (l : List Int) (pre : List (Fin m)) (x : Fin m) : signs l (pre ++ [x]) = signs l pre ++ [l.getD x.1 0] := by simp [signs]
theorem u8_wrap (x : Nat) : IntKind.u8.wrap (x : Int) = ((x % 256 : Nat) : Int) := by
  show (x : Int) % 256 = _
  omega
set_option maxRecDepth 1000000 in
set_option maxHeartbeats 8000000 in
theorem hsound_ok (A1 : Option Addr) (n1 c1 : Nat) (f : List Int) (A2 : Option Addr) (n2 c2 : Nat) (l : List Int) (w : World) (B : Nat) (h1 : RdI w B A1 n1 f) (h2 : RdI w B A2 n2 l) (hB : B ≤ w.heap.size) (hc2 : n2 ≤ c2) (hf : Ph.sharesOk f) (hl : l.length ≤ 60) (hg : ∀ s ∈ l, Ph.good f s) :
    Calls Try.prog 47 #[.slice A1 n1 c1, .slice A2 n2 c2] w fun e w' => ∃ A n c, e = .returned (.slice A n c) ∧ w'.ownsRow w.heap.size 5 1 (.slice A n c) n (bvals (Ph.bytes f l)) ∧ Below w.heap.size w w' := by
  have hlen1 := h1.len
  have hlen2 := h2.len
  have hn60 : n2 ≤ 60 := by omega
  have HF := Lib.hid hf
  have HGD := Lib.hid hg
  have HL1 := Lib.hid hlen1
  have HL2 := Lib.hid hlen2
  have HB0 := Lib.hid (below_alloc0 w (.cells #[.slice A1 n1 c1] 22))
  have H1 := Lib.hid h1
  have H2 := Lib.hid h2
  have HBG := Lib.hid fun W hW hBW => begins_any A1 n1 c1 f W B hW hBW hf
  have hf1 : 1 ≤ n1 ∧ n1 ≤ 40 := by have := hf.1; have := hf.2.1; omega
  clear h1 h2 hf hl hg hlen1 hlen2
  refine (callsIn_wide (n := 9)).1 ?_
  refine callsIn_of_wp_marks Try.func47 rfl trivial ?_ rfl
  refine wpIn_wide.2 ?_
  simp only [Try.ntmps47, List.size_toArray, List.length_cons, List.length_nil, Nat.reduceAdd, Nat.reduceSub, Array.replicate_succ, Array.replicate_zero, List.push_toArray, List.append_toArray, List.nil_append, List.cons_append]
  go_wp2_with fail
  refine (HBG.out _ (H1.out.below (HB0.out.mono hB)) (Nat.le_trans hB (by simp))).mono ?_
  rintro e w2 ⟨A5, c5, rfl, ho5, hb2⟩
  rw [begins_length, HL1.out] at ho5 ⊢
  have HO5 := Lib.hid ho5
  have HB2 := Lib.hid hb2
  clear ho5 hb2 HBG
  go_wp2_with ((go_at_call 82; refine (back_any A2 n2 c2 _).mono ?_; rintro e w' ⟨rfl, rfl⟩))
  obtain ⟨W0, hW0⟩ : ∃ W0, W0 = ((((w2.alloc (.cells #[.slice A5 n1 c5] 22)).alloc (.cells #[.int .i64 65536] 3)).alloc (.cells #[.slice none 0 0] 79)).alloc (.cells #[.slice A2 n2 c2] 22)) := ⟨_, rfl⟩
  rw [← hW0]
  have hsz : W0.heap.size = w2.heap.size + 4 := by rw [hW0]; simp
  have hsz2 : w.heap.size + 1 ≤ w2.heap.size := by have := HB2.out.size; simpa using this
  have b0 : Boxed W0 w.heap.size 22 (.slice A1 n1 c1) := by
    rw [hW0]
    have h0 : Boxed w2 w.heap.size 22 (.slice A1 n1 c1) := (HB2.out.block w.heap.size (by simp)).trans (Boxed.new w _ _)
    exact (((h0.alloc _).alloc _).alloc _).alloc _
  have b5 : Boxed W0 w2.heap.size 22 (.slice A5 n1 c5) := by rw [hW0]; exact (((Boxed.new w2 _ _).alloc _).alloc _).alloc _
  have b6 : Boxed W0 (w2.heap.size + 1) 3 (.int .i64 65536) := by
    rw [hW0]
    have := Boxed.new (w2.alloc (.cells #[.slice A5 n1 c5] 22)) 3 (.int .i64 65536)
    rw [World.size_alloc] at this
    exact (this.alloc _).alloc _
  have b7 : Boxed W0 (w2.heap.size + 1 + 1) 79 (.slice none 0 0) := by
    rw [hW0]
    have := Boxed.new ((w2.alloc (.cells #[.slice A5 n1 c5] 22)).alloc (.cells #[.int .i64 65536] 3)) 79 (.slice none 0 0)
    rw [World.size_alloc, World.size_alloc] at this
    exact this.alloc _
  have b8 : Boxed W0 (w2.heap.size + 1 + 1 + 1) 22 (.slice A2 n2 c2) := by
    rw [hW0]
    have := Boxed.new (((w2.alloc (.cells #[.slice A5 n1 c5] 22)).alloc (.cells #[.int .i64 65536] 3)).alloc (.cells #[.slice none 0 0] 79)) 22 (.slice A2 n2 c2)
    rw [World.size_alloc, World.size_alloc, World.size_alloc] at this
    exact this
  have hbel2 : Below w2.heap.size w2 W0 := by rw [hW0]; exact ((((Below.refl _ w2).alloc (Nat.le_refl _) _).alloc (by simp) _).alloc (by simp; omega) _).alloc (by simp; omega) _
  have hbel : Below w.heap.size w W0 := (HB0.out.trans (HB2.out.mono (by simp))).trans (hbel2.mono (by omega))
  have r5 : RdI W0 W0.heap.size A5 n1 (begins f) := (RdI.own HO5.out).on hbel2
  have r1 : RdI W0 B A1 n1 f := H1.out.below (hbel.mono hB)
  have r2 : RdI W0 w.heap.size A2 n2 l := (H2.out.below (hbel.mono hB)).more hB
  clear hW0
  refine (wpIn_wide (n := 9)).1 ?_
  refine wpIn_rangeFunc_ownG rfl (by omega) (gf := 110) (lb := #[.pointer (some ⟨w2.heap.size + 1 + 1 + 1, 0, none⟩)]) rfl trivial (enters_of Try.func110 (by kernel_rfl) rfl)
    (back_stops 8 (by omega) w.heap.size (w2.heap.size + 1 + 1 + 1) n2 c2 A2 l (by omega) W0 (by omega) (by omega) r2 b8.cell) KeepB.t (KeepB.b (by omega) (by omega)) (Below.refl _ _) (fun _ => rfl)
    (fun pre W => (∃ v, OffS W0.heap.size (w2.heap.size + 1) (w2.heap.size + 1 + 1) (Ph.efold f (signs l pre)).1 v v (Ph.efold f (signs l pre)).2 W) ∧ Keeps3 w.heap.size W0.heap.size (w2.heap.size + 1) (w2.heap.size + 1 + 1) W0 W)
    (fun _ _ _ => False)
    (OwnFrom.and (Own.from (offS_own _ _ _ (fun (pre : List (Fin n2)) => (Ph.efold f (signs l pre)).1) (fun pre => (Ph.efold f (signs l pre)).2)) _) (keeps3_own _ _ _ _ _ _ (by omega) (Nat.le_refl _) (Nat.le_refl _)))
    (fun _ _ _ _ _ hs _ _ => hs)
    ⟨⟨.slice none 0 0, b6, b7, own_nil _ _ _, Nat.le_refl _, by omega, by omega, by omega⟩, Keeps3.refl _⟩
    (fun x => { tmps := #[.slice A1 n1 c1, .slice A2 n2 c2, .pointer (some ⟨w.heap.size, 0, none⟩), undef, .slice none 0 0, .pointer (some ⟨w2.heap.size, 0, none⟩), .pointer (some ⟨w2.heap.size + 1, 0, none⟩), .pointer (some ⟨w2.heap.size + 1 + 1, 0, none⟩), undef, .int .i64 (l.getD x.1 0), .slice A1 n1 c1, .slice A5 n1 c5, .slice A2 n2 c2, .func (.func 110) #[] #[.pointer (some ⟨w2.heap.size + 1 + 1 + 1, 0, none⟩)], .int .i64 (x.1 : Nat), .int .i64 (l.getD x.1 0), undef, undef, undef, undef, undef, undef, undef, undef, undef, undef, undef, undef, undef, undef, undef, undef, undef, undef, undef, undef, undef, undef, undef, undef, undef, undef, undef, undef, undef, undef, undef, undef, undef, undef, undef, undef, undef, undef, undef, undef, undef, undef, undef, undef, undef, undef, undef], defers := [] }) ?assign ?body ?done ?stop
  case assign =>
    intro r x W K hK
    gi_wp2
    exact hK
  case body =>
    rintro r pre x W ⟨⟨v, hT⟩, hKp⟩ hlen
    have hgs : ∀ s ∈ signs l pre, Ph.good f s := fun s hs => by
      obtain ⟨y, _, rfl⟩ := List.mem_map.1 hs
      exact HGD.out _ (Ph.getD_mem (by rw [HL2.out]; exact y.2))
    have hxb := Ph.efold_bd HF.out hgs
    have hpl : pre.length ≤ 60 := by omega
    have hsl : (signs l pre).length = pre.length := by simp [signs]
    have hg := HGD.out _ (Ph.getD_mem (l := l) (i := x.1) (by rw [HL2.out]; exact x.2))
    have hgb := Ph.good_bd HF.out hg
    have hstep := Ph.efold_snoc f (signs l pre) (l.getD x.1 0)
    rw [← signs_snoc] at hstep
    unfold Ph.estep at hstep
    obtain ⟨y, hy⟩ : ∃ y, y = l.getD x.1 0 := ⟨_, rfl⟩
    rw [← hy] at hg hgb hstep ⊢
    obtain ⟨S, rfl⟩ := Int.eq_ofNat_of_zero_le hg.1
    rw [Int.toNat_natCast] at hgb hstep
    have hSn : S < n1 := by have := hg.2.1; rw [HL1.out] at this; omega
    have hbf : Boxed W w.heap.size 22 (.slice A1 n1 c1) := (hKp.2.2 w.heap.size (by omega) (by omega) (by omega)).trans b0
    have hbs : Boxed W w2.heap.size 22 (.slice A5 n1 c5) := (hKp.2.2 w2.heap.size (by omega) (by omega) (by omega)).trans b5
    obtain ⟨q1, o1, hA1, hq1, c0⟩ := (r1.below (hKp.1.mono hB)).at_ hSn
    obtain ⟨q5, o5, hA5, hq5, d5'⟩ := (RdI.own HO5.out).at_ hSn
    have d5 := (World.cell?_of_block (hKp.2.2 q5 (by omega) (by omega) (by omega))).trans ((hbel2.cell (p := ⟨q5, o5 + S, none⟩) hq5).trans d5')
    have hfx : f.getD S 0 = (Ph.sh f S : Nat) := by unfold Ph.sh; have := (HF.out.2.2.1 _ (Ph.getD_mem (l := f) (i := S) (by rw [HL1.out]; exact hSn))).1; omega
    have hsx : (begins f).getD S 0 = (Ph.st f S : Nat) := by
      rw [begins_getD f S (by rw [HL1.out]; exact hSn)]
      unfold Ph.st; have := (pre_bd HF.out S).1; omega
    rw [hfx] at c0
    rw [hsx] at d5
    obtain ⟨F, hF⟩ : ∃ F, F = Ph.sh f S := ⟨_, rfl⟩
    obtain ⟨T, hT0⟩ : ∃ T, T = Ph.st f S := ⟨_, rfl⟩
    rw [← hF] at c0 hgb hstep
    rw [← hT0] at d5 hgb hstep
    obtain ⟨E, hE⟩ : ∃ E, E = Ph.efold f (signs l pre) := ⟨_, rfl⟩
    rw [← hE] at hxb hstep hT
    obtain ⟨E2, hE2⟩ : ∃ E, E = Ph.efold f (signs l (pre ++ [x])) := ⟨_, rfl⟩
    rw [← hE2] at hstep
    obtain ⟨X, L⟩ := E
    obtain ⟨A5', k5, hvL⟩ := own_slice hT.2.2.1
    subst hvL
    simp only at hxb hstep hT
    have hc1 := hbf.cell
    have hc5 := hbs.cell
    have hc6 := hT.1.cell
    have hc7 := hT.2.1.cell
    have HT := Lib.hid hT
    have HKP := Lib.hid hKp
    have HE2 := Lib.hid hE2
    have hFX : F ≤ 256 ∧ 1 ≤ F ∧ T + F ≤ 256 := by omega
    have hXb : 65536 ≤ X ∧ X < 16777216 := ⟨hxb.1, hxb.2.1⟩
    have hLl : L.length ≤ 60 := by omega
    subst hA1
    subst hA5
    have hS0 : (0 : Int) ≤ (S : Int) := by omega
    have hS1 : (S : Int) < (n1 : Int) := by omega
    have w1 : IntKind.i64.wrap (65536 * (F : Int)) = 65536 * (F : Int) := IntWalk.i64_in _ (by omega)
    have HFIN : Hid (∀ (Wz : World) (X' : Nat) (L' : List Nat) (v' : Value), OffS W0.heap.size (w2.heap.size + 1) (w2.heap.size + 1 + 1) X' v' v' L' Wz → Keeps3 w.heap.size W0.heap.size (w2.heap.size + 1) (w2.heap.size + 1 + 1) W Wz → E2 = (X', L') →
        KeepsFrom W0.heap.size W Wz ∧ KeepB w.heap.size (w2.heap.size + 1 + 1 + 1) W Wz ∧ ((∃ v, OffS W0.heap.size (w2.heap.size + 1) (w2.heap.size + 1 + 1) (Ph.efold f (signs l (pre ++ [x]))).1 v v (Ph.efold f (signs l (pre ++ [x]))).2 Wz) ∧ Keeps3 w.heap.size W0.heap.size (w2.heap.size + 1) (w2.heap.size + 1 + 1) W0 Wz)) := Lib.hid fun Wz X' L' v' ht hk he => by
      rw [← hE2, he]
      exact ⟨hk.2.1.from _, ⟨World.cell?_of_block (hk.2.2 _ (by show w2.heap.size + 1 + 1 + 1 < _; omega) (by show w2.heap.size + 1 + 1 + 1 ≠ _; omega) (by show w2.heap.size + 1 + 1 + 1 ≠ _; omega)), hk.1⟩, ⟨v', ht⟩, hKp.trans hk⟩
    clear hgs hxb hpl hsl hg hgb hy hfx hsx hF hT0 hE hE2 hT hKp hbf hbs d5' hlen hbel hbel2 r1 r2 r5 b0 b5 b6 b7 b8
    by_cases hge : 65536 * F ≤ X
    · rw [if_pos hge] at hstep
      have hge' : 65536 * (F : Int) ≤ (X : Int) := by omega
      have HST := Lib.hid hstep
      have u1 := u8_wrap X
      have x1 : ((X : Int)).tdiv 256 = ((X / 256 : Nat) : Int) := by rw [Int.tdiv_eq_ediv_of_nonneg (by omega)]; rfl
      have x2 : ((X : Int)) / 256 = ((X / 256 : Nat) : Int) := by omega
      obtain ⟨Y, hY⟩ : ∃ Y, Y = X / 256 := ⟨_, rfl⟩
      obtain ⟨Z, hZ⟩ : ∃ Z, Z = X % 256 := ⟨_, rfl⟩
      rw [← hY] at x1 x2 hstep HST
      rw [← hZ] at u1 HST
      have hYb : 65536 ≤ Y * 256 + 255 ∧ Y < 65536 := by omega
      have hlt2 : ¬ (65536 * (F : Int) ≤ (Y : Int)) := by omega
      clear hstep hY hZ hge
      gi_wp2_with fail
      refine wpIn_loop_rounds 2 ?_
      rw [roundsIn_succ]
      gi_wp2_with fail
      refine region_inR_quiet (by kernel_rfl) (by kernel_rfl) (by kernel_rfl) (fun _ _ h => h) ?_
      repeat (go_big_quiet_step (fail))
      refine wpQuiet_nil ?_
      rintro _ ⟨nq, rfl⟩
      obtain ⟨W3, hW3⟩ : ∃ W1, W1 = W.drewN nq := ⟨_, rfl⟩
      rw [← hW3]
      have HT3 : Hid (OffS W0.heap.size (w2.heap.size + 1) (w2.heap.size + 1 + 1) X (.slice A5' L.length k5) (.slice A5' L.length k5) L W3) := Lib.hid (by rw [hW3]; exact HT.out.drewN nq)
      have HK3 : Hid (Keeps3 w.heap.size W0.heap.size (w2.heap.size + 1) (w2.heap.size + 1 + 1) W W3) := Lib.hid (by rw [hW3]; exact Keeps3.drewN _ _)
      have g6 := HT3.out.1.cell
      have g7 := HT3.out.2.1.cell
      clear hW3 hc6 hc7
      gi_wp2_with (gi_at_builtin; refine wpListIn_pushOff (n₀ := w.heap.size) W3 HT3.out (by omega) (by omega) Z (by rfl) _ _ (by rfl) (by rfl) (by rfl) ?_; intro g4 k4 w4 ht4 hk4; have HT4 := Lib.hid ht4; have HK4 := Lib.hid (HK3.out.trans hk4); clear ht4 hk4; have j6 := HT4.out.1.cell; have j7 := HT4.out.2.1.cell; have j8 := HT4.out.1.frozen; have j9 := HT4.out.2.1.frozen)
      obtain ⟨W5, hW5⟩ : ∃ W5, W5 = (w4.setCell ⟨w2.heap.size + 1 + 1, 0, none⟩ (.slice (some ⟨g4, 0, none⟩) (L.length + 1) k4)).setCell ⟨w2.heap.size + 1, 0, none⟩ (.int .i64 (Y : Int)) := ⟨_, rfl⟩
      rw [← hW5]
      have HT5 : Hid (OffS W0.heap.size (w2.heap.size + 1) (w2.heap.size + 1 + 1) Y (.slice (some ⟨g4, 0, none⟩) (L.length + 1) k4) (.slice (some ⟨g4, 0, none⟩) (L.length + 1) k4) (L ++ [Z]) W5) := Lib.hid (by rw [hW5]; exact (HT4.out.storeO _).storeX Y)
      have HK5 : Hid (Keeps3 w.heap.size W0.heap.size (w2.heap.size + 1) (w2.heap.size + 1 + 1) W W5) := Lib.hid (by rw [hW5]; exact (HK4.out.trans (Keeps3.store _ _ (by omega) (.inr rfl))).trans (Keeps3.store _ _ (by omega) (.inl rfl)))
      have c0' : W5.cell? ⟨q1, o1 + S, none⟩ = some (.int .i64 (F : Int)) := (World.cell?_of_block (HK5.out.2.2 q1 (by omega) (by omega) (by omega))).trans c0
      have d5' : W5.cell? ⟨q5, o5 + S, none⟩ = some (.int .i64 (T : Int)) := (World.cell?_of_block (HK5.out.2.2 q5 (by omega) (by omega) (by omega))).trans d5
      have hc1' : W5.cell? ⟨w.heap.size, 0, none⟩ = some (.slice (some ⟨q1, o1, none⟩) n1 c1) := (World.cell?_of_block (HK5.out.2.2 w.heap.size (by omega) (by omega) (by omega))).trans hc1
      have hc5' : W5.cell? ⟨w2.heap.size, 0, none⟩ = some (.slice (some ⟨q5, o5, none⟩) n1 c5) := (World.cell?_of_block (HK5.out.2.2 w2.heap.size (by omega) (by omega) (by omega))).trans hc5
      have y6 := HT5.out.1.cell
      clear hW5 c0 d5 hc1 hc5 j6 j7 j8 j9 g6 g7
      rw [roundsIn_succ]
      gi_wp2_with fail
      refine region_inR_quiet (by kernel_rfl) (by kernel_rfl) (by kernel_rfl) (fun _ _ h => h) ?_
      repeat (go_big_quiet_step (fail))
      refine wpQuiet_nil ?_
      rintro _ ⟨mq, rfl⟩
      gi_wp2_with fail
      obtain ⟨W1, hW1⟩ : ∃ W1, W1 = W5.drewN mq := ⟨_, rfl⟩
      rw [← hW1]
      have HT1 : Hid (OffS W0.heap.size (w2.heap.size + 1) (w2.heap.size + 1 + 1) Y (.slice (some ⟨g4, 0, none⟩) (L.length + 1) k4) (.slice (some ⟨g4, 0, none⟩) (L.length + 1) k4) (L ++ [Z]) W1) := Lib.hid (by rw [hW1]; exact HT5.out.drewN mq)
      have HK1 : Hid (Keeps3 w.heap.size W0.heap.size (w2.heap.size + 1) (w2.heap.size + 1 + 1) W W1) := Lib.hid (by rw [hW1]; exact HK5.out.trans (Keeps3.drewN _ _))
      have e0 : W1.cell? ⟨q1, o1 + S, none⟩ = some (.int .i64 (F : Int)) := by rw [hW1]; exact c0'
      have e1 : W1.cell? ⟨w.heap.size, 0, none⟩ = some (.slice (some ⟨q1, o1, none⟩) n1 c1) := by rw [hW1]; exact hc1'
      have e5 : W1.cell? ⟨w2.heap.size, 0, none⟩ = some (.slice (some ⟨q5, o5, none⟩) n1 c5) := by rw [hW1]; exact hc5'
      have e6 : W1.cell? ⟨q5, o5 + S, none⟩ = some (.int .i64 (T : Int)) := by rw [hW1]; exact d5'
      clear hW1 c0' hc1' hc5' d5' y6
      have e7 := HT1.out.1.cell
      have e8 := HT1.out.1.frozen
      have k1 : ((Y : Int)).tdiv (F : Int) = ((Y / F : Nat) : Int) := by rw [Int.tdiv_eq_ediv_of_nonneg (by omega)]; rfl
      have k2 : ((Y : Int)).tmod (F : Int) = ((Y % F : Nat) : Int) := by rw [Int.tmod_eq_emod_of_nonneg (by omega)]; rfl
      have m1 : Y / F ≤ Y := Nat.div_le_self _ _
      have m2 : Y % F ≤ Y := Nat.mod_le _ _
      obtain ⟨Q, hQ⟩ : ∃ Q, Q = Y / F := ⟨_, rfl⟩
      obtain ⟨M, hM⟩ : ∃ M, M = Y % F := ⟨_, rfl⟩
      rw [← hQ] at k1 m1
      rw [← hM] at k2 m2
      have z3 : IntKind.i64.wrap (Q : Int) = (Q : Int) := IntWalk.i64_in _ (by omega)
      have z4 : IntKind.i64.wrap ((Q : Int) * 256) = (Q : Int) * 256 := IntWalk.i64_in _ (by omega)
      have z5 : IntKind.i64.wrap ((Q : Int) * 256 + (M : Int)) = (Q : Int) * 256 + (M : Int) := IntWalk.i64_in _ (by omega)
      have z6 : IntKind.i64.wrap ((Q : Int) * 256 + (M : Int) + (T : Int)) = (Q : Int) * 256 + (M : Int) + (T : Int) := IntWalk.i64_in _ (by omega)
      have k7 : ¬ (F : Int) = 0 := by omega
      have k8 : ¬ F = 0 := by omega
      have HQM : Hid (Ph.up F T Y = Q * 256 + M + T) := Lib.hid (by rw [hQ, hM]; rfl)
      clear hQ hM hge' hlt2 w1
      refine region_inR_still_tail 19 (by kernel_rfl) (by kernel_rfl) (by kernel_rfl) (fun _ _ h => h) ?_
      simp only [List.take_succ_cons, List.take_zero, List.drop_succ_cons, List.drop_zero]
      repeat still_step
      refine wpStill_nil ?_
      go_wp2_with fail
      refine HFIN.out _ (Q * 256 + M + T) (L ++ [Z]) (.slice (some ⟨g4, 0, none⟩) (L.length + 1) k4) ?_ ?_ (by rw [HST.out, HQM.out])
      · exact (HT1.out.storeX (Q * 256 + M + T)).drew
      · exact (HK1.out.trans (Keeps3.store _ _ (by omega) (.inl rfl))).trans (Keeps3.drew _)
    · rw [if_neg hge] at hstep
      have hge' : ¬ (65536 * (F : Int) ≤ (X : Int)) := by omega
      have HST := Lib.hid hstep
      clear hstep
      gi_wp2_with fail
      refine wpIn_loop_rounds 1 ?_
      rw [roundsIn_succ]
      gi_wp2_with fail
      refine region_inR_quiet (by kernel_rfl) (by kernel_rfl) (by kernel_rfl) (fun _ _ h => h) ?_
      repeat (go_big_quiet_step (fail))
      refine wpQuiet_nil ?_
      rintro _ ⟨nq, rfl⟩
      gi_wp2_with fail
      obtain ⟨W1, hW1⟩ : ∃ W1, W1 = W.drewN nq := ⟨_, rfl⟩
      rw [← hW1]
      have HT1 : Hid (OffS W0.heap.size (w2.heap.size + 1) (w2.heap.size + 1 + 1) X (.slice A5' L.length k5) (.slice A5' L.length k5) L W1) := Lib.hid (by rw [hW1]; exact HT.out.drewN nq)
      have HK1 : Hid (Keeps3 w.heap.size W0.heap.size (w2.heap.size + 1) (w2.heap.size + 1 + 1) W W1) := Lib.hid (by rw [hW1]; exact Keeps3.drewN _ _)
      have e0 : W1.cell? ⟨q1, o1 + S, none⟩ = some (.int .i64 (F : Int)) := by rw [hW1]; exact c0
      have e1 : W1.cell? ⟨w.heap.size, 0, none⟩ = some (.slice (some ⟨q1, o1, none⟩) n1 c1) := by rw [hW1]; exact hc1
      have e5 : W1.cell? ⟨w2.heap.size, 0, none⟩ = some (.slice (some ⟨q5, o5, none⟩) n1 c5) := by rw [hW1]; exact hc5
      have e6 : W1.cell? ⟨q5, o5 + S, none⟩ = some (.int .i64 (T : Int)) := by rw [hW1]; exact d5
      clear hW1 c0 hc1 hc5 d5 hc6 hc7
      have e7 := HT1.out.1.cell
      have e8 := HT1.out.1.frozen
      have k1 : ((X : Int)).tdiv (F : Int) = ((X / F : Nat) : Int) := by rw [Int.tdiv_eq_ediv_of_nonneg (by omega)]; rfl
      have k2 : ((X : Int)).tmod (F : Int) = ((X % F : Nat) : Int) := by rw [Int.tmod_eq_emod_of_nonneg (by omega)]; rfl
      have m1 : X / F ≤ X := Nat.div_le_self _ _
      have m2 : X % F ≤ X := Nat.mod_le _ _
      obtain ⟨Q, hQ⟩ : ∃ Q, Q = X / F := ⟨_, rfl⟩
      obtain ⟨M, hM⟩ : ∃ M, M = X % F := ⟨_, rfl⟩
      rw [← hQ] at k1 m1
      rw [← hM] at k2 m2
      have z3 : IntKind.i64.wrap (Q : Int) = (Q : Int) := IntWalk.i64_in _ (by omega)
      have z4 : IntKind.i64.wrap ((Q : Int) * 256) = (Q : Int) * 256 := IntWalk.i64_in _ (by omega)
      have z5 : IntKind.i64.wrap ((Q : Int) * 256 + (M : Int)) = (Q : Int) * 256 + (M : Int) := IntWalk.i64_in _ (by omega)
      have z6 : IntKind.i64.wrap ((Q : Int) * 256 + (M : Int) + (T : Int)) = (Q : Int) * 256 + (M : Int) + (T : Int) := IntWalk.i64_in _ (by omega)
      have k7 : ¬ (F : Int) = 0 := by omega
      have k8 : ¬ F = 0 := by omega
      have HQM : Hid (Ph.up F T X = Q * 256 + M + T) := Lib.hid (by rw [hQ, hM]; rfl)
      clear hQ hM hge hge' w1
      refine region_inR_still_tail 19 (by kernel_rfl) (by kernel_rfl) (by kernel_rfl) (fun _ _ h => h) ?_
      simp only [List.take_succ_cons, List.take_zero, List.drop_succ_cons, List.drop_zero]
      repeat still_step
      refine wpStill_nil ?_
      go_wp2_with fail
      refine HFIN.out _ (Q * 256 + M + T) L (.slice A5' L.length k5) ?_ ?_ (by rw [HST.out, HQM.out])
      · exact (HT1.out.storeX (Q * 256 + M + T)).drew
      · exact (HK1.out.trans (Keeps3.store _ _ (by omega) (.inl rfl))).trans (Keeps3.drew _)
  case done =>
    rintro D xs W hD rfl ⟨⟨v, hT⟩, hKp⟩ hK
    have hxe : signs l (List.finRange n2).reverse = l.reverse := by
      have e := HL2.out
      subst e
      exact Ph.rev_map l
    rw [hxe] at hT
    have hb := Ph.efold_bd HF.out (ss := l.reverse) (fun s hs => HGD.out s (by simpa using hs))
    have hBY := Ph.bytes_fold f l
    rw [List.length_reverse, HL2.out] at hb
    obtain ⟨E, hE⟩ : ∃ E, E = Ph.efold f l.reverse := ⟨_, rfl⟩
    rw [← hE] at hb hT hBY
    obtain ⟨X, L⟩ := E
    simp only at hb hT hBY
    obtain ⟨A6, k6, hvL⟩ := own_slice hT.2.2.1
    subst hvL
    have hLl : L.length ≤ 60 := by omega
    have hXb : 65536 ≤ X ∧ X < 16777216 := ⟨hb.1, hb.2.1⟩
    have x1 : ((X : Int)).tdiv 256 = ((X / 256 : Nat) : Int) := by rw [Int.tdiv_eq_ediv_of_nonneg (by omega)]; rfl
    have x2 : ((X : Int)) / 256 = ((X / 256 : Nat) : Int) := by omega
    have y1 : ((X / 256 : Nat) : Int).tdiv 256 = ((X / 256 / 256 : Nat) : Int) := by rw [Int.tdiv_eq_ediv_of_nonneg (by omega)]; rfl
    have y2 : ((X / 256 : Nat) : Int) / 256 = ((X / 256 / 256 : Nat) : Int) := by omega
    have u1 := u8_wrap X
    have u2 := u8_wrap (X / 256)
    have u3 := u8_wrap (X / 256 / 256)
    have hLI : Hid (Ph.bytes f l = [X / 256 / 256 % 256, X / 256 % 256, X % 256] ++ L.reverse) := Lib.hid (by
      rw [hBY]
      unfold Ph.told
      rw [Nat.div_div_eq_div_mul]; rfl)
    obtain ⟨Y, hY⟩ : ∃ Y, Y = X / 256 := ⟨_, rfl⟩
    rw [← hY] at x1 x2 y1 y2 u2 u3 hLI
    obtain ⟨Z, hZ⟩ : ∃ Z, Z = Y / 256 := ⟨_, rfl⟩
    rw [← hZ] at y1 y2 u3 hLI
    obtain ⟨a1, ha1⟩ : ∃ a, a = X % 256 := ⟨_, rfl⟩
    obtain ⟨a2, ha2⟩ : ∃ a, a = Y % 256 := ⟨_, rfl⟩
    obtain ⟨a3, ha3⟩ : ∃ a, a = Z % 256 := ⟨_, rfl⟩
    rw [← ha1] at u1 hLI
    rw [← ha2] at u2 hLI
    rw [← ha3] at u3 hLI
    have hyb : Y ≤ 65536 := by omega
    have hzb : Z ≤ 256 := by omega
    have hc6 := hT.1.cell
    have hc7 := hT.2.1.cell
    have HT := Lib.hid hT
    have HKP := Lib.hid hKp
    have HBEL := Lib.hid hbel
    have HM : Hid (Marked w.heap.size W [{ target := .collected D, args := #[] }]) := Lib.hid ⟨D, rfl, by omega, hK, fun r' hr => (by cases hr), trivial⟩
    have HRV := Lib.hid (reverse_own L.length W0.heap.size (.slice A6 L.length k6) L W (by omega) hT.2.2.1)
    clear hxe hb hBY hE hT hKp hbel hbel2 hK b0 b5 b6 b7 b8 r1 r2 r5 hY hZ ha1 ha2 ha3
    go_wp2_with fail
    refine HRV.out.mono ?_
    rintro e w3 ⟨rfl, ho3, hg3⟩
    have hT3 := HT.out.grown (l' := L.reverse) (v' := .slice A6 L.length k6) (by rw [List.length_reverse]; exact ho3) hg3
    have hK3 := HKP.out.trans (Keeps3.grown (B1 := w2.heap.size + 1) (B2 := w2.heap.size + 1 + 1) HT.out.2.2.1 (by omega) HT.out.2.2.2.1 hg3)
    have HM3 := Lib.hid (HM.out.kept (KeepsOthers.of_grownBy hg3 (fun j o ej hj => cells_row HT.out.2.2.1 ej hj)))
    have hd6 := hT3.1.cell
    have hd7 := hT3.2.1.cell
    have hd8 : (w3.alloc (.cells #[.int .u8 (a3 : Int), .int .u8 (a2 : Int), .int .u8 (a1 : Int)] 5)).cell? ⟨w2.heap.size + 1 + 1, 0, none⟩ = some (.slice A6 L.length k6) := (World.cell?_alloc_lt w3 _ ⟨w2.heap.size + 1 + 1, 0, none⟩ hT3.2.1.lt).trans hd7
    have HT3 := Lib.hid hT3
    have HB3 := Lib.hid (HBEL.out.trans hK3.1)
    clear hT3 hK3 ho3 hg3 hc6 hc7 HT HKP HM HRV
    have hro3 : w3.ownsRow W0.heap.size 5 1 (.slice A6 L.length k6) L.length (bvals L.reverse) := by have := HT3.out.2.2.1; rwa [List.length_reverse] at this
    have own3 : (w3.alloc (.cells #[.int .u8 (a3 : Int), .int .u8 (a2 : Int), .int .u8 (a1 : Int)] 5)).ownsRow w3.heap.size 5 1 (.slice (some ⟨w3.heap.size, 0, none⟩) 3 3) 3 (bvals [a3, a2, a1]) :=
      own_lit w3 [a3, a2, a1] #[.int .u8 (a3 : Int), .int .u8 (a2 : Int), .int .u8 (a1 : Int)] (by rfl) (by simp)
    have HO3 := Lib.hid own3
    have HBA := Lib.hid (below_alloc0 w3 (.cells #[.int .u8 (a3 : Int), .int .u8 (a2 : Int), .int .u8 (a1 : Int)] 5))
    have HRD : Hid (RdB (w3.alloc (.cells #[.int .u8 (a3 : Int), .int .u8 (a2 : Int), .int .u8 (a1 : Int)] 5)) w3.heap.size A6 L.length L.reverse) := Lib.hid ((RdB.own hro3).below ((Below.refl _ _).alloc (Nat.le_refl _) _))
    have HNN := Lib.hid (own_none hro3)
    have hwz : w3.heap.size ≤ (w3.alloc (.cells #[.int .u8 (a3 : Int), .int .u8 (a2 : Int), .int .u8 (a1 : Int)] 5)).heap.size := by simp
    clear own3 hro3
    go_wp2_with (at_builtin; refine wpList_joinB _ (by rfl) _ _ (by rfl) w3 w3.heap.size (some ⟨w3.heap.size, 0, none⟩) 3 3 [a3, a2, a1] A6 L.length k6 L.reverse w3.heap.size HO3.out HBA.out hwz HRD.out HNN.out (by omega) (by rfl) (by rfl) ?_; intro A9 k9 w9 ho9 hb9)
    have HB9 := Lib.hid (HB3.out.trans (hb9.mono HB3.out.size))
    have hko : KeepsOthers w3 w9 := ⟨hb9.size, fun k o hk _ => (hb9.block k (Array.getElem?_eq_some_iff.1 hk).1).trans hk⟩
    refine leaves_marked HB9.out.size (HM3.out.kept hko) fun w' hk => ?_
    refine ⟨_, results_tmp rfl _ _ _, A9, 3 + L.length, k9, rfl, ?_, HB9.out.trans hk.1⟩
    rw [hLI.out]
    exact hk.own (own_more ho9 HB3.out.size)
  case stop =>
    rintro D c pre W _ _ h _
    exact h.elim
end Go.Proofs.Ytapjnfhbjmeniaa
