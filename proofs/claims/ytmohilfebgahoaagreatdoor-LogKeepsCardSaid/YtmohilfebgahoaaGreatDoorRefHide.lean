/- The document's answers, walked (chapter 18): a player, made, playing, and losing. -/
import Derived.Test.YtmohilfebgahoaaGreatDoorRefPack
import Derived.Test.YtmohilfebgahoaaGreatDoorPlay
namespace Go.Proofs.YtmohilfebgahoaaGreatDoor
open Go.RowKit

set_option maxHeartbeats 1000000 in
theorem rnewp_any (A : Option Addr) (n c : Nat) (s : List Int) (bits : Int) (w : World) (B : Nat) (h : RdI w B A n s) (hn : n ≤ 100000000000000) :
    Calls Tryz.prog 12 #[.slice A n c, .int .i64 bits] w fun e w' => e = .returned (.int .i64 (newErr s bits)) ∧ w = w' := by
  have HBC := Lib.hid (rbands_any A n c s w B h hn)
  by_cases hb : Ph.bandErr s = 0
  · have hbn : bandN s = Ph.total s := by unfold bandN; rw [if_pos hb]
    have htp : 0 ≤ Ph.total s := Ph.total_nonneg fun x hx => by have := (Ph.bandErr_zero.1 hb).2.2.1 x hx; omega
    have he : newErr s bits = if bits < 0 ∨ 400 < bits then 1 else if Ph.total s % 2 ≠ 0 then 3 else 0 := by unfold newErr; rw [if_neg (by omega)]
    rw [hb, hbn] at HBC
    obtain ⟨T, hT⟩ : ∃ T, T = Ph.total s := ⟨_, rfl⟩
    rw [← hT] at HBC htp he
    have k1 : T.tmod 2 = T % 2 := Int.tmod_eq_emod_of_nonneg htp
    clear h hb hbn hT
    by_cases h1 : bits < 0
    · rw [if_pos (.inl h1)] at he
      rw [he]
      clear he
      go_enter Tryz.func12, Tryz.ntmps12
      go_wp2_with fail
      refine HBC.out.mono ?_
      rintro e w' ⟨rfl, rfl⟩
      go_wp2_with fail
      go_ret
      exact ⟨rfl, rfl⟩
    · by_cases h4 : 400 < bits
      · rw [if_pos (.inr h4)] at he
        rw [he]
        clear he
        go_enter Tryz.func12, Tryz.ntmps12
        go_wp2_with fail
        refine HBC.out.mono ?_
        rintro e w' ⟨rfl, rfl⟩
        go_wp2_with fail
        go_ret
        exact ⟨rfl, rfl⟩
      · rw [if_neg (by omega)] at he
        by_cases h2 : T % 2 ≠ 0
        · rw [if_pos h2] at he
          rw [he]
          have k2 : (T % 2 != 0) = true := by simp; omega
          clear he h2
          go_enter Tryz.func12, Tryz.ntmps12
          go_wp2_with fail
          refine HBC.out.mono ?_
          rintro e w' ⟨rfl, rfl⟩
          go_wp2_with fail
          go_ret
          exact ⟨rfl, rfl⟩
        · rw [if_neg h2] at he
          rw [he]
          have k2 : (T % 2 != 0) = false := by simp; omega
          clear he h2
          go_enter Tryz.func12, Tryz.ntmps12
          go_wp2_with fail
          refine HBC.out.mono ?_
          rintro e w' ⟨rfl, rfl⟩
          go_wp2_with fail
          go_ret
          exact ⟨rfl, rfl⟩
  · have e : newErr s bits = Ph.bandErr s := by unfold newErr; rw [if_pos hb]
    rw [e]
    obtain ⟨E, hE⟩ : ∃ E, E = Ph.bandErr s := ⟨_, rfl⟩
    rw [← hE] at HBC hb ⊢
    obtain ⟨BN, hBN⟩ : ∃ N, N = bandN s := ⟨_, rfl⟩
    rw [← hBN] at HBC
    have hEb : (E == 0) = false := by simp [hb]
    clear h e hE hBN
    go_enter Tryz.func12, Tryz.ntmps12
    go_wp2_with fail
    refine HBC.out.mono ?_
    rintro e w' ⟨rfl, rfl⟩
    go_wp2_with fail
    go_ret
    exact ⟨rfl, rfl⟩
/-- The cells of the document's player. -/
def rplayerV (vs : Value) (bits : Int) (vl : Value) (lost : Int) : Array Value := #[vs, .int .i64 bits, vl, .int .i64 lost]
section
variable {w w' : World} {base Y ns cs n c : Nat} {As A : Option Addr} {bits lost : Int} {ps : List Ph.Part}
end
/-- A slice of parts whose own row lies from b1 on, its pulses' rows from b2 on. -/
def OwnPW (w : World) (b1 b2 : Nat) (A : Option Addr) (n c : Nat) (ps : List Ph.Part) : Prop :=
  ∃ vs, w.ownsRow b1 78 2 (.slice A n c) n (pcells (gainsP ps) vs) ∧ OwnsV w b2 vs (rowsP ps) ∧ ps.length = n
section
variable {w w' : World} {b1 b2 n c : Nat} {A : Option Addr} {ps : List Ph.Part}
theorem OwnPW.nil (w : World) (b1 b2 : Nat) : OwnPW w b1 b2 none 0 0 [] := ⟨[], World.ownsRow_nil w b1 _ 2, trivial, rfl⟩
theorem OwnPW.below' (h : OwnPW w b1 b2 A n c ps) (hb : Below w.heap.size w w') : OwnPW w' b1 b2 A n c ps := by
  obtain ⟨vs, h1, h2, h3⟩ := h
  exact ⟨vs, own_below2 h1 hb fun g hg => (h1.lt g hg).2, h2.below hb, h3⟩
theorem OwnPW.pv (h : OwnPW w b1 b2 A n c ps) (hb : b2 ≤ b1) : OwnPV w b2 A n c ps := by
  obtain ⟨vs, h1, h2, h3⟩ := h
  refine ⟨vs, ⟨h1.1, ?_⟩, h2, h3⟩
  rcases h1.2 with h0 | ⟨g, cap, cur, hv, hg, r⟩
  · exact .inl h0
  · exact .inr ⟨g, cap, cur, hv, by omega, r⟩
theorem OwnPW.fresh (h : OwnPW w b1 b2 A n c ps) : ∀ q, (Value.slice A n c).ownBlock = some q → b1 ≤ q := by
  obtain ⟨vs, h1, h2, h3⟩ := h
  exact fun q hq => (h1.lt q hq).1
end
/-- 'append(v, x)' of one part, its pulses told. -/
theorem wpList_pushPW {ops : Array Oper} {rest : List Oper} {o : Oper} {a : Act} {Q : Exit → Act → World → Prop} (w : World) (hgd : o.guard = none) (s x : Operand)
    (ho : o.op = .call { callee := .builtin .append, args := #[s, x], argTypes := #[36, 36] })
    (W0 : World) (base b2 : Nat) (A : Option Addr) (k c : Nat) (ps : List Ph.Part) (y : Int) (u : Value) (l : List Int) (hu : OwnV w b2 u l) (hown : OwnPW w base b2 A k c ps) (hbel : Below base W0 w) (hbase : base ≤ w.heap.size)
    (hk : k + 1 ≤ 4000000000000) (hs : a.eval s = .slice A k c) (hx : a.eval x = .slice (some ⟨w.heap.size, 0, none⟩) 1 1)
    (h : ∀ g cap w', OwnPW w' base b2 (some ⟨g, 0, none⟩) (k + 1) cap (ps ++ [⟨y, l⟩]) → Below base W0 w' → wpList Tryz.prog ops Q rest (a.put o.dst (.slice (some ⟨g, 0, none⟩) (k + 1) cap)) w') :
    wpList Tryz.prog ops Q (o :: rest) a (w.alloc (.cells #[.int .i64 y, u] 78)) := by
  obtain ⟨i0, hi, hz0, hz1, hz2⟩ := info_parts part_info
  obtain ⟨vs, h1, h2, h3⟩ := hown
  obtain ⟨Au, cu, rfl, hou⟩ := hu
  have hgv : (gainsP ps).length = vs.length := by rw [h2.len]; simp [gainsP, rowsP]
  refine wpList_append_lies _ hgd s x 36 ho base 78 i0 (.agg #[.int .i64 0, .slice none 0 0]) 2 32 Tryz.underlying36 hi hz0 hz1 hz2 rfl (by omega) _ _ _ hs (h1.alloc _) ⟨w.heap.size, 0, none⟩ 1 1 [.int .i64 y, .slice Au l.length cu] hx rfl ?_ ?_ (by omega) ?_ ?_ ?_ (w.heap.size + 1) (by simp) ?_
  · intro j u hj
    match j, hj with
    | 0, hj => simp at hj; subst hj; simp [Addr.add]
    | 1, hj => simp at hj; subst hj; simp [Addr.add]
  · intro u hu
    simp at hu
    rcases hu with rfl | rfl <;> rfl
  · unfold maxLen; omega
  · omega
  · simp; omega
  · intro g cap w' ho' hg _ _
    have hown' : (w.alloc (.cells #[.int .i64 y, .slice Au l.length cu] 78)).ownsRow base 78 2 (.slice A k c) k (pcells (gainsP ps) vs) := h1.alloc _
    have hv2 := (h2.alloc (.cells #[.int .i64 y, .slice Au l.length cu] 78)).grownP hown' hg
    have hu2 : OwnV w' b2 (.slice Au l.length cu) l := OwnV.grownP hown' ⟨Au, cu, rfl, hou.alloc _⟩ hg
    refine h g cap w' ⟨vs ++ [.slice Au l.length cu], ?_, ?_, by simp [h3]⟩ ?_
    · have e : pcells (gainsP (ps ++ [⟨y, l⟩])) (vs ++ [.slice Au l.length cu]) = pcells (gainsP ps) vs ++ [.int .i64 y, .slice Au l.length cu] := by
        unfold gainsP at *
        rw [List.map_append, pcells_append hgv]; rfl
      rw [e]; exact ho'
    · have e : rowsP (ps ++ [⟨y, l⟩]) = rowsP ps ++ [l] := by simp [rowsP]
      rw [e]; exact hv2.snoc hu2
    · refine (hbel.alloc hbase _).grown hg (by simp; omega) ?_
      intro q hq
      exact (h1.lt q hq).1
theorem soften_take (ps : List Ph.Part) (k : Nat) (h : k < ps.length) : (ps.take (k + 1)).map Ph.soften = (ps.take k).map Ph.soften ++ [Ph.soften (ps.getD k ⟨0, []⟩)] := by
  rw [List.take_succ_eq_append_getElem h, List.map_append, List.getD_eq_getElem?_getD, List.getElem?_eq_getElem h]
  rfl
section
variable {W w' : World} {bq bp X Y ns cs ms ds n c nm cm : Nat} {As Bs A Am : Option Addr} {s t : List Int} {bits many lost bits2 lost2 : Int} {ps qs : List Ph.Part}
/-- The two players share no row of parts. -/
def Sep (A : Option Addr) (n c : Nat) (Am : Option Addr) (nm cm : Nat) : Prop := ∀ q, (Value.slice A n c).ownBlock = some q → (Value.slice Am nm cm).ownBlock ≠ some q
end
end Go.Proofs.YtmohilfebgahoaaGreatDoor
