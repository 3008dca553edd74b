/- The document's answers, walked (chapter 18): a player, made, playing, and losing. -/
import Derived.Test.YtlilommhdjdblaaGreatDoorRefPack
import Derived.Test.YtlilommhdjdblaaGreatDoorPlay
namespace Go.Proofs.YtlilommhdjdblaaGreatDoor
open Go.RowKit

set_option maxHeartbeats 1000000 in
theorem rnewp_any (A : Option Addr) (n c : Nat) (s : List Int) (bits : Int) (w : World) (B : Nat) (h : RdI w B A n s) (hn : n ≤ 100000000000000) :
    Calls Tryz.prog 7 #[.slice A n c, .int .i64 bits] w fun e w' => e = .returned (.int .i64 (newErr s bits)) ∧ w = w' := by
  have HBC := Lib.hid (rbands_any A n c s w B h hn)
  by_cases hb : Ph.bandErr s = 0
  · have hbn : bandN s = Ph.total s := by unfold bandN; rw [if_pos hb]
    have htp : 0 ≤ Ph.total s := Ph.total_nonneg fun x hx => by have := (Ph.bandErr_zero.1 hb).2.2.1 x hx; omega
    have he : newErr s bits = if bits < 0 ∨ 400 < bits then 1 else if Ph.total s % 2 ≠ 0 then 3 else 0 := by unfold newErr; rw [if_neg (by omega)]
    rw [hb, hbn] at HBC
    obtain ⟨T, hT⟩ : ∃ T, T = Ph.total s := ⟨_, rfl⟩
    rw [← hT] at HBC htp he
    have k1 : T.tmod 2 = T % 2 := Int.tmod_eq_emod_of_nonneg htp
    clear h hb hbn hT
    by_cases h1 : bits < 0
    · rw [if_pos (.inl h1)] at he
      rw [he]
      clear he
      go_enter Tryz.func7, Tryz.ntmps7
      go_wp2_with fail
      refine HBC.out.mono ?_
      rintro e w' ⟨rfl, rfl⟩
      go_wp2_with fail
      go_ret
      exact ⟨rfl, rfl⟩
    · by_cases h4 : 400 < bits
      · rw [if_pos (.inr h4)] at he
        rw [he]
        clear he
        go_enter Tryz.func7, Tryz.ntmps7
        go_wp2_with fail
        refine HBC.out.mono ?_
        rintro e w' ⟨rfl, rfl⟩
        go_wp2_with fail
        go_ret
        exact ⟨rfl, rfl⟩
      · rw [if_neg (by omega)] at he
        by_cases h2 : T % 2 ≠ 0
        · rw [if_pos h2] at he
          rw [he]
          have k2 : (T % 2 != 0) = true := by simp; omega
          clear he h2
          go_enter Tryz.func7, Tryz.ntmps7
          go_wp2_with fail
          refine HBC.out.mono ?_
          rintro e w' ⟨rfl, rfl⟩
          go_wp2_with fail
          go_ret
          exact ⟨rfl, rfl⟩
        · rw [if_neg h2] at he
          rw [he]
          have k2 : (T % 2 != 0) = false := by simp; omega
          clear he h2
          go_enter Tryz.func7, Tryz.ntmps7
          go_wp2_with fail
          refine HBC.out.mono ?_
          rintro e w' ⟨rfl, rfl⟩
          go_wp2_with fail
          go_ret
          exact ⟨rfl, rfl⟩
  · have e : newErr s bits = Ph.bandErr s := by unfold newErr; rw [if_pos hb]
    rw [e]
    obtain ⟨E, hE⟩ : ∃ E, E = Ph.bandErr s := ⟨_, rfl⟩
    rw [← hE] at HBC hb ⊢
    obtain ⟨BN, hBN⟩ : ∃ N, N = bandN s := ⟨_, rfl⟩
    rw [← hBN] at HBC
    have hEb : (E == 0) = false := by simp [hb]
    clear h e hE hBN
    go_enter Tryz.func7, Tryz.ntmps7
    go_wp2_with fail
    refine HBC.out.mono ?_
    rintro e w' ⟨rfl, rfl⟩
    go_wp2_with fail
    go_ret
    exact ⟨rfl, rfl⟩
/-- The cells of the document's player. -/
def rplayerV (vs : Value) (bits : Int) (vl : Value) (lost : Int) : Array Value := #[vs, .int .i64 bits, vl, .int .i64 lost]
/-- The document's player at block Y: its cells, what it played last. -/
def RPlayerAt (w : World) (base Y : Nat) (As : Option Addr) (ns cs : Nat) (bits : Int) (A : Option Addr) (n c : Nat) (ps : List Ph.Part) (lost : Int) : Prop :=
  base ≤ Y ∧ w.heap[Y]? = some (.cells (rplayerV (.slice As ns cs) bits (.slice A n c) lost) 34 (0, 0)) ∧ OwnPV w base A n c ps
section
variable {w w' : World} {base Y ns cs n c : Nat} {As A : Option Addr} {bits lost : Int} {ps : List Ph.Part}
theorem RPlayerAt.lt (h : RPlayerAt w base Y As ns cs bits A n c ps lost) : Y < w.heap.size := by
  rcases Nat.lt_or_ge Y w.heap.size with h1 | h1
  · exact h1
  · have := h.2.1
    rw [Array.getElem?_eq_none h1] at this
    cases this
theorem RPlayerAt.cell (h : RPlayerAt w base Y As ns cs bits A n c ps lost) (j : Nat) : w.cell? ⟨Y, j, none⟩ = (rplayerV (.slice As ns cs) bits (.slice A n c) lost)[j]? := cell_of_row w Y j _ _ (0, 0) h.2.1
theorem RPlayerAt.frozen (h : RPlayerAt w base Y As ns cs bits A n c ps lost) (j : Nat) : w.frozen? ⟨Y, j, none⟩ = false := frozen_of_row w Y j _ _ h.2.1
theorem RPlayerAt.cells (h : RPlayerAt w base Y As ns cs bits A n c ps lost) : w.cell? ⟨Y, 0, none⟩ = some (.slice As ns cs) ∧ w.cell? ⟨Y, 1, none⟩ = some (.int .i64 bits) ∧ w.cell? ⟨Y, 2, none⟩ = some (.slice A n c) ∧ w.cell? ⟨Y, 3, none⟩ = some (.int .i64 lost) :=
  ⟨h.cell 0, h.cell 1, h.cell 2, h.cell 3⟩
theorem RPlayerAt.below' (h : RPlayerAt w base Y As ns cs bits A n c ps lost) (hb : Below w.heap.size w w') : RPlayerAt w' base Y As ns cs bits A n c ps lost :=
  ⟨h.1, (hb.block Y h.lt).trans h.2.1, h.2.2.below' hb⟩
theorem RPlayerAt.drewN (h : RPlayerAt w base Y As ns cs bits A n c ps lost) (q : Nat) : RPlayerAt (w.drewN q) base Y As ns cs bits A n c ps lost := h.below' ⟨rfl, rfl, rfl, Nat.le_refl _, fun _ _ => rfl⟩
theorem RPlayerAt.alloc (h : RPlayerAt w base Y As ns cs bits A n c ps lost) (o : Obj) : RPlayerAt (w.alloc o) base Y As ns cs bits A n c ps lost := h.below' (below_alloc0 _ _)
theorem RPlayerAt.setLost (h : RPlayerAt w base Y As ns cs bits A n c ps lost) (y : Int) : RPlayerAt (w.setCell ⟨Y, 3, none⟩ (.int .i64 y)) base Y As ns cs bits A n c ps y := by
  have hg : w.grownBy (w.setCell ⟨Y, 3, none⟩ (.int .i64 y)) (some Y) := ⟨rfl, rfl, rfl, by simp, fun k _ hk => heap_setCell_other w ⟨Y, 3, none⟩ k _ (fun e => hk (by simp [e]))⟩
  refine ⟨h.1, ?_, h.2.2.kept hg h.2.1 (by decide) (by decide)⟩
  rw [heap_setCell_same w Y 3 _ _ _ h.2.1]; rfl
theorem RPlayerAt.setLast {A2 : Option Addr} {n2 c2 : Nat} {qs : List Ph.Part} (h : RPlayerAt w base Y As ns cs bits A n c ps lost) (hq : OwnPV w base A2 n2 c2 qs) : RPlayerAt (w.setCell ⟨Y, 2, none⟩ (.slice A2 n2 c2)) base Y As ns cs bits A2 n2 c2 qs lost := by
  have hg : w.grownBy (w.setCell ⟨Y, 2, none⟩ (.slice A2 n2 c2)) (some Y) := ⟨rfl, rfl, rfl, by simp, fun k _ hk => heap_setCell_other w ⟨Y, 2, none⟩ k _ (fun e => hk (by simp [e]))⟩
  refine ⟨h.1, ?_, hq.kept hg h.2.1 (by decide) (by decide)⟩
  rw [heap_setCell_same w Y 2 _ _ _ h.2.1]; rfl
end
/-- A slice of parts whose own row lies from b1 on, its pulses' rows from b2 on. -/
def OwnPW (w : World) (b1 b2 : Nat) (A : Option Addr) (n c : Nat) (ps : List Ph.Part) : Prop :=
  ∃ vs, w.ownsRow b1 80 2 (.slice A n c) n (pcells (gainsP ps) vs) ∧ OwnsV w b2 vs (rowsP ps) ∧ ps.length = n
section
variable {w w' : World} {b1 b2 n c : Nat} {A : Option Addr} {ps : List Ph.Part}
theorem OwnPW.nil (w : World) (b1 b2 : Nat) : OwnPW w b1 b2 none 0 0 [] := ⟨[], World.ownsRow_nil w b1 _ 2, trivial, rfl⟩
theorem OwnPW.below' (h : OwnPW w b1 b2 A n c ps) (hb : Below w.heap.size w w') : OwnPW w' b1 b2 A n c ps := by
  obtain ⟨vs, h1, h2, h3⟩ := h
  exact ⟨vs, own_below2 h1 hb fun g hg => (h1.lt g hg).2, h2.below hb, h3⟩
theorem OwnPW.pv (h : OwnPW w b1 b2 A n c ps) (hb : b2 ≤ b1) : OwnPV w b2 A n c ps := by
  obtain ⟨vs, h1, h2, h3⟩ := h
  refine ⟨vs, ⟨h1.1, ?_⟩, h2, h3⟩
  rcases h1.2 with h0 | ⟨g, cap, cur, hv, hg, r⟩
  · exact .inl h0
  · exact .inr ⟨g, cap, cur, hv, by omega, r⟩
theorem OwnPW.fresh (h : OwnPW w b1 b2 A n c ps) : ∀ q, (Value.slice A n c).ownBlock = some q → b1 ≤ q := by
  obtain ⟨vs, h1, h2, h3⟩ := h
  exact fun q hq => (h1.lt q hq).1
end
/-- 'append(v, x)' of one part, its pulses told. -/
theorem wpList_pushPW {ops : Array Oper} {rest : List Oper} {o : Oper} {a : Act} {Q : Exit → Act → World → Prop} (w : World) (hgd : o.guard = none) (s x : Operand)
    (ho : o.op = .call { callee := .builtin .append, args := #[s, x], argTypes := #[32, 32] })
    (W0 : World) (base b2 : Nat) (A : Option Addr) (k c : Nat) (ps : List Ph.Part) (y : Int) (u : Value) (l : List Int) (hu : OwnV w b2 u l) (hown : OwnPW w base b2 A k c ps) (hbel : Below base W0 w) (hbase : base ≤ w.heap.size)
    (hk : k + 1 ≤ 4000000000000) (hs : a.eval s = .slice A k c) (hx : a.eval x = .slice (some ⟨w.heap.size, 0, none⟩) 1 1)
    (h : ∀ g cap w', OwnPW w' base b2 (some ⟨g, 0, none⟩) (k + 1) cap (ps ++ [⟨y, l⟩]) → Below base W0 w' → wpList Tryz.prog ops Q rest (a.put o.dst (.slice (some ⟨g, 0, none⟩) (k + 1) cap)) w') :
    wpList Tryz.prog ops Q (o :: rest) a (w.alloc (.cells #[.int .i64 y, u] 80)) := by
  obtain ⟨i0, hi, hz0, hz1, hz2⟩ := info_parts part_info
  obtain ⟨vs, h1, h2, h3⟩ := hown
  obtain ⟨Au, cu, rfl, hou⟩ := hu
  have hgv : (gainsP ps).length = vs.length := by rw [h2.len]; simp [gainsP, rowsP]
  refine wpList_append_lies _ hgd s x 32 ho base 80 i0 (.agg #[.int .i64 0, .slice none 0 0]) 2 32 Tryz.underlying32 hi hz0 hz1 hz2 rfl (by omega) _ _ _ hs (h1.alloc _) ⟨w.heap.size, 0, none⟩ 1 1 [.int .i64 y, .slice Au l.length cu] hx rfl ?_ ?_ (by omega) ?_ ?_ ?_ (w.heap.size + 1) (by simp) ?_
  · intro j u hj
    match j, hj with
    | 0, hj => simp at hj; subst hj; simp [Addr.add]
    | 1, hj => simp at hj; subst hj; simp [Addr.add]
  · intro u hu
    simp at hu
    rcases hu with rfl | rfl <;> rfl
  · unfold maxLen; omega
  · omega
  · simp; omega
  · intro g cap w' ho' hg _ _
    have hown' : (w.alloc (.cells #[.int .i64 y, .slice Au l.length cu] 80)).ownsRow base 80 2 (.slice A k c) k (pcells (gainsP ps) vs) := h1.alloc _
    have hv2 := (h2.alloc (.cells #[.int .i64 y, .slice Au l.length cu] 80)).grownP hown' hg
    have hu2 : OwnV w' b2 (.slice Au l.length cu) l := OwnV.grownP hown' ⟨Au, cu, rfl, hou.alloc _⟩ hg
    refine h g cap w' ⟨vs ++ [.slice Au l.length cu], ?_, ?_, by simp [h3]⟩ ?_
    · have e : pcells (gainsP (ps ++ [⟨y, l⟩])) (vs ++ [.slice Au l.length cu]) = pcells (gainsP ps) vs ++ [.int .i64 y, .slice Au l.length cu] := by
        unfold gainsP at *
        rw [List.map_append, pcells_append hgv]; rfl
      rw [e]; exact ho'
    · have e : rowsP (ps ++ [⟨y, l⟩]) = rowsP ps ++ [l] := by simp [rowsP]
      rw [e]; exact hv2.snoc hu2
    · refine (hbel.alloc hbase _).grown hg (by simp; omega) ?_
      intro q hq
      exact (h1.lt q hq).1
theorem soften_take (ps : List Ph.Part) (k : Nat) (h : k < ps.length) : (ps.take (k + 1)).map Ph.soften = (ps.take k).map Ph.soften ++ [Ph.soften (ps.getD k ⟨0, []⟩)] := by
  rw [List.take_succ_eq_append_getElem h, List.map_append, List.getD_eq_getElem?_getD, List.getElem?_eq_getElem h]
  rfl
set_option maxHeartbeats 4000000 in
set_option maxRecDepth 100000 in
theorem rlose_any (W : World) (base Y : Nat) (As : Option Addr) (ns cs : Nat) (s : List Int) (bits : Int) (A : Option Addr) (n c : Nat) (ps : List Ph.Part) (lost : Int) (B : Nat) (hP : RPlayerAt W base Y As ns cs bits A n c ps lost) (hbs : base ≤ W.heap.size) (hS : RdI W B As ns s) (hB : B ≤ base) (h0 : Ph.bandErr s = 0)
    (hg : ∀ p ∈ ps, Ph.gainOk p.gain = true ∧ p.pulses.length ≤ 6) (hn : n ≤ 8) (hlost : 0 ≤ lost ∧ lost ≤ 1000000) :
    Calls Tryz.prog 12 #[.pointer (some ⟨Y, 0, none⟩)] W fun e w' => ∃ A' n' c', e = .returned (.slice A' n' c') ∧ RdI w' w'.heap.size A' n' (Ph.heardOf (ps.map Ph.soften) (Ph.total s).toNat) ∧ (∃ A2 n2 c2, RPlayerAt w' base Y As ns cs bits A2 n2 c2 (ps.map Ph.soften) (lost + 1) ∧ ∀ q, (Value.slice A2 n2 c2).ownBlock = some q → W.heap.size ≤ q) ∧ KeptBut (fun k => k = Y) W w' := by
  have HL := Lib.hid hP.2.2.len
  have HG := Lib.hid hg
  obtain ⟨c0, c1, c2, c3⟩ := hP.cells
  have f3 := hP.frozen 3
  have k1 : IntKind.i64.wrap (lost + 1) = lost + 1 := IntWalk.i64_in _ (by omega)
  have hYB := hP.1
  have HP0 := Lib.hid (hP.setLost (lost + 1))
  have HK0 : Hid (KeptBut (fun k => k = Y) W (W.setCell ⟨Y, 3, none⟩ (.int .i64 (lost + 1)))) := Lib.hid (KeptBut.setCell (S := fun k => k = Y) (KeptBut.refl _ W) (p := ⟨Y, 3, none⟩) rfl _)
  have HS0 : Hid (RdI (W.setCell ⟨Y, 3, none⟩ (.int .i64 (lost + 1))) B As ns s) := Lib.hid (hS.setCell (p := ⟨Y, 3, none⟩) (by show B ≤ Y; omega) _)
  have hsz : (W.setCell ⟨Y, 3, none⟩ (.int .i64 (lost + 1))).heap.size = W.heap.size := World.size_setCell _ _ _
  obtain ⟨W0, hW0⟩ : ∃ W0, W0 = W.setCell ⟨Y, 3, none⟩ (.int .i64 (lost + 1)) := ⟨_, rfl⟩
  rw [← hW0] at HP0 HK0 HS0 hsz
  have HSZ := Lib.hid hsz
  have HW0 := Lib.hid hW0
  have HB0 := Lib.hid h0
  have HBY := Lib.hid hYB
  have hb0 : base ≤ W0.heap.size := by omega
  have HLT0 := Lib.hid HP0.out.lt
  clear hP hg c0 c1 c2 hW0 hS h0 hYB hsz
  go_enter Tryz.func12, Tryz.ntmps12
  go_wp2_with fail
  rw [← HW0.out]
  clear c3 f3 HW0
  go_loopw [3, 4, 5, 6, 7, 8] (fun nx i _ _ _ _ wr => ∃ (k : Nat) (A5 : Option Addr) (c5 : Nat), k ≤ n ∧ i = .int .i64 k ∧ nx = .slice A5 k c5 ∧ Hid (OwnPW wr W0.heap.size base A5 k c5 ((ps.take k).map Ph.soften)) ∧ Hid (Below W0.heap.size W0 wr)) (fun _ i _ _ _ _ _ => n - (intOf i).toNat)
  case atStart => exact ⟨0, none, 0, Nat.zero_le _, rfl, rfl, Lib.hid (OwnPW.nil _ _ _), Lib.hid (Below.refl _ _)⟩
  case round =>
    obtain ⟨k, A5, c5, hk, rfl, rfl, HN, HBW⟩ := hrel
    have HP := Lib.hid (HP0.out.below' HBW.out)
    have x2 := HP.out.cells.2.2.1
    by_cases hlt : k < n
    · have hkl : k < ps.length := by rw [HL.out]; exact hlt
      obtain ⟨g5, rfl, hg5, hg5l⟩ := HP.out.2.2.form (by omega)
      obtain ⟨⟨p1, p2⟩, ⟨A2, c2, p3, p5⟩, p4⟩ := HP.out.2.2.cells hlt
      have hgk := HG.out _ (partD_mem hkl)
      have hst := soften_take ps k hkl
      obtain ⟨pt, hpt⟩ : ∃ p, p = ps.getD k ⟨0, []⟩ := ⟨_, rfl⟩
      rw [← hpt] at p1 p3 p5 hgk hst
      obtain ⟨g, v⟩ := pt
      simp only at p1 p3 p5 hgk
      have hgb := Ph.gainOk_le hgk.1
      have HST := Lib.hid hst
      have HSF : Hid (Ph.soften ⟨g, v⟩ = ⟨Ph.down g, if Ph.down g = 0 then List.replicate v.length 0 else v⟩) := Lib.hid rfl
      have hD : Ph.down g = (Ph.downN (g - 4).toNat : Nat) := rfl
      obtain ⟨D, hDD⟩ : ∃ D, D = Ph.down g := ⟨_, rfl⟩
      rw [← hDD] at hD HSF
      obtain ⟨Q, hQ⟩ : ∃ Q, Q = (g - 4).toNat := ⟨_, rfl⟩
      rw [← hQ] at hD
      have hQ5 : Q ≤ 49 := by omega
      have HD := Lib.hid hD
      have HV := Lib.hid p5
      obtain ⟨P, hPP⟩ : ∃ P, P = v.length := ⟨_, rfl⟩
      rw [← hPP] at p3
      have hP6 : P ≤ 6 := by omega
      have HPP := Lib.hid hPP
      have k2 : IntKind.i64.wrap (g - 4) = g - 4 := IntWalk.i64_in _ (by omega)
      have hlt' : (k : Int) < (n : Int) := by omega
      have HRV := Lib.hid fun q W => rvalue_all q W
      clear hst hpt hDD hD hPP p2 p4 hkl p5 hgk
      go_upto_if 39 with (fail)
      go_cut [5] (fun s5 wx => s5 = .int .i64 (Q : Nat) ∧ wx = wr)
      case first =>
        by_cases hneg : g - 4 < 0
        · obtain rfl : Q = 0 := by omega
          clear hQ
          go_wp2_with fail
          go_meet
          case rel => exact ⟨rfl, rfl⟩
        · have hq2 : (g - 4 : Int) = ((Q : Nat) : Int) := by omega
          have HQ2 := Lib.hid hq2
          clear hQ hq2
          go_wp2_with fail
          go_meet
          case rel => exact ⟨by rw [HQ2.out], rfl⟩
      case rest =>
        obtain ⟨rfl, rfl⟩ := hcut
        rename World => wr
        clear hQ
        have hV0 := HRV.out (Q : Int) wr
        rw [valB_ok, show Ph.gainOk (Q : Int) = Ph.valued Q by unfold Ph.gainOk; rw [Int.toNat_natCast]; simp] at hV0
        obtain ⟨V0, hV0e⟩ : ∃ V, V = valV (Q : Int) := ⟨_, rfl⟩
        rw [← hV0e] at hV0
        have HV0 := Lib.hid hV0
        obtain ⟨o0, ho0⟩ : ∃ b, b = Ph.valued Q := ⟨_, rfl⟩
        rw [← ho0] at HV0
        have HO0 := Lib.hid ho0
        clear hV0 hV0e ho0
        go_wp2_with fail
        refine HV0.out.mono ?_
        rintro e w' ⟨rfl, rfl⟩
        go_wp2_with fail
        go_loop [5, 7] (fun gv okv => ∃ (q : Nat) (ob : Bool), gv = .int .i64 q ∧ okv = .bool ob ∧ q ≤ 49 ∧ Hid (ob = Ph.valued q) ∧ Hid (Ph.downN q = Ph.downN Q)) (fun gv _ => (intOf gv).toNat)
        case atStart => exact ⟨Q, o0, rfl, rfl, hQ5, HO0, Lib.hid rfl⟩
        case round =>
          obtain ⟨q, ob, rfl, rfl, hq, HOB, HDQ⟩ := hrel
          cases ob with
          | true =>
            have hd : D = (q : Int) := by rw [HD.out, ← HDQ.out, Ph.downN_stay HOB.out.symm]
            subst hd
            by_cases hz : q = 0
            · subst hz
              have HMK := make_ints P (by omega)
              have HOV : Hid (∀ W1 : World, W1 = wr.alloc (.cells (madeCells #[.int .i64 0] P) 3) → OwnV W1 base (.slice (some ⟨wr.heap.size, 0, none⟩) P P) (List.replicate P 0)) := Lib.hid fun W1 h => by
                subst h
                exact ⟨some ⟨wr.heap.size, 0, none⟩, P, by simp, by simp only [List.length_replicate]; exact own_more (made_own wr P (by omega)) (Nat.le_trans hb0 HBW.out.size)⟩
              obtain ⟨W1, hW1⟩ : ∃ W1, W1 = wr.alloc (.cells (madeCells #[.int .i64 0] P) 3) := ⟨_, rfl⟩
              have HOW := Lib.hid (HOV.out W1 hW1)
              have HN1 : Hid (OwnPW W1 W0.heap.size base A5 k c5 ((ps.take k).map Ph.soften)) := Lib.hid (by rw [hW1]; exact HN.out.below' (below_alloc0 _ _))
              have HB1 : Hid (Below W0.heap.size W0 W1) := Lib.hid (by rw [hW1]; exact HBW.out.alloc HBW.out.size _)
              have HW1 := Lib.hid hW1
              obtain ⟨B4, hB4⟩ : ∃ b, b = wr.heap.size := ⟨_, rfl⟩
              rw [← hB4] at HOW
              have HB4 := Lib.hid hB4
              have HSX : Hid ((ps.take (k + 1)).map Ph.soften = (ps.take k).map Ph.soften ++ [⟨0, List.replicate P 0⟩]) := Lib.hid (by rw [HST.out, HSF.out]; simp [HPP.out])
              clear hW1 hB4 HOB HDQ HOV
              go_upto_region 16 with (fail)
              rw [← HW1.out, ← HB4.out]
              go_wp2_with (at_builtin; refine wpList_pushPW _ (by rfl) _ _ (by rfl) W0 W0.heap.size base A5 k c5 _ 0 (.slice (some ⟨B4, 0, none⟩) P P) (List.replicate P 0) HOW.out HN1.out HB1.out HB1.out.size (by omega) (by rfl) (by rfl) ?_; intro g9 cap w9 hp9 hb9)
              have HP9 := Lib.hid hp9
              have HB9 := Lib.hid hb9
              clear hp9 hb9
              go_wp2_with fail
              go_roundw
              case rel => exact ⟨k + 1, some ⟨g9, 0, none⟩, cap, by omega, by go_num, rfl, Lib.hid (by rw [HSX.out]; exact HP9.out), HB9⟩
              case measure => simp [intOf]; omega
            · have hzb : ((q : Int) == 0) = false := beq_eq_false_iff_ne.2 (by omega)
              have HSX : Hid ((ps.take (k + 1)).map Ph.soften = (ps.take k).map Ph.soften ++ [⟨(q : Int), v⟩]) := Lib.hid (by rw [HST.out, HSF.out, if_neg (by omega)])
              have HVV : Hid (OwnV wr base (.slice A2 P c2) v) := Lib.hid (by rw [HPP.out]; exact HV.out)
              clear HOB HDQ
              go_wp2_with (at_builtin; refine wpList_pushPW _ (by rfl) _ _ (by rfl) W0 W0.heap.size base A5 k c5 _ (q : Int) (.slice A2 P c2) v HVV.out HN.out HBW.out HBW.out.size (by omega) (by rfl) (by rfl) ?_; intro g9 cap w9 hp9 hb9)
              have HP9 := Lib.hid hp9
              have HB9 := Lib.hid hb9
              clear hp9 hb9
              go_wp2_with fail
              go_roundw
              case rel => exact ⟨k + 1, some ⟨g9, 0, none⟩, cap, by omega, by go_num, rfl, Lib.hid (by rw [HSX.out]; exact HP9.out), HB9⟩
              case measure => simp [intOf]; omega
          | false =>
            cases q with
            | zero => exact absurd (HOB.out.trans Ph.valued_zero) (by decide)
            | succ q =>
              have hs := Ph.downN_step HOB.out.symm
              have HDQ2 : Hid (Ph.downN q = Ph.downN Q) := Lib.hid (by rw [← hs]; exact HDQ.out)
              have hi : ((q + 1 : Nat) : Int) = (q : Int) + 1 := by omega
              have hV1 := HRV.out (q : Int) wr
              rw [valB_ok, show Ph.gainOk (q : Int) = Ph.valued q by unfold Ph.gainOk; rw [Int.toNat_natCast]; simp] at hV1
              obtain ⟨V1, hV1e⟩ : ∃ V, V = valV (q : Int) := ⟨_, rfl⟩
              rw [← hV1e] at hV1
              obtain ⟨o1, ho1⟩ : ∃ b, b = Ph.valued q := ⟨_, rfl⟩
              rw [← ho1] at hV1
              have HV1 := Lib.hid hV1
              have HO1 := Lib.hid ho1
              rw [hi]
              clear hV1 hV1e ho1 hs hi HOB HDQ
              go_wp2_with fail
              refine HV1.out.mono ?_
              rintro e w' ⟨rfl, rfl⟩
              go_wp2_with fail
              go_round
              case rel => exact ⟨q, o1, by go_num, rfl, by omega, HO1, HDQ2⟩
              case measure => simp [intOf]
    · obtain rfl : k = n := by omega
      rw [List.take_of_length_le (by rw [HL.out]; omega)] at HN
      have hpv := HN.out.pv hb0
      have hset := HP.out.setLast hpv
      have HFR := Lib.hid HN.out.fresh
      obtain ⟨W2, hW2⟩ : ∃ W2, W2 = wr.setCell ⟨Y, 2, none⟩ (.slice A5 k c5) := ⟨_, rfl⟩
      rw [← hW2] at hset
      have HP2 := Lib.hid hset
      have hKK : KeptBut (fun k => k = Y) W W2 := by rw [hW2]; exact (HK0.out.on HBW.out).setCell (p := ⟨Y, 2, none⟩) rfl _
      have HK2 := Lib.hid hKK
      have HS2 : Hid (RdI W2 B As ns s) := Lib.hid (by rw [hW2]; exact (HS0.out.below (HBW.out.mono (Nat.le_trans hB hb0))).setCell (p := ⟨Y, 2, none⟩) (Nat.le_trans hB HBY.out) _)
      have HW2 := Lib.hid hW2
      have f2 := HP.out.frozen 2
      have hq6 : ∀ p ∈ ps.map Ph.soften, p.pulses.length ≤ 100000000000000 := fun p hp => by
        obtain ⟨x, hx, rfl⟩ := List.mem_map.1 hp
        have h6 := (HG.out x hx).2
        unfold Ph.soften
        simp only
        split
        · simp; omega
        · omega
      have HDE := Lib.hid (rdecode_any A5 k c5 (ps.map Ph.soften) W2 W2.heap.size hset.2.2.rd (Nat.le_refl _) (by omega) hq6)
      have HHE : Hid ((Ph.decErr (ps.map Ph.soften) = 0 → Ph.heardOf (ps.map Ph.soften) (Ph.total s).toNat = Ph.lapI (Ph.decAll (ps.map Ph.soften))) ∧ (Ph.decErr (ps.map Ph.soften) ≠ 0 → Ph.heardOf (ps.map Ph.soften) (Ph.total s).toNat = List.replicate (Ph.total s).toNat 0)) := Lib.hid ⟨fun h => by unfold Ph.heardOf; rw [if_pos h], fun h => by unfold Ph.heardOf; rw [if_neg h]⟩
      have hbz := Ph.bandErr_zero.1 HB0.out
      have HNS : Hid (ns ≤ 100000000000000) := Lib.hid (by have := HS2.out.len; omega)
      have HRB := Lib.hid fun W' (hW' : RdI W' B As ns s) => rbands_any As ns cs s W' B hW' HNS.out
      rw [HB0.out, show bandN s = Ph.total s by unfold bandN; rw [if_pos HB0.out]] at HRB
      have htp : 0 ≤ Ph.total s ∧ Ph.total s ≤ 32 := ⟨Ph.total_nonneg fun x hx => by have := hbz.2.2.1 x hx; omega, hbz.2.2.2⟩
      obtain ⟨M, hM⟩ := Int.eq_ofNat_of_zero_le htp.1
      rw [hM] at HRB HHE htp
      have HM := Lib.hid hM
      rw [Int.toNat_natCast] at HHE
      obtain ⟨qs, hqs⟩ : ∃ q, q = ps.map Ph.soften := ⟨_, rfl⟩
      rw [← hqs] at HP2 HDE HHE
      have HQ := Lib.hid hqs
      obtain ⟨E, hE⟩ : ∃ q, q = Ph.decErr qs := ⟨_, rfl⟩
      rw [← hE] at HDE HHE
      obtain ⟨L, hL⟩ : ∃ q, q = Ph.lapI (Ph.decAll qs) := ⟨_, rfl⟩
      rw [← hL] at HDE HHE
      obtain ⟨H, hH⟩ : ∃ q, q = Ph.heardOf qs M := ⟨_, rfl⟩
      rw [← hH] at HHE
      have HHH := Lib.hid hH
      have hlt3 : ¬ (k : Int) < (k : Int) := by omega
      clear hqs hE hL hH hq6 hW2 hset hpv hKK hbz hM HN HP
      by_cases hE0 : E = 0
      · have hh := HHE.out.1 hE0
        subst hE0
        rw [got_zero] at HDE
        have HLL := Lib.hid hh
        clear hh HHE
        go_wp2_with fail
        rw [← HW2.out]
        refine HDE.out.mono ?_
        rintro e w5 ⟨A8, n8, c8, rfl, ho, hb⟩
        have HR8 := Lib.hid (RdI.own ho)
        have HP5 := Lib.hid (HP2.out.below' hb)
        have HK5 := Lib.hid (HK2.out.on hb)
        clear ho hb x2 f2
        go_wp2_with fail
        go_ret
        refine ⟨A8, n8, c8, rfl, ?_, ⟨A5, k, c5, ?_, fun q hq => by have := HFR.out q hq; have := HSZ.out; omega⟩, HK5.out⟩
        · rw [HM.out, Int.toNat_natCast, ← HQ.out, ← HHH.out, HLL.out]; exact HR8.out
        · rw [← HQ.out]; exact HP5.out
      · have hh := HHE.out.2 hE0
        have HH2 := Lib.hid hh
        have HMK := make_ints M (by omega)
        have hEb : (E != 0) = true := by simp [hE0]
        clear hh HHE
        go_wp2_with fail
        rw [← HW2.out]
        refine HDE.out.mono ?_
        rintro e w5 ⟨A8, n8, c8, rfl, ho, hb⟩
        have HP5 := Lib.hid (HP2.out.below' hb)
        have HK5 := Lib.hid (HK2.out.on hb)
        have y0 := HP5.out.cells.1
        have HRB5 := Lib.hid (HRB.out w5 (HS2.out.below (hb.mono (Nat.le_trans hB (Nat.le_trans hbs HK2.out.size)))))
        clear ho hb x2 f2 HRB
        go_wp2_with fail
        refine HRB5.out.mono ?_
        rintro e w' ⟨rfl, rfl⟩
        go_wp2_with fail
        go_ret
        refine ⟨some ⟨w5.heap.size, 0, none⟩, M, M, rfl, ?_, ⟨A5, k, c5, ?_, fun q hq => by have := HFR.out q hq; have := HSZ.out; omega⟩, HK5.out.alloc _⟩
        · rw [HM.out, Int.toNat_natCast, ← HQ.out, ← HHH.out, HH2.out]
          exact RdI.own (made_own w5 M (by omega))
        · rw [← HQ.out]; exact HP5.out.alloc _
/-- What becomes of the document's player, and what is told, where a frame is played. -/
def RPlayO (W : World) (base Y : Nat) (As : Option Addr) (ns cs : Nat) (bits : Int) (A : Option Addr) (n c : Nat) (ps : List Ph.Part) (lost E : Int) (L : List Int) (U : List Ph.Part) (e : Ending) (w' : World) : Prop :=
  ∃ A' n' c', e = .returned (.tuple #[.slice A' n' c', .int .i64 E]) ∧ w'.ownsRow W.heap.size 3 1 (.slice A' n' c') n' (ivals L) ∧ (E ≠ 0 → RPlayerAt w' base Y As ns cs bits A n c ps lost) ∧ (E = 0 → ∃ A2 n2 c2, RPlayerAt w' base Y As ns cs bits A2 n2 c2 U 0 ∧ ∀ q, (Value.slice A2 n2 c2).ownBlock = some q → W.heap.size ≤ q) ∧ KeptBut (fun k => k = Y) W w'
set_option maxHeartbeats 4000000 in
set_option maxRecDepth 100000 in
theorem rplay_own (W : World) (base Y : Nat) (As : Option Addr) (ns cs : Nat) (s : List Int) (bits : Int) (A : Option Addr) (n c : Nat) (ps : List Ph.Part) (lost : Int) (b : ByteArray) (B : Nat) (hP : RPlayerAt W base Y As ns cs bits A n c ps lost) (hbs : base ≤ W.heap.size) (hS : RdI W B As ns s) (hB : B ≤ base) (hs : b.size ≤ 140737488351232) (hns : ns ≤ 100000000000000) :
    Calls Tryz.prog 13 #[.pointer (some ⟨Y, 0, none⟩), .string b] W (RPlayO W base Y As ns cs bits A n c ps lost (playE (bytesOf b) s bits) (playL (bytesOf b) s bits) (unpL (bytesOf b) s bits)) := by
  have HP := Lib.hid hP
  obtain ⟨c0, c1, c2, c3⟩ := hP.cells
  have HUN := Lib.hid fun W' (hW : RdI W' B As ns s) (hBW : B ≤ W'.heap.size) => runpack_own b As ns cs s bits W' B hW hBW hns hs
  have HS := Lib.hid hS
  have hBW := Nat.le_trans hB hbs
  have hsm := fun h => unpL_small (b := bytesOf b) (s := s) (bits := bits) (bytesOf_lt b) h
  have hpe : playE (bytesOf b) s bits = if unpE (bytesOf b) s bits ≠ 0 then unpE (bytesOf b) s bits else Ph.decErr (unpL (bytesOf b) s bits) := rfl
  have hpl : playL (bytesOf b) s bits = got (playE (bytesOf b) s bits) (Ph.lapI (Ph.decAll (unpL (bytesOf b) s bits))) := rfl
  obtain ⟨E1, hE1⟩ : ∃ E, E = unpE (bytesOf b) s bits := ⟨_, rfl⟩
  obtain ⟨U, hU⟩ : ∃ E, E = unpL (bytesOf b) s bits := ⟨_, rfl⟩
  rw [← hE1] at hsm hpe HUN
  rw [← hU] at hsm hpe hpl HUN
  obtain ⟨E, hE⟩ : ∃ E, E = playE (bytesOf b) s bits := ⟨_, rfl⟩
  obtain ⟨L, hL⟩ : ∃ E, E = playL (bytesOf b) s bits := ⟨_, rfl⟩
  rw [← hE] at hpe hpl ⊢
  rw [← hL] at hpl ⊢
  try rw [← hU]
  have HSM := Lib.hid hsm
  have HPE := Lib.hid hpe
  have HPL := Lib.hid hpl
  clear hP c2 c3 hsm hpe hpl hE1 hU hE hL hS
  go_enter Tryz.func13, Tryz.ntmps13
  go_upto_region 1 with (fail)
  go_cut [6, 7] (fun s6 s7 wx => ∃ A6 n6 c6, s6 = .slice A6 n6 c6 ∧ s7 = .int .i64 E1 ∧ Hid (OwnPV wx W.heap.size A6 n6 c6 U) ∧ Hid (Below W.heap.size W wx))
  case first =>
    go_region_with (go_at_call 24; refine (HUN.out _ (RdI.drew HS.out) hBW).mono ?_; rintro e w3 ⟨A6, n6, c6, rfl, ho3, hb3⟩)
    all_goals go_wp2_with fail
    all_goals go_meet
    all_goals exact ⟨A6, n6, c6, rfl, rfl, Lib.hid ho3, Lib.hid ⟨hb3.os, hb3.tape, hb3.output, hb3.size, hb3.block⟩⟩
  case rest =>
    obtain ⟨A6, n6, c6, rfl, rfl, HU6, HB6⟩ := hcut
    rename World => w3
    by_cases hE1 : E1 = 0
    · have hsm := HSM.out hE1
      have hE : E = Ph.decErr U := by rw [HPE.out, if_neg (by omega)]
      have HDE := Lib.hid (rdecode_any A6 n6 c6 U w3 w3.heap.size HU6.out.rd (Nat.le_refl _) (by have := HU6.out.len; omega) (fun p hp => by have := (hsm.2.2 p hp).2; omega))
      rw [← hE] at HDE
      rw [← HPL.out] at HDE
      subst hE1
      have HP3 := Lib.hid (HP.out.below' HB6.out)
      clear HPE HSM hsm HUN
      by_cases hE0 : E = 0
      · subst hE0
        clear HPL hE
        go_wp2_with fail
        refine HDE.out.mono ?_
        rintro e w4 ⟨A8, n8, c8, rfl, ho, hb⟩
        have HO8 := Lib.hid ho
        have HP4 := Lib.hid (HP3.out.below' hb)
        have HU8 := Lib.hid ((HU6.out.more hbs).below' hb)
        have HB8 := Lib.hid (below_on HB6.out hb)
        have f2 := HP4.out.frozen 2
        have f3 := HP4.out.frozen 3
        have x2 := HP4.out.cells.2.2.1
        have x3 := HP4.out.cells.2.2.2
        clear ho hb c0 c1 HP HP3
        go_wp2_with fail
        go_ret2
        have h1 := HP4.out.setLast HU8.out
        have h2 := h1.setLost 0
        refine ⟨A8, n8, c8, rfl, ?_, fun h => absurd rfl h, fun _ => ⟨A6, n6, c6, h2, HU6.out.fresh⟩, ((KeptBut.of_below (S := fun k => k = Y) HB8.out).setCell (p := ⟨Y, 2, none⟩) rfl _).setCell (p := ⟨Y, 3, none⟩) rfl _⟩
        have hr := HO8.out
        have g1 : w4.grownBy (w4.setCell ⟨Y, 2, none⟩ (.slice A6 n6 c6)) (some Y) := ⟨rfl, rfl, rfl, by simp, fun k _ hk => heap_setCell_other w4 ⟨Y, 2, none⟩ k _ (fun e => hk (by simp [e]))⟩
        have hr1 := hr.kept g1 (.inr (row_type hr HP4.out.2.1 (by decide)))
        have g2 : (w4.setCell ⟨Y, 2, none⟩ (.slice A6 n6 c6)).grownBy ((w4.setCell ⟨Y, 2, none⟩ (.slice A6 n6 c6)).setCell ⟨Y, 3, none⟩ (.int .i64 0)) (some Y) := ⟨rfl, rfl, rfl, by simp, fun k _ hk => heap_setCell_other _ ⟨Y, 3, none⟩ k _ (fun e => hk (by simp [e]))⟩
        exact own_more (hr1.kept g2 (.inr (row_type hr1 h1.2.1 (by decide)))) HB6.out.size
      · have hL : L = [] := by rw [HPL.out, got_ne hE0]
        subst hL
        have hEb : (E != 0) = true := by simp [hE0]
        clear HPL hE
        go_wp2_with fail
        refine HDE.out.mono ?_
        rintro e w4 ⟨A8, n8, c8, rfl, ho, hb⟩
        have HP4 := Lib.hid (HP3.out.below' hb)
        have HB8 := Lib.hid (below_on HB6.out hb)
        clear ho hb c0 c1 HP HP3
        go_wp2_with fail
        go_ret2
        exact ⟨none, 0, 0, rfl, own_nil _ _ _, fun _ => HP4.out, fun h => absurd h hE0, .of_below HB8.out⟩
    · have hE : E = E1 := by rw [HPE.out, if_pos hE1]
      have hL : L = [] := by rw [HPL.out, hE, got_ne hE1]
      subst hL
      have HP3 := Lib.hid (HP.out.below' HB6.out)
      subst hE
      have hEb : (E != 0) = true := by simp [hE1]
      clear HPE HPL HSM HUN
      go_wp2_with fail
      go_ret2
      exact ⟨none, 0, 0, rfl, own_nil _ _ _, fun _ => HP3.out, fun h => absurd h hE1, .of_below HB6.out⟩
section
variable {W w' : World} {bq bp X Y ns cs ms ds n c nm cm : Nat} {As Bs A Am : Option Addr} {s t : List Int} {bits many lost bits2 lost2 : Int} {ps qs : List Ph.Part}
/-- The two players share no row of parts. -/
def Sep (A : Option Addr) (n c : Nat) (Am : Option Addr) (nm cm : Nat) : Prop := ∀ q, (Value.slice A n c).ownBlock = some q → (Value.slice Am nm cm).ownBlock ≠ some q
/-- The document's player stays as it is while the program's one turns. -/
theorem RPlayerAt.apart (hq : RPlayerAt W bq Y Bs ms ds bits2 Am nm cm qs lost2) (hp : PlayerAt W bp X As ns cs s bits many A n c ps lost) (hs : Sep A n c Am nm cm) (hk : KeptBut (ownBlocks X A n c) W w') : RPlayerAt w' bq Y Bs ms ds bits2 Am nm cm qs lost2 := by
  obtain ⟨vs, a1, a2, a3⟩ := hp.2.2.2
  have hYX : Y ≠ X := by
    rintro rfl
    have h1 := hq.2.1
    rw [hp.2.1] at h1
    have := Option.some.inj h1
    injection this with _ h3 _
    exact absurd h3 (by decide)
  obtain ⟨us, b1, b2, b3⟩ := hq.2.2
  refine ⟨hq.1, (hk.block Y hq.lt ?_).trans hq.2.1, us, hk.row b1 ?_, b2.map fun v l hv => ?_, b3⟩
  · rintro (h | h)
    · exact hYX h
    · exact row_type a1 hq.2.1 (by decide) h
  · intro k h
    rintro (h2 | h2)
    · subst h2
      exact row_type b1 hp.2.1 (by decide) h
    · exact hs k h2 h
  · obtain ⟨A', c', e, hi⟩ := hv
    refine ⟨A', c', e, hk.row hi ?_⟩
    intro k h
    rintro (h2 | h2)
    · subst h2
      exact row_type hi hp.2.1 (by decide) h
    · exact rows_differ a1 hi (by decide) k h2 h
/-- The program's player stays as it is while the document's one turns. -/
theorem PlayerAt.apartR (hp : PlayerAt W bp X As ns cs s bits many A n c ps lost) (hq : RPlayerAt W bq Y Bs ms ds bits2 Am nm cm qs lost2) (hk : KeptBut (fun k => k = Y) W w') : PlayerAt w' bp X As ns cs s bits many A n c ps lost := by
  obtain ⟨vs, a1, a2, a3⟩ := hp.2.2.2
  have hXY : X ≠ Y := by
    rintro rfl
    have h1 := hq.2.1
    rw [hp.2.1] at h1
    have := Option.some.inj h1
    injection this with _ h3 _
    exact absurd h3 (by decide)
  refine ⟨hp.1, (hk.block X hp.lt hXY).trans hp.2.1, hk.row hp.2.2.1 ?_, vs, hk.row a1 ?_, a2.map fun v l hv => ?_, a3⟩
  · rintro k h rfl
    exact row_type hp.2.2.1 hq.2.1 (by decide) h
  · rintro k h rfl
    exact row_type a1 hq.2.1 (by decide) h
  · obtain ⟨A', c', e, hi⟩ := hv
    refine ⟨A', c', e, hk.row hi ?_⟩
    rintro k h rfl
    exact row_type hi hq.2.1 (by decide) h
theorem RPlayerAt.belowR {B : Nat} (hq : RPlayerAt W bq Y Bs ms ds bits2 Am nm cm qs lost2) (hk : KeptBut (fun k => k = Y) W w') (hb : B ≤ bq) (hB : B ≤ W.heap.size) : Below B W w' :=
  hk.below hB (by rintro k rfl; exact Nat.le_trans hb hq.1)
end
end Go.Proofs.YtlilommhdjdblaaGreatDoor
