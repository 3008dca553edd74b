/- The walk of the statement 'RunAnswers'. -/
import Derived.Test.YtjdpgakkphdjlaaGreatDoorRunR
import Derived.Test.YtjdpgakkphdjlaaGreatDoorRefLnw
import Derived.Deep.QuietTactic
import Derived.Deep.DeepCutAuto
import Derived.Deep.CutBlock
import Derived.Deep.Cut
namespace Go.Proofs.YtjdpgakkphdjlaaGreatDoor
open Go.RowKit

/-- The reference's tank in a block of its own. -/
def TkAt (W : World) (K : Nat) (t : Ph.Tank) : Prop := W.heap[K]? = some (.cells #[.int .i64 t.size, .int .i64 t.each, .int .i64 t.has] 26 (0, 0))
theorem TkAt.cells {W : World} {K : Nat} {t : Ph.Tank} (h : TkAt W K t) : (W.cell? ⟨K, 0, none⟩ = some (.int .i64 t.size) ∧ W.cell? ⟨K, 1, none⟩ = some (.int .i64 t.each) ∧ W.cell? ⟨K, 2, none⟩ = some (.int .i64 t.has)) ∧ (W.frozen? ⟨K, 0, none⟩ = false ∧ W.frozen? ⟨K, 1, none⟩ = false ∧ W.frozen? ⟨K, 2, none⟩ = false) :=
  ⟨⟨cell_of_row W K 0 _ _ (0, 0) h, cell_of_row W K 1 _ _ (0, 0) h, cell_of_row W K 2 _ _ (0, 0) h⟩, frozen_of_row W K 0 _ _ h, frozen_of_row W K 1 _ _ h, frozen_of_row W K 2 _ _ h⟩
theorem TkAt.lt {W : World} {K : Nat} {t : Ph.Tank} (h : TkAt W K t) : K < W.heap.size := (Array.getElem?_eq_some_iff.1 h).1
theorem TkAt.below {W W' : World} {K : Nat} {t : Ph.Tank} (h : TkAt W K t) (hb : Below W.heap.size W W') : TkAt W' K t := (hb.block K h.lt).trans h
theorem TkAt.set {W : World} {K : Nat} {t : Ph.Tank} (h : TkAt W K t) (d : Ph.Tank) : TkAt (((W.setCell ⟨K, 0, none⟩ (.int .i64 d.size)).setCell ⟨K, 1, none⟩ (.int .i64 d.each)).setCell ⟨K, 2, none⟩ (.int .i64 d.has)) K d := by
  unfold TkAt
  rw [heap_setCell_same _ K 2 _ _ _ (heap_setCell_same _ K 1 _ _ _ (heap_setCell_same _ K 0 _ _ _ h))]; rfl
theorem below_set3 {w W : World} {B K : Nat} (h : Below B w W) (hK : B ≤ K) (a b c : Value) : Below B w (((W.setCell ⟨K, 0, none⟩ a).setCell ⟨K, 1, none⟩ b).setCell ⟨K, 2, none⟩ c) :=
  ((h.setCell (by show B ≤ K; omega) a).setCell (by show B ≤ K; omega) b).setCell (by show B ≤ K; omega) c
/-- A text's lines, out of what is cut. -/
theorem lines_of_cut {t : List UInt8} {ws : List ByteArray} {M : Nat} (h : bytesL ws = Pr.cutL 10 t) (hM : ws.length = M + 1) :
    Pr.linesL t = if ws.getD M ByteArray.empty = ByteArray.empty then bytesL (ws.take M) else bytesL ws := by
  unfold Pr.linesL
  rw [← h]
  have e : (bytesL ws).getLast? = some (ws.getD M ByteArray.empty).data.toList := by
    unfold bytesL
    rw [List.getLast?_map, List.getLast?_eq_getElem?, hM, Nat.add_sub_cancel, List.getElem?_eq_getElem (by omega), List.getD_eq_getElem?_getD, List.getElem?_eq_getElem (by omega)]
    rfl
  rw [e]
  by_cases h0 : ws.getD M ByteArray.empty = ByteArray.empty
  · rw [if_pos h0, h0, if_pos (by rfl), List.dropLast_eq_take]
    unfold bytesL
    rw [List.length_map, hM, Nat.add_sub_cancel, List.map_take]
  · rw [if_neg h0, if_neg]
    intro e2
    apply h0
    rw [← strL_data (ws.getD M ByteArray.empty), Option.some.inj e2]
    rfl
theorem words_few {t : List UInt8} {ws : List ByteArray} {B : Nat} (h : bytesL ws = Pr.cutL 10 t) (hB : t.length ≤ B) : ∀ y ∈ ws, y.size ≤ B := fun y hy => by
  have h1 : y.data.toList ∈ Pr.cutL 10 t := by rw [← h]; exact List.mem_map.2 ⟨y, hy, rfl⟩
  have h2 := cutL_mem 10 _ h1
  rw [← Lib.size_eq] at h2
  omega
theorem lines_at {vs : List ByteArray} {ls : List (List UInt8)} (h : bytesL vs = ls) {k : Nat} (hk : k < vs.length) : ls.take (k + 1) = ls.take k ++ [(vs.getD k ByteArray.empty).data.toList] := by
  rw [← h]
  unfold bytesL
  rw [List.take_add_one, List.getElem?_map, List.getElem?_eq_getElem hk, List.getD_eq_getElem?_getD, List.getElem?_eq_getElem hk]
  rfl
theorem RdS.take {w : World} {B n m : Nat} {A : Option Addr} {l : List ByteArray} (h : RdS w B A n l) (hm : m ≤ n) : RdS w B A m (l.take m) := by
  refine ⟨by rw [svals_length, List.length_take, h.len]; omega, fun h0 => ?_⟩
  obtain ⟨b, o, hA, hb, hc⟩ := h.2 (by omega)
  refine ⟨b, o, hA, hb, fun j hj => ?_⟩
  rw [hc j (by omega)]
  unfold svals
  rw [List.map_take, List.getElem?_take_of_lt hj]
/-- What holds at the head of a round: the words, the tank, the answers so far. -/
structure AnsW (w W2 : World) (A : Option Addr) (n : Nat) (vs : List ByteArray) (ls : List (List UInt8)) (k : Nat) (q : ByteArray) (W : World) : Prop where
  rd : RdS W W2.heap.size A n vs
  bel : Below W2.heap.size W2 W
  tk : TkAt W W2.heap.size (Pr.tankLs Pr.tank0 (ls.take k))
  told : q = strL (Pr.runLs Pr.tank0 (ls.take k))
set_option maxHeartbeats 4000000 in
set_option maxRecDepth 100000 in
theorem runAnswers_walk_of (HRL : Hid (∀ (t : Ph.Tank) (s : ByteArray) (w : World), TankOk t → s.size ≤ 3000 → Calls Tryz.prog 8 #[.agg #[.int .i64 t.size, .int .i64 t.each, .int .i64 t.has], .string s] w (LineR t s.data.toList w)))
    (w : World) (s : ByteArray) (_hs : s.size ≤ 140737488351232) (hg : RunG w) :
    Calls Tryz.prog 3 #[.string s] w fun e w' => e = .returned (.bool true) ∧ Below w.heap.size w w' := by
  have HR := Lib.hid (run_any s w hg)
  clear hg
  by_cases h3 : 3000 < s.size
  · have hL := HR.out
    rw [show strL (Pr.runL s.data.toList) = ⟨#[116, 111, 111, 32, 108, 111, 110, 103, 10]⟩ from by unfold Pr.runL; rw [if_pos (by rw [← Lib.size_eq]; exact h3)]; rfl] at hL
    have HL := Lib.hid hL
    have h3' : (3000 : Int) < (s.size : Int) := by omega
    clear HR h3 hL _hs
    go_enter Tryz.func3, Tryz.ntmps3
    go_wp2_with fail
    refine HL.out.mono ?_
    rintro e w1 ⟨rfl, hb1⟩
    have HB1 := Lib.hid hb1
    clear hb1 HL
    go_wp2_with fail
    go_ret
    exact ⟨rfl, HB1.out⟩
  · have h3' : ¬ (3000 : Int) < (s.size : Int) := by omega
    have HCUT := Lib.hid fun W => rcut_any s 10 W (by omega)
    obtain ⟨t, ht⟩ : ∃ t, t = s.data.toList := ⟨_, rfl⟩
    have HTL : Hid (t.length ≤ 3000) := Lib.hid (by rw [ht, ← Lib.size_eq]; omega)
    have hrl : Pr.runL s.data.toList = Pr.runLs Pr.tank0 (Pr.linesL t) := by rw [← ht]; unfold Pr.runL; rw [if_neg (by have := HTL.out; omega)]
    rw [← ht] at HCUT
    rw [hrl] at HR
    obtain ⟨G, hG⟩ : ∃ G, G = strL (Pr.runLs Pr.tank0 (Pr.linesL t)) := ⟨_, rfl⟩
    rw [← hG] at HR
    have HG := Lib.hid hG
    have hcn := Pr.cutL_ne 10 t
    obtain ⟨M, hM⟩ : ∃ M, (Pr.cutL 10 t).length = M + 1 := by
      cases hc : Pr.cutL 10 t with
      | nil => exact absurd hc hcn
      | cons a r => exact ⟨r.length, by simp⟩
    have hML := Pr.cutL_len 10 t
    obtain ⟨N, hN⟩ : ∃ N, N = (Pr.cutL 10 t).length := ⟨_, rfl⟩
    have HMB : Hid (N = M + 1 ∧ N ≤ 3001) := Lib.hid ⟨by omega, by have := HTL.out; omega⟩
    have hNM : (M : Int) < (N : Int) := by have := HMB.out; omega
    have hM0 : (0 : Int) ≤ (M : Int) := by omega
    have kM : IntKind.i64.wrap ((N : Int) - 1) = (M : Int) := by have := HMB.out; rw [IntWalk.i64_in _ (by omega)]; omega
    unfold SplitP at HCUT
    rw [← hN] at HCUT
    clear hrl hG ht hcn hML hM hN h3 _hs
    go_enter Tryz.func3, Tryz.ntmps3
    go_wp2_with fail
    refine HR.out.mono ?_
    rintro e w1 ⟨rfl, hb1⟩
    have HB1 := Lib.hid hb1
    clear hb1 HR
    go_wp2_with fail
    refine (HCUT.out _).mono ?_
    rintro e w2 ⟨A, c, ws, rfl, hr, hws, hnc, hb2⟩
    have HB2 := Lib.hid (below_on HB1.out hb2)
    have HR2 := Lib.hid hr
    have hMN : M < N := by omega
    obtain ⟨b, o, rfl, _, d0⟩ := hr.at_ hMN
    have hwl : ws.length = M + 1 := by have := hr.len; have := HMB.out; omega
    have HLI := Lib.hid (lines_of_cut hws hwl)
    have HMEM := Lib.hid (words_few hws HTL.out)
    have HNC := Lib.hid hnc
    obtain ⟨p, hp⟩ : ∃ p, p = ws.getD M ByteArray.empty := ⟨_, rfl⟩
    rw [← hp] at d0 HLI
    have hcp : (M : Int) ≤ (c : Int) := by omega
    clear hb2 HB1 HCUT hr hwl hws hnc hp
    obtain ⟨q0, hq0⟩ : ∃ q0, q0 = decide (p = ByteArray.empty) := ⟨_, rfl⟩
    have hse : (p.toList == []) = q0 := by
      rw [hq0]
      by_cases h : p = ByteArray.empty
      · rw [decide_eq_true h]
        exact word_eq (l := []) (by rw [h]; rfl) rfl
      · rw [decide_eq_false h]
        refine word_ne (l := p.data.toList) (strL_data p).symm ?_
        cases hl : p.data.toList with
        | nil => exact absurd (by rw [← strL_data p, hl]; rfl) h
        | cons a r => rfl
    have HQ0 := Lib.hid hq0
    clear hq0
    go_upto_if 24 with (fail)
    go_cut [4] (fun v wx => ∃ A' n' c' vs, v = .slice A' n' c' ∧ n' ≤ 3001 ∧ Hid (RdS w2 w2.heap.size A' n' vs) ∧ Hid (bytesL vs = Pr.linesL t) ∧ Hid (∀ y ∈ vs, y.size ≤ 3000) ∧ wx = w2)
    case first =>
      cases q0 with
      | true =>
        go_wp2_with fail
        go_meet
        case rel =>
          have hl := HLI.out
          rw [if_pos (of_decide_eq_true HQ0.out.symm)] at hl
          exact ⟨_, M, c, ws.take M, rfl, by have := HMB.out; omega, Lib.hid (HR2.out.take (by omega)), Lib.hid hl.symm, Lib.hid fun y hy => HMEM.out y (List.mem_of_mem_take hy), rfl⟩
      | false =>
        go_wp2_with fail
        go_meet
        case rel =>
          have hn : ¬ p = ByteArray.empty := of_decide_eq_false HQ0.out.symm
          have hl := HLI.out
          rw [if_neg hn] at hl
          exact ⟨_, N, c, ws, rfl, HMB.out.2, HR2, Lib.hid hl.symm, HMEM, rfl⟩
    case rest =>
      obtain ⟨A', n', c', vs, rfl, hn, HRD, HBL, HME, rfl⟩ := hcut
      clear HR2 HMEM HNC HLI HQ0 HMB hNM hM0 kM hMN hcp hse d0
      go_wp2_with fail
      obtain ⟨K, hK⟩ : ∃ K, K = wc.heap.size := ⟨_, rfl⟩
      have HA0 : Hid (AnsW w wc A' n' vs (Pr.linesL t) 0 ⟨#[]⟩ (wc.alloc (.cells #[.int .i64 100, .int .i64 20, .int .i64 100] 26))) := Lib.hid
        ⟨HRD.out.below (below_alloc0 wc _), below_alloc0 wc _, heap_alloc_new wc _, rfl⟩
      obtain ⟨W0, hW0⟩ : ∃ W0, W0 = wc.alloc (.cells #[.int .i64 100, .int .i64 20, .int .i64 100] 26) := ⟨_, rfl⟩
      rw [← hW0] at HA0
      rw [← hW0, ← hK]
      have HK := Lib.hid hK
      clear hW0 hK
      go_loopw [6, 7, 8] (fun want i _ wr => ∃ (k : Nat) (q : ByteArray), want = .string q ∧ i = .int .i64 k ∧ k ≤ n' ∧ Hid (AnsW w wc A' n' vs (Pr.linesL t) k q wr)) (fun _ i _ _ => n' - (intOf i).toNat)
      case atStart => exact ⟨0, ⟨#[]⟩, rfl, rfl, by omega, HA0⟩
      case round =>
        obtain ⟨k, q, rfl, rfl, hk, HA⟩ := hrel
        clear HA0
        have HLL : Hid (vs.length = n') := Lib.hid HRD.out.len
        by_cases hlt : k < n'
        · have hlt' : (k : Int) < (n' : Int) := by omega
          obtain ⟨b1, o1, rfl, _, d1⟩ := HA.out.rd.at_ hlt
          obtain ⟨p1, hp1⟩ : ∃ p, p = vs.getD k ByteArray.empty := ⟨_, rfl⟩
          have HTK := Lib.hid (lines_at HBL.out (k := k) (by have := HLL.out; omega))
          rw [← hp1] at d1 HTK
          have hps : p1.size ≤ 3000 := HME.out _ (by rw [hp1, List.getD_eq_getElem?_getD, List.getElem?_eq_getElem (by have := HLL.out; omega)]; exact List.getElem_mem _)
          obtain ⟨T, hT⟩ : ∃ T, T = Pr.tankLs Pr.tank0 ((Pr.linesL t).take k) := ⟨_, rfl⟩
          have hTo : TankOk T := by rw [hT]; exact tankLs_ok _ _ tank0_ok
          obtain ⟨x, d, hxd⟩ : ∃ x d, Pr.lineL T p1.data.toList = (x, d) := ⟨_, _, rfl⟩
          obtain ⟨X, hX⟩ : ∃ X, X = strL x := ⟨_, rfl⟩
          have HLC : Hid (∀ W : World, Calls Tryz.prog 8 #[.agg #[.int .i64 T.size, .int .i64 T.each, .int .i64 T.has], .string p1] W fun e w' => e = .returned (.tuple #[.string X, .agg #[.int .i64 d.size, .int .i64 d.each, .int .i64 d.has]]) ∧ Below W.heap.size W w') := Lib.hid fun W => (HRL.out T p1 W hTo hps).mono fun e w' h => by
            obtain ⟨y, z, h1, h2, h3⟩ := h
            rw [hxd] at h2
            obtain ⟨rfl, rfl⟩ := Prod.mk.inj h2
            exact ⟨by rw [h1, hX], h3⟩
          have htk := HA.out.tk
          rw [← HK.out, ← hT] at htk
          obtain ⟨⟨t0, t1, t2⟩, _⟩ := htk.cells
          have HXX : Hid (T = Pr.tankLs Pr.tank0 ((Pr.linesL t).take k) ∧ X = strL x ∧ Pr.lineL T p1.data.toList = (x, d)) := Lib.hid ⟨hT, hX, hxd⟩
          have HSH : Hid (x.length ≤ 200) := Lib.hid (by have := Pr.line_short T p1.data.toList hTo; rw [hxd] at this; exact this)
          have HTW := Lib.hid htk
          clear hp1 hT hX hxd hTo hps htk
          go_wp2_with fail
          replace t0 : wr.drew.cell? ⟨K, 0, none⟩ = some (.int .i64 T.size) := t0
          replace t1 : wr.drew.cell? ⟨K, 1, none⟩ = some (.int .i64 T.each) := t1
          replace t2 : wr.drew.cell? ⟨K, 2, none⟩ = some (.int .i64 T.has) := t2
          replace d1 : wr.drew.cell? ⟨b1, o1 + k, none⟩ = some (.string p1) := d1
          refine region_till (fun L w' => ((w'.cell? ⟨K, 0, none⟩ = some (.int .i64 T.size) ∧ w'.cell? ⟨K, 1, none⟩ = some (.int .i64 T.each) ∧ w'.cell? ⟨K, 2, none⟩ = some (.int .i64 T.has)) ∧ w'.cell? ⟨b1, o1 + k, none⟩ = some (.string p1)) ∨ L.getD 5 false = true) (by kernel_rfl) ?_
          refine wpTill_take (d := 5) (i := 0) (v := (.agg #[.int .i64 T.size, .int .i64 T.each, .int .i64 T.has])) (S := fun w' => ((w'.cell? ⟨K, 0, none⟩ = some (.int .i64 T.size) ∧ w'.cell? ⟨K, 1, none⟩ = some (.int .i64 T.each) ∧ w'.cell? ⟨K, 2, none⟩ = some (.int .i64 T.has)) ∧ w'.cell? ⟨b1, o1 + k, none⟩ = some (.string p1))) rfl (by kernel_rfl) (by kernel_rfl) (by kernel_rfl) (by kernel_rfl) (fun _ _ _ h => h) (fun L w' hd hc => hc.resolve_right (by rw [hd]; simp)) (fun L w' hc => hc.imp id (fun h => by rwa [getD_set_ne false (by decide)] at h)) (.inl ⟨⟨t0, t1, t2⟩, d1⟩) (Or.inl ⟨by rfl, fun w hSw => by obtain ⟨⟨y0, y1, y2⟩, y3⟩ := hSw; go_simp⟩) ?_
          try simp only [Act.put, List.getElem_toArray, List.getElem_cons_zero, List.setIfInBounds_toArray, List.set_cons_zero, List.set_cons_succ]
          refine wpTill_take (d := 3) (i := 1) (v := (.slice (some ⟨b1, o1, none⟩) n' c')) (S := fun w' => True) rfl (by kernel_rfl) (by kernel_rfl) (by kernel_rfl) (by kernel_rfl) (fun _ _ _ h => h) (fun _ _ _ _ => trivial) (fun L w' hc => hc.imp id (fun h => by rwa [getD_set_ne false (by decide)] at h)) (.inl ⟨⟨t0, t1, t2⟩, d1⟩) (Or.inl ⟨by rfl, fun w _ => by go_simp⟩) ?_
          try simp only [Act.put, List.getElem_toArray, List.getElem_cons_zero, List.getElem_cons_succ, List.setIfInBounds_toArray, List.set_cons_zero, List.set_cons_succ]
          refine wpTill_take (d := 3) (i := 2) (v := (.int .i64 k)) (S := fun w' => True) rfl (by kernel_rfl) (by kernel_rfl) (by kernel_rfl) (by kernel_rfl) (fun _ _ _ h => h) (fun _ _ _ _ => trivial) (fun L w' hc => hc.imp id (fun h => by rwa [getD_set_ne false (by decide)] at h)) (.inl ⟨⟨t0, t1, t2⟩, d1⟩) (Or.inl ⟨by rfl, fun w _ => by go_simp⟩) ?_
          try simp only [Act.put, List.getElem_toArray, List.getElem_cons_zero, List.getElem_cons_succ, List.setIfInBounds_toArray, List.set_cons_zero, List.set_cons_succ]
          refine wpTill_take (d := 4) (i := 3) (v := (.pointer (some ⟨b1, o1 + k, none⟩))) (S := fun w' => True) rfl (by kernel_rfl) (by kernel_rfl) (by kernel_rfl) (by kernel_rfl) (fun _ _ _ h => h) (fun _ _ _ _ => trivial) (fun L w' hc => hc.imp id (fun h => by rwa [getD_set_ne false (by decide)] at h)) (.inl ⟨⟨t0, t1, t2⟩, d1⟩) (Or.inl ⟨by rfl, fun w _ => by go_simp⟩) ?_
          try simp only [Act.put, List.getElem_toArray, List.getElem_cons_zero, List.getElem_cons_succ, List.setIfInBounds_toArray, List.set_cons_zero, List.set_cons_succ]
          refine wpTill_take (d := 5) (i := 4) (v := (.string p1)) (S := fun w' => ((w'.cell? ⟨K, 0, none⟩ = some (.int .i64 T.size) ∧ w'.cell? ⟨K, 1, none⟩ = some (.int .i64 T.each) ∧ w'.cell? ⟨K, 2, none⟩ = some (.int .i64 T.has)) ∧ w'.cell? ⟨b1, o1 + k, none⟩ = some (.string p1))) rfl (by kernel_rfl) (by kernel_rfl) (by kernel_rfl) (by kernel_rfl) (fun _ _ _ h => h) (fun L w' hd hc => hc.resolve_right (by rw [hd]; simp)) (fun L w' hc => hc.imp id (fun h => by rwa [getD_set_ne false (by decide)] at h)) (.inl ⟨⟨t0, t1, t2⟩, d1⟩) (Or.inl ⟨by rfl, fun w hSw => by obtain ⟨⟨y0, y1, y2⟩, y3⟩ := hSw; go_simp⟩) ?_
          try simp only [Act.put, List.getElem_toArray, List.getElem_cons_zero, List.getElem_cons_succ, List.setIfInBounds_toArray, List.set_cons_zero, List.set_cons_succ]
          refine wpTill_ready (rs := [5]) (by kernel_rfl) (by simp) ?_
          refine TillAll.cons rfl (fun Kc hKc => ?_) TillAll.nil
          go_simp
          refine (HLC.out _).mono ?_
          rintro e w3 ⟨rfl, hb3⟩
          have HB3 := Lib.hid hb3
          have htk3 := (HTW.out.below ⟨rfl, rfl, rfl, Nat.le_refl _, fun _ _ => rfl⟩ : TkAt wr.drew K T).below hb3
          have HT3 := Lib.hid htk3
          obtain ⟨⟨e0, e1, e2⟩, f0, f1, f2⟩ := htk3.cells
          clear hb3 htk3 HLC HTW
          dsimp only
          refine hKc.out _ _ (.inr (by rfl)) ?_
          try simp only [Act.put, List.getElem_toArray, List.getElem_cons_zero, List.getElem_cons_succ, List.setIfInBounds_toArray, List.set_cons_zero, List.set_cons_succ]
          clear hKc Kc
          refine wpTill_take (d := 7) (i := 6) (v := (.tuple #[.string X, (.agg #[.int .i64 d.size, .int .i64 d.each, .int .i64 d.has])])) (S := fun _ => True) rfl (by kernel_rfl) (by kernel_rfl) (by kernel_rfl) (by kernel_rfl) (fun _ _ _ h => h) (fun _ _ _ _ => trivial) (fun L w' hc => hc.imp id (fun h => by rwa [getD_set_ne false (by decide)] at h)) (.inr (by rfl)) (Or.inl ⟨by rfl, fun w _ => by go_simp⟩) ?_
          try simp only [Act.put, List.getElem_toArray, List.getElem_cons_zero, List.getElem_cons_succ, List.setIfInBounds_toArray, List.set_cons_zero, List.set_cons_succ]
          refine wpTill_take (d := 9) (i := 7) (v := (.string X)) (S := fun _ => True) rfl (by kernel_rfl) (by kernel_rfl) (by kernel_rfl) (by kernel_rfl) (fun _ _ _ h => h) (fun _ _ _ _ => trivial) (fun L w' hc => hc.imp id (fun h => by rwa [getD_set_ne false (by decide)] at h)) (.inr (by rfl)) (Or.inl ⟨by rfl, fun w _ => by go_simp⟩) ?_
          try simp only [Act.put, List.getElem_toArray, List.getElem_cons_zero, List.getElem_cons_succ, List.setIfInBounds_toArray, List.set_cons_zero, List.set_cons_succ]
          refine wpTill_take (d := 10) (i := 8) (v := (.agg #[.int .i64 d.size, .int .i64 d.each, .int .i64 d.has])) (S := fun _ => True) rfl (by kernel_rfl) (by kernel_rfl) (by kernel_rfl) (by kernel_rfl) (fun _ _ _ h => h) (fun _ _ _ _ => trivial) (fun L w' hc => hc.imp id (fun h => by rwa [getD_set_ne false (by decide)] at h)) (.inr (by rfl)) (Or.inl ⟨by rfl, fun w _ => by go_simp⟩) ?_
          try simp only [Act.put, List.getElem_toArray, List.getElem_cons_zero, List.getElem_cons_succ, List.setIfInBounds_toArray, List.set_cons_zero, List.set_cons_succ]
          refine wpTill_take (d := 10) (i := 9) (v := (.string X)) (S := fun _ => True) rfl (by kernel_rfl) (by kernel_rfl) (by kernel_rfl) (by kernel_rfl) (fun _ _ _ h => h) (fun _ _ _ _ => trivial) (fun L w' hc => hc.imp id (fun h => by rwa [getD_set_ne false (by decide)] at h)) (.inr (by rfl)) (Or.inl ⟨by rfl, fun w _ => by go_simp⟩) ?_
          try simp only [Act.put, List.getElem_toArray, List.getElem_cons_zero, List.getElem_cons_succ, List.setIfInBounds_toArray, List.set_cons_zero, List.set_cons_succ]
          refine wpTill_ready (rs := [10]) (by kernel_rfl) (by simp) ?_
          refine TillAll.cons rfl (fun Kc hKc => ?_) TillAll.nil
          go_simp
          refine hKc.out _ _ (.inr (by rfl)) ?_
          clear hKc Kc
          refine wpTill_done (by kernel_rfl) ?_ _
          have HN : Hid (AnsW w wc (some ⟨b1, o1, none⟩) n' vs (Pr.linesL t) (k + 1) (q ++ X ++ ⟨#[10]⟩) (((w3.setCell ⟨K, 0, none⟩ (.int .i64 d.size)).setCell ⟨K, 1, none⟩ (.int .i64 d.each)).setCell ⟨K, 2, none⟩ (.int .i64 d.has))) := Lib.hid (by
            obtain ⟨h1, h2, h3, h4, h5⟩ := HB3.out
            obtain ⟨hT, hX, hxd⟩ := HXX.out
            have hb : Below wc.heap.size wc w3 := HA.out.bel.trans ((⟨h1, h2, h3, h4, h5⟩ : Below wr.heap.size wr w3).mono HA.out.bel.size)
            have hb2 := below_set3 hb (Nat.le_of_eq HK.out.symm) (.int .i64 d.size) (.int .i64 d.each) (.int .i64 d.has)
            refine ⟨HRD.out.below hb2, hb2, ?_, ?_⟩
            · rw [← HK.out, HTK.out, tankLs_snoc, ← hT, hxd]
              exact HT3.out.set d
            · rw [HTK.out, runLs_snoc, ← hT, hxd, HA.out.told, hX]
              rw [strL_append, show (⟨#[10]⟩ : ByteArray) = strL [10] from rfl, strL_append, List.append_assoc])
          have hqz : q.size ≤ 700000 := by
            have := runLs_short ((Pr.linesL t).take k) Pr.tank0 tank0_ok
            rw [HA.out.told, strL_size]
            rw [List.length_take] at this
            omega
          have hXz : X.size ≤ 200 := by rw [HXX.out.2.1, strL_size]; exact HSH.out
          have wk : IntKind.i64.wrap ((k : Int) + 1) = (k : Int) + 1 := IntWalk.i64_in _ (by omega)
          clear HB3 HT3 HA HXX HSH e0 e1 e2 f0 f1 f2 t0 t1 t2 d1
          go_wp2_with fail
          go_roundw
          case rel => exact ⟨k + 1, q ++ X ++ ⟨#[10]⟩, rfl, by go_num, hlt, HN⟩
          case measure => simp [intOf]; omega
        · have hlt' : ¬ (k : Int) < (n' : Int) := by omega
          have hq : q = G := by
            rw [HA.out.told, HG.out, List.take_of_length_le]
            have h1 := congrArg List.length HBL.out
            unfold bytesL at h1
            rw [List.length_map, HLL.out] at h1
            omega
          have HBE : Hid (Below w.heap.size w wr) := Lib.hid (HB2.out.trans (HA.out.bel.mono HB2.out.size))
          clear HA
          subst hq
          have hse : (q.toList == q.toList) = true := str_eq rfl
          go_wp2_with fail
          go_ret
          exact ⟨rfl, HBE.out⟩
end Go.Proofs.YtjdpgakkphdjlaaGreatDoor
