/- Walks of a session (chapter 20): run.Run. -/
import Derived.Test.YtjdpgakkphdjlaaGreatDoorRunO
import Derived.Test.YtjdpgakkphdjlaaGreatDoorRunQ
import Derived.Test.YtjdpgakkphdjlaaGreatDoorRunB
namespace Go.Proofs.YtjdpgakkphdjlaaGreatDoor
open Go.RowKit

theorem tankLs_ok : ∀ (l : List (List UInt8)) (t : Ph.Tank), TankOk t → TankOk (Pr.tankLs t l)
  | [], _, h => h
  | s :: l, t, h => tankLs_ok l _ (line_tank t s h)
theorem runLs_short : ∀ (l : List (List UInt8)) (t : Ph.Tank), TankOk t → (Pr.runLs t l).length ≤ 201 * l.length
  | [], _, _ => by simp [Pr.runLs]
  | s :: l, t, h => by
    have h1 := Pr.line_short t s h
    have h2 := runLs_short l _ (line_tank t s h)
    unfold Pr.runLs
    simp only [List.length_append, List.length_cons]
    omega
theorem tankLs_snoc : ∀ (l : List (List UInt8)) (t : Ph.Tank) (s : List UInt8), Pr.tankLs t (l ++ [s]) = (Pr.lineL (Pr.tankLs t l) s).2
  | [], _, _ => rfl
  | x :: l, t, s => tankLs_snoc l (Pr.lineL t x).2 s
theorem runLs_snoc (l : List (List UInt8)) (t : Ph.Tank) (s : List UInt8) : Pr.runLs t (l ++ [s]) = Pr.runLs t l ++ ((Pr.lineL (Pr.tankLs t l) s).1 ++ [10]) := by
  rw [Pr.runLs_append]
  simp [Pr.runLs]
theorem tank0_ok : TankOk Pr.tank0 := ⟨by decide, by decide, by decide⟩
/-- What lies behind so many lines. -/
structure RunJ (w : World) (l : List (List UInt8)) (W : World) : Prop where
  desk : DeskAt W w.heap.size (Pr.tankLs Pr.tank0 l)
  box : W.heap[w.heap.size + 1]? = some (.cells #[.pointer (some ⟨w.heap.size, 0, none⟩)] 33 (0, 0))
  bld : BuildX W (w.heap.size + 1 + 1) (w.heap.size + 1 + 1 + 1 + 1) (Pr.runLs Pr.tank0 l)
  bel : Below w.heap.size w W
  sz : w.heap.size + 1 + 1 + 1 + 1 ≤ W.heap.size
theorem RunJ.own (w : World) (f : List (List UInt8)) {W W' : World} {row : Option Nat} (h : RunJ w f W) (hg : W.grownBy W' row) (hr : ∀ r, row = some r → w.heap.size + 1 + 1 + 1 + 1 ≤ r ∧ ∃ o : Obj, W.heap[r]? = some o ∧ o.isCells = false) : RunJ w f W' := by
  have hr' : ∀ r, row = some r → ∃ o : Obj, W.heap[r]? = some o ∧ o.isCells = false := fun r e => (hr r e).2
  refine ⟨(grownBy_keeps_cells hg hr' h.desk rfl).trans h.desk, (grownBy_keeps_cells hg hr' h.box rfl).trans h.box, ?_, h.bel.grown hg (by have := h.sz; omega) (fun k e => by have := (hr k e).1; omega), by have := hg.size; have := h.sz; omega⟩
  obtain ⟨p, v, hp, hb, ho⟩ := h.bld
  refine ⟨p, v, hp, (grownBy_keeps_cells hg hr' hb rfl).trans hb, rowF_kept ho fun k hk => ?_⟩
  have hlt := (rowF_lt ho k hk).2
  exact grownBy_keeps_cells hg hr' (Array.getElem?_eq_getElem hlt) (rowF_cells ho hk (Array.getElem?_eq_getElem hlt))
theorem RunJ.drewN {w W : World} {f : List (List UInt8)} (h : RunJ w f W) (q : Nat) : RunJ w f (W.drewN q) := by
  obtain ⟨a, b, c, ⟨d1, d2, d3, d4, d5⟩, e⟩ := h
  exact ⟨a, b, c, ⟨d1, d2, d3, d4, d5⟩, e⟩
theorem RunJ.store {w W : World} {f : List (List UInt8)} (h : RunJ w f W) (v : Value) : RunJ w f (W.setCell ⟨w.heap.size + 1 + 1 + 1, 0, none⟩ v) := by
  have hk : ∀ k, k ≠ w.heap.size + 1 + 1 + 1 → (W.setCell ⟨w.heap.size + 1 + 1 + 1, 0, none⟩ v).heap[k]? = W.heap[k]? := fun k hk => heap_setCell_other W ⟨w.heap.size + 1 + 1 + 1, 0, none⟩ k v hk
  refine ⟨(hk _ (by omega)).trans h.desk, (hk _ (by omega)).trans h.box, ?_, h.bel.setCell (by show w.heap.size ≤ w.heap.size + 1 + 1 + 1; omega) v, by rw [World.size_setCell]; exact h.sz⟩
  obtain ⟨p, u, hp, hb, ho⟩ := h.bld
  exact ⟨p, u, hp, (hk _ (by omega)).trans hb, rowF_kept ho fun k hkk => hk k (by have := (rowF_lt ho k hkk).1; omega)⟩
theorem rawL_getD_len (t : List UInt8) (q : Nat) : ((Pr.rawL t).getD q []).length ≤ t.length := by
  by_cases h : q < (Pr.rawL t).length
  · have h1 := Pr.raw_rest t h
    have h2 := Pr.rawL_flat t.length t (Nat.le_refl _)
    have h3 := congrArg List.length (congrArg List.flatten (List.take_append_drop q (Pr.rawL t)))
    rw [List.flatten_append, List.length_append, h2, h1, List.length_append] at h3
    omega
  · rw [List.getD_eq_getElem?_getD, List.getElem?_eq_none (by omega)]; simp
theorem trimL_len (p : List UInt8) : (Pr.trimL p).length ≤ p.length := by
  unfold Pr.trimL; split <;> simp
set_option maxHeartbeats 4000000 in
set_option maxRecDepth 100000 in
theorem run_long (s : ByteArray) (w : World) (hs : 3000 < s.size) : Calls Tryz.prog 6 #[.string s] w fun e w' => e = .returned (.string (strL (Pr.runL s.data.toList))) ∧ Below w.heap.size w w' := by
  have HR : Hid (strL (Pr.runL s.data.toList) = strL Pr.tooLong) := Lib.hid (by unfold Pr.runL; rw [if_pos (by rw [← Lib.size_eq]; exact hs)])
  have hs' : (3000 : Int) < (s.size : Int) := by omega
  go_enter Tryz.func6, Tryz.ntmps6
  go_wp2_with fail
  go_ret
  exact ⟨by rw [HR.out]; rfl, Below.refl _ _⟩
theorem lines_fin (t : List UInt8) : (List.finRange (Pr.rawL t).length).map (fun x => Pr.trimL ((Pr.rawL t).getD x.1 [])) = Pr.linesL t := by
  rw [Pr.raw_lines t.length t (Nat.le_refl _)]
  apply List.ext_getElem
  · simp
  · intro i h1 h2
    simp at h1 h2
    simp [List.getD_eq_getElem?_getD]
def lineX (t : List UInt8) (x : Fin (Pr.rawL t).length) : List UInt8 := Pr.trimL ((Pr.rawL t).getD x.1 [])
/-- A round keeps what it must. -/
theorem round_end (w W W2 W3 : World) (B : Nat) (hB : B = w.heap.size + 1 + 1 + 1 + 1) (l : List (List UInt8)) (s : List UInt8) (hJ : RunJ w l W) (hd : DeskAt W2 w.heap.size (Pr.lineL (Pr.tankLs Pr.tank0 l) s).2) (hk : KeptBut (fun k => k = w.heap.size) W.drew W2)
    (hb : BuildX W3 (w.heap.size + 1 + 1) (w.heap.size + 1 + 1 + 1 + 1) (Pr.runLs Pr.tank0 l ++ ((Pr.lineL (Pr.tankLs Pr.tank0 l) s).1 ++ [10]))) (hk2 : KeptBut (fun k => k = w.heap.size + 1 + 1 ∨ w.heap.size + 1 + 1 + 1 + 1 ≤ k) W2 W3) (hko : KeepsOthers W2 W3) :
    KeepsFrom B W W3 ∧ W3.heap[w.heap.size + 1 + 1 + 1]? = W.heap[w.heap.size + 1 + 1 + 1]? ∧ RunJ w (l ++ [s]) W3 := by
  have hs : W.heap.size ≤ W2.heap.size := hk.size
  have hs2 := hk2.size
  have hs0 := hJ.sz
  have two : ∀ k, k < w.heap.size + 1 + 1 + 1 + 1 → k ≠ w.heap.size + 1 + 1 → W3.heap[k]? = W2.heap[k]? := fun k h1 h2 => hk2.block k (by omega) (by rintro (h | h) <;> omega)
  have one : ∀ k, k < w.heap.size + 1 + 1 + 1 + 1 → k ≠ w.heap.size → W2.heap[k]? = W.heap[k]? := fun k h1 h2 => hk.block k (by show k < W.heap.size; omega) h2
  refine ⟨⟨by omega, fun k o hk1 hk2' ho => ?_⟩, (two _ (by omega) (by omega)).trans (one _ (by omega) (by omega)), ?_⟩
  · have hlt : k < W.heap.size := (Array.getElem?_eq_some_iff.1 hk2').1
    exact hko.same k o ((hk.block k hlt (by omega)).trans hk2') ho
  · refine ⟨?_, ((two _ (by omega) (by omega)).trans (one _ (by omega) (by omega))).trans hJ.box, ?_, ?_, by omega⟩
    · rw [tankLs_snoc]
      exact (two _ (by omega) (by omega)).trans hd
    · rw [runLs_snoc]; exact hb
    · have h1 : Below w.heap.size W.drew W2 := hk.below (by show w.heap.size ≤ W.heap.size; omega) (fun k h => by omega)
      have h2 : Below w.heap.size W2 W3 := hk2.below (by omega) (fun k h => by omega)
      obtain ⟨a1, a2, a3, a4, a5⟩ := h1
      exact (hJ.bel.trans ⟨a1, a2, a3, a4, a5⟩).trans h2
theorem builder_for {W : World} {b Bx : Nat} {l : List UInt8} (h : BuildX W b Bx l) (hb : b < Bx) : Lib.IsBuilderF 39 5 b b (Lib.byteCells l) W := by
  obtain ⟨p, v, hp, hh, ho⟩ := h
  have ho2 : W.ownsRowF b 5 1 v (Lib.byteCells l).length (Lib.byteCells l) := by
    rw [Lib.byteCells_length]
    refine ⟨ho.1, ?_⟩
    rcases ho.2 with h0 | ⟨g, cap, cur, fz, hv, hb, r⟩
    · exact .inl h0
    · exact .inr ⟨g, cap, cur, fz, hv, by omega, r⟩
  have hne : v.ownBlock ≠ some b := fun e => by have := (rowF_lt ho b e).1; omega
  rcases hp with rfl | rfl
  · exact .inl ⟨Nat.le_refl _, v, hh, ho2, hne⟩
  · exact .inr ⟨Nat.le_refl _, v, hh, ho2, hne⟩
attribute [local go_sem] Oper.semAt_some
set_option maxHeartbeats 4000000 in
set_option maxRecDepth 100000 in
theorem run_short (s : ByteArray) (w : World) (hg : RunG w) (hs : s.size ≤ 3000) : Calls Tryz.prog 6 #[.string s] w fun e w' => e = .returned (.string (strL (Pr.runL s.data.toList))) ∧ Below w.heap.size w w' := by
  have hs' : ¬ (3000 : Int) < (s.size : Int) := by omega
  obtain ⟨t, ht⟩ : ∃ t, t = s.data.toList := ⟨_, rfl⟩
  have HST : Hid (s = strL t) := Lib.hid (by rw [ht, strL_data])
  have htl : t.length ≤ 3000 := by rw [ht, ← Lib.size_eq]; exact hs
  have HRL : Hid (Pr.runL t = Pr.runLs Pr.tank0 (Pr.linesL t)) := Lib.hid (by unfold Pr.runL; rw [if_neg (by omega)])
  have HG := Lib.hid hg
  rw [← ht]
  clear ht
  refine (callsIn_wide (n := 9)).1 ?_
  refine callsIn_of_wp_marks Tryz.func6 rfl trivial ?_ rfl
  refine wpIn_wide.2 ?_
  simp only [Tryz.ntmps6, List.size_toArray, List.length_cons, List.length_nil, Nat.reduceAdd, Nat.reduceSub, Array.replicate_succ, Array.replicate_zero, List.push_toArray, List.append_toArray, List.nil_append, List.cons_append]
  go_wp2_with ((go_at_call 10; refine (lines_any s _).mono ?_; rintro e w' ⟨rfl, rfl⟩))
  obtain ⟨W0, hW0⟩ : ∃ W0, W0 = ((((w.alloc (.cells #[.int .i64 100, .int .i64 20, .int .i64 100] 35)).alloc (.cells #[.pointer (some ⟨w.heap.size, 0, none⟩)] 33)).alloc (.cells #[.pointer none, .slice none 0 0] 39)).alloc (.cells #[.string s] 9)) := ⟨_, rfl⟩
  rw [← hW0]
  have hsz : W0.heap.size = w.heap.size + 1 + 1 + 1 + 1 := by rw [hW0]; simp
  have hJ0 : RunJ w [] W0 := by
    rw [hW0]
    refine ⟨?_, ?_, ⟨_, _, .inl rfl, ?_, rfl, .inl ⟨rfl, rfl⟩⟩, (((below_alloc0 w _).alloc (by simp) _).alloc (by simp; omega) _).alloc (by simp; omega) _, by simp⟩
    · unfold DeskAt
      rw [Below.heap_alloc _ _ _ (by simp; omega), Below.heap_alloc _ _ _ (by simp; omega), Below.heap_alloc _ _ _ (by simp)]
      exact heap_alloc_new w _
    · rw [Below.heap_alloc _ _ _ (by simp only [World.size_alloc]; omega), Below.heap_alloc _ _ _ (by simp)]
      have := heap_alloc_new (w.alloc (.cells #[.int .i64 100, .int .i64 20, .int .i64 100] 35)) (.cells #[.pointer (some ⟨w.heap.size, 0, none⟩)] 33)
      rwa [World.size_alloc] at this
    · rw [Below.heap_alloc _ _ _ (by simp)]
      have := heap_alloc_new ((w.alloc (.cells #[.int .i64 100, .int .i64 20, .int .i64 100] 35)).alloc (.cells #[.pointer (some ⟨w.heap.size, 0, none⟩)] 33)) (.cells #[.pointer none, .slice none 0 0] 39)
      rwa [World.size_alloc, World.size_alloc] at this
  have hB0 : W0.heap[w.heap.size + 1 + 1 + 1]? = some (.cells #[.string (strL t)] 9 (0, 0)) := by
    rw [hW0, HST.out]
    have := heap_alloc_new (((w.alloc (.cells #[.int .i64 100, .int .i64 20, .int .i64 100] 35)).alloc (.cells #[.pointer (some ⟨w.heap.size, 0, none⟩)] 33)).alloc (.cells #[.pointer none, .slice none 0 0] 39)) (.cells #[.string (strL t)] 9)
    rwa [World.size_alloc, World.size_alloc, World.size_alloc] at this
  clear hW0 hg
  refine (wpIn_wide (n := 9)).1 ?_
  refine range_lines (w.heap.size + 1 + 1 + 1) t htl rfl hB0 rfl (fun pre W => RunJ w (pre.map (lineX t)) W)
    (fun pre A B row h hg hr => h.own w _ hg (fun r e => by rw [← hsz]; exact hr r e)) (fun _ _ q h => h.drewN q) (fun _ _ v h => h.store v) hJ0
    (fun x => { tmps := #[.string s, undef, .string ⟨#[]⟩, .pointer (some ⟨w.heap.size + 1, 0, none⟩), .pointer (some ⟨w.heap.size + 1 + 1, 0, none⟩), .string (strL ((Pr.rawL t).getD x.1 [])), .string s, .int .i64 s.size, .bool false, .agg #[.int .i64 100, .int .i64 20, .int .i64 100], .agg #[.int .i64 100, .int .i64 20, .int .i64 100], .pointer (some ⟨w.heap.size, 0, none⟩), .string s, .func (.func 29) #[] #[.pointer (some ⟨w.heap.size + 1 + 1 + 1, 0, none⟩)], .string (strL ((Pr.rawL t).getD x.1 [])), undef, undef, undef, undef, undef, undef, undef], defers := [] }) ?assign ?body ?done
  case assign =>
    intro r x W K hK
    obtain ⟨p, hp⟩ : ∃ p, p = (Pr.rawL t).getD x.1 [] := ⟨_, rfl⟩
    rw [← hp] at hK ⊢
    clear hp
    gi_wp2
    exact hK
  case body =>
    intro r pre x W hJ hlen
    have hrl := Pr.rawL_len t
    have hpl := rawL_getD_len t x.1
    have hxl : Pr.trimL ((Pr.rawL t).getD x.1 []) = lineX t x := rfl
    have htrim := trimL_len ((Pr.rawL t).getD x.1 [])
    rw [hxl] at htrim
    obtain ⟨l, hl⟩ : ∃ l, l = pre.map (lineX t) := ⟨_, rfl⟩
    have hll : l.length = pre.length := by rw [hl]; simp
    rw [List.map_append, ← hl, show [x].map (lineX t) = [lineX t x] from rfl]
    rw [← hl] at hJ
    obtain ⟨p, hp⟩ : ∃ p, p = (Pr.rawL t).getD x.1 [] := ⟨_, rfl⟩
    rw [← hp] at hpl hxl htrim ⊢
    obtain ⟨q, hq⟩ : ∃ q, q = lineX t x := ⟨_, rfl⟩
    rw [← hq] at hxl htrim ⊢
    have hTS : Calls Tryz.prog 13 #[.string (strL p), .string ⟨#[10]⟩] W.drew fun e w' => e = .returned (.string (strL q)) ∧ w' = W.drew := by
      have h := Tryz.strings_TrimSuffix (strL p) ⟨#[10]⟩ W.drew (by rw [strL_size]; omega)
      rwa [show (strL p).data.toList = p from by simp [strL], show (⟨#[10]⟩ : ByteArray).data.toList = [10] from rfl, Pr.trim_suffix, hxl] at h
    have hok := tankLs_ok l Pr.tank0 tank0_ok
    have htx := runLs_short l Pr.tank0 tank0_ok
    have hlx := Pr.line_short (Pr.tankLs Pr.tank0 l) q hok
    have hgw : RunG W.drew := HG.out.below (by obtain ⟨a1, a2, a3, a4, a5⟩ := hJ.bel; exact ⟨a1, a2, a3, a4, a5⟩)
    have hAN := answer_any w.heap.size (Pr.tankLs Pr.tank0 l) (strL q) W.drew hgw hJ.desk HG.out.size hok (by rw [strL_size]; omega)
    rw [show (strL q).data.toList = q from by simp [strL]] at hAN
    obtain ⟨A, hA⟩ : ∃ A, A = (Pr.lineL (Pr.tankLs Pr.tank0 l) q).1 := ⟨_, rfl⟩
    unfold AnsP at hAN
    rw [← hA] at hAN hlx
    have hcat : strL A ++ ⟨#[10]⟩ = strL (A ++ [10]) := strL_append A [10]
    have hcd : (strL (A ++ [10])).data.toList = A ++ [10] := by simp [strL]
    have hcz : (strL (A ++ [10])).size = A.length + 1 := by rw [strL_size]; simp
    have hAz : (strL A).size ≤ 9223372036854775806 := by rw [strL_size]; omega
    obtain ⟨S, hS⟩ : ∃ S, S = strL (A ++ [10]) := ⟨_, rfl⟩
    rw [← hS] at hcat hcd hcz
    have HFIN : Hid (∀ W2 W3, DeskAt W2 w.heap.size (Pr.lineL (Pr.tankLs Pr.tank0 l) q).2 → KeptBut (fun k => k = w.heap.size) W.drew W2 →
        BuildX W3 (w.heap.size + 1 + 1) (w.heap.size + 1 + 1 + 1 + 1) (Pr.runLs Pr.tank0 l ++ S.data.toList) → KeptBut (fun k => k = w.heap.size + 1 + 1 ∨ w.heap.size + 1 + 1 + 1 + 1 ≤ k) W2 W3 → KeepsOthers W2 W3 → GoesOn W0.heap.size (w.heap.size + 1 + 1 + 1) (RunJ w (l ++ [q])) W .normal W3) := Lib.hid fun W2 W3 h1 h2 h3 h4 h5 => by
      obtain ⟨e1, e2, e3⟩ := round_end w W W2 W3 W0.heap.size hsz l q hJ h1 h2 (by rw [hcd, hA] at h3; exact h3) h4 h5
      exact ⟨rfl, e1, e2, e3⟩
    have HWR : Hid (∀ W2, KeptBut (fun k => k = w.heap.size) W.drew W2 → Calls Tryz.prog 11 #[.pointer (some ⟨w.heap.size + 1 + 1, 0, none⟩), .string S] W2 fun e w' => e = .returned (.tuple #[.int .i64 S.size, .nilIface]) ∧ BuildX w' (w.heap.size + 1 + 1) (w.heap.size + 1 + 1 + 1 + 1) (Pr.runLs Pr.tank0 l ++ S.data.toList) ∧ KeptBut (fun k => k = w.heap.size + 1 + 1 ∨ w.heap.size + 1 + 1 + 1 + 1 ≤ k) W2 w' ∧ KeepsOthers W2 w') := Lib.hid fun W2 h2 => by
      have hs2 : W.heap.size ≤ W2.heap.size := h2.size
      have hs0 := hJ.sz
      refine writeS_any (w.heap.size + 1 + 1) (w.heap.size + 1 + 1 + 1 + 1) (Pr.runLs Pr.tank0 l) S W2 ?_ (by omega) (by omega) (by omega)
      obtain ⟨p1, v1, hp1, hb1, ho1⟩ := hJ.bld
      refine ⟨p1, v1, hp1, (h2.block _ (by show _ < W.heap.size; omega) (by omega)).trans hb1, rowF_kept ho1 fun k hk => h2.block k (rowF_lt ho1 k hk).2 (by have := (rowF_lt ho1 k hk).1; omega)⟩
    have hc1 : W.cell? ⟨w.heap.size + 1, 0, none⟩ = some (.pointer (some ⟨w.heap.size, 0, none⟩)) := cell_of_row W _ 0 _ _ (0, 0) hJ.box
    have HTS := Lib.hid hTS
    have HAN := Lib.hid hAN
    have HC := Lib.hid hc1
    have HCAT := Lib.hid hcat
    clear hTS hAN hcat hcd hcz hS hA hlx htx hok hgw hq hp hl hll hJ hpl hxl htrim hrl hB0 hJ0 hlen
    gi_wp2_with fail
    refine region_inR_till (fun L w' => w'.cell? ⟨w.heap.size + 1, 0, none⟩ = some (.pointer (some ⟨w.heap.size, 0, none⟩)) ∨ L.getD 3 false = true) (by kernel_rfl) (by kernel_rfl) (fun _ _ h => by have := h.1; cases this) ?_
    refine wpTill_take (d := 3) (i := 0) (v := .pointer (some ⟨w.heap.size, 0, none⟩)) (S := fun w' => w'.cell? ⟨w.heap.size + 1, 0, none⟩ = some (.pointer (some ⟨w.heap.size, 0, none⟩))) rfl (by kernel_rfl) (by kernel_rfl) (by kernel_rfl) (by kernel_rfl) (fun _ _ _ h => h) (fun L w' hd hc => hc.resolve_right (by rw [hd]; simp)) (fun L w' hc => hc.imp id (fun h => by rwa [getD_set_ne false (by decide)] at h)) (.inl hc1) (Or.inl ⟨by rfl, fun w hSw => by go_simp⟩) ?_
    try simp only [Act.put, List.getElem_toArray, List.getElem_cons_zero, List.setIfInBounds_toArray, List.set_cons_zero, List.set_cons_succ]
    refine wpTill_take (d := 2) (i := 1) (v := .string (strL p)) (S := fun _ => True) rfl (by kernel_rfl) (by kernel_rfl) (by kernel_rfl) (by kernel_rfl) (fun _ _ _ h => h) (fun _ _ _ _ => trivial) (fun L w' hc => hc.imp id (fun h => by rwa [getD_set_ne false (by decide)] at h)) (.inl hc1) (Or.inl ⟨by rfl, fun w _ => by go_simp⟩) ?_
    try simp only [Act.put, List.getElem_toArray, List.getElem_cons_zero, List.getElem_cons_succ, List.setIfInBounds_toArray, List.set_cons_zero, List.set_cons_succ]
    refine wpTill_ready (rs := [2]) (by kernel_rfl) (by simp) ?_
    refine TillAll.cons rfl (fun K hK => ?_) TillAll.nil
    go_simp
    refine HTS.out.mono ?_
    rintro e w1 ⟨rfl, rfl⟩
    dsimp only
    refine hK.out _ _ (.inl hc1) ?_
    try simp only [Act.put, List.getElem_toArray, List.getElem_cons_zero, List.getElem_cons_succ, List.setIfInBounds_toArray, List.set_cons_zero, List.set_cons_succ]
    clear hK K
    refine wpTill_ready (rs := [3]) (by kernel_rfl) (by simp) ?_
    refine TillAll.cons rfl (fun K hK => ?_) TillAll.nil
    go_simp
    refine HAN.out.mono ?_
    rintro e W2 ⟨rfl, hd2, hk2⟩
    have HD2 := Lib.hid hd2
    have HK2 := Lib.hid hk2
    clear hd2 hk2
    dsimp only
    refine hK.out _ _ (.inr (by rfl)) ?_
    try simp only [Act.put, List.getElem_toArray, List.getElem_cons_zero, List.getElem_cons_succ, List.setIfInBounds_toArray, List.set_cons_zero, List.set_cons_succ]
    clear hK K
    refine wpTill_take (d := 5) (i := 4) (v := .string (strL A ++ ⟨#[10]⟩)) (S := fun _ => True) rfl (by kernel_rfl) (by kernel_rfl) (by kernel_rfl) (by kernel_rfl) (fun _ _ _ h => h) (fun _ _ _ _ => trivial) (fun L w' hc => hc.imp id (fun h => by rwa [getD_set_ne false (by decide)] at h)) (.inr (by rfl)) (Or.inl ⟨by rfl, fun w _ => by go_simp⟩) ?_
    rw [HCAT.out]
    try simp only [Act.put, List.getElem_toArray, List.getElem_cons_zero, List.getElem_cons_succ, List.setIfInBounds_toArray, List.set_cons_zero, List.set_cons_succ]
    refine wpTill_ready (rs := [5]) (by kernel_rfl) (by simp) ?_
    refine TillAll.cons rfl (fun K hK => ?_) TillAll.nil
    go_simp
    refine (HWR.out _ HK2.out).mono ?_
    rintro e W3 ⟨rfl, hb3, hk3, ho3⟩
    dsimp only
    refine hK.out _ _ (.inr (by rfl)) ?_
    clear hK K
    refine wpTill_done (by kernel_rfl) ?_ _
    exact HFIN.out W2 W3 HD2.out HK2.out hb3 hk3 ho3
  case done =>
    intro D W hD hJ hK
    rw [show (List.finRange (Pr.rawL t).length).map (lineX t) = Pr.linesL t from lines_fin t] at hJ
    have hbf := builder_for hJ.bld (by omega)
    rw [← HRL.out] at hbf
    have hsz1 := hJ.sz
    have HS := Lib.hid (Tryz.Builder_String_any_k (w.heap.size + 1 + 1) (w.heap.size + 1 + 1) (Pr.runL t) W hbf (by omega))
    have HJB := Lib.hid hJ.bel
    have HKD := Lib.hid hK
    clear hJ hbf hK hB0 hJ0
    go_wp2_with fail
    refine HS.out.mono ?_
    rintro e w5 ⟨rfl, _, hb5, hok5⟩
    have HM : Hid (Marked w.heap.size w5 [{ target := .collected D, args := #[] }]) := Lib.hid ⟨D, rfl, by omega, hok5 D _ HKD.out (by simp; omega) (by intro c fz h; cases h), fun r' hr => (by cases hr), trivial⟩
    have HB5 : Hid (Below w.heap.size w w5) := Lib.hid (HJB.out.trans (hb5.mono (by omega)))
    clear hb5 hok5
    go_wp2_with fail
    refine leaves_marked HB5.out.size HM.out fun w' hk => ?_
    exact ⟨_, results_tmp rfl _ _ _, rfl, HB5.out.trans hk.1⟩
theorem run_any (s : ByteArray) (w : World) (hg : RunG w) : Calls Tryz.prog 6 #[.string s] w fun e w' => e = .returned (.string (strL (Pr.runL s.data.toList))) ∧ Below w.heap.size w w' := by
  rcases Nat.lt_or_ge 3000 s.size with h | h
  · exact run_long s w h
  · exact run_short s w hg h
end Go.Proofs.YtjdpgakkphdjlaaGreatDoor
