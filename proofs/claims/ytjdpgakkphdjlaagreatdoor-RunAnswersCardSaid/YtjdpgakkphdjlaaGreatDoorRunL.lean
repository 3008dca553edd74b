/- Walks of a session (chapter 20): a line (desk.line). -/
import Derived.Test.YtjdpgakkphdjlaaGreatDoorRunD
import Derived.Test.YtjdpgakkphdjlaaGreatDoorNear
import Derived.Test.YtjdpgakkphdjlaaGreatDoorPulse
import Derived.Deep.QuietTactic
import Derived.Deep.RegionHeld3
import Derived.Deep.DeepCutAuto
import Derived.Deep.CutBlock
import Derived.Deep.Cut
namespace Go.Proofs.YtjdpgakkphdjlaaGreatDoor
open Go.RowKit

theorem cutL_mem (c : UInt8) (l : List UInt8) {p : List UInt8} (h : p ∈ Pr.cutL c l) : p.length ≤ l.length := by
  have hs := Pr.cutL_sum c l
  have key : ∀ (xs : List (List UInt8)), p ∈ xs → p.length + 1 ≤ (xs.map fun p => p.length + 1).sum := by
    intro xs
    induction xs with
    | nil => intro h; cases h
    | cons x xs ih =>
      intro h
      rw [List.map_cons, List.sum_cons]
      rcases List.mem_cons.1 h with rfl | h
      · omega
      · have := ih h; omega
  have := key _ h
  omega
theorem RdS.tail {w : World} {B N b o c : Nat} {ws : List ByteArray} (h : RdS w B (some ⟨b, o, none⟩) N ws) (h1 : 1 ≤ N) (hc : N ≤ c) : RdS w B (if c = 1 then some ⟨b, o, none⟩ else some ⟨b, o + 1, none⟩) (N - 1) ws.tail := by
  have hl := h.len
  refine ⟨by unfold svals; rw [List.length_map, List.length_tail]; omega, fun hn => ?_⟩
  rw [if_neg (by omega)]
  obtain ⟨b', o', e, hb, hcell⟩ := h.2 (by omega)
  simp at e
  obtain ⟨rfl, rfl⟩ := e
  refine ⟨b, o + 1, rfl, hb, fun j hj => ?_⟩
  have := hcell (j + 1) (by omega)
  rw [show o + 1 + j = o + (j + 1) by omega, this]
  cases ws with
  | nil => rfl
  | cons x ws => rfl
theorem bytesL_tail (ws : List ByteArray) : bytesL ws.tail = (bytesL ws).tail := by cases ws <;> rfl
/-- What a line tells: that it cannot be read; or what is wrong, or a text; the tank then. -/
def LineP (X : Nat) (t : Ph.Tank) (l : List UInt8) (w : World) (e : Ending) (w' : World) : Prop :=
  ∃ t', DeskAt w' X t' ∧ KeptBut (fun k => k = X) w w' ∧ (Pr.lineL t l).2 = t' ∧
    (((Pr.lineL t l).1 = Pr.badW ∧ e = .returned (.tuple #[.string ⟨#[]⟩, .iface 68 (.agg #[.iface 69 (.int .i64 2)])])) ∨
     ∃ E q, e = .returned (.tuple #[.string q, errV E]) ∧ (Pr.lineL t l).1 = (if E = 0 then q.data.toList else Pr.nameL E) ∧ (E = 0 ∨ E = 1 ∨ E = 4 ∨ E = 5 ∨ E = 8))
theorem line_bad {t : Ph.Tank} {l : List UInt8} {x : Pr.Want} {is ok : Bool} (hx : x = wantX ((Pr.cutL 32 l).headD [])) (his : is = (Pr.wantOf ((Pr.cutL 32 l).headD [])).isSome) (hok : ok = argsOk x (Pr.cutL 32 l).tail) (h : is = false ∨ ok = false) : Pr.lineL t l = (Pr.badW, t) := by
  unfold Pr.lineL
  unfold wantX at hx
  cases hw : Pr.wantOf ((Pr.cutL 32 l).headD []) with
  | none => rfl
  | some y =>
    rw [hw] at his hx
    have hxy : x = y := hx
    subst hxy
    have hok2 : ok = false := by
      rcases h with h | h
      · rw [his] at h; cases h
      · exact h
    simp only
    unfold argsOk at hok
    cases ha : Pr.argsL x.below 0 (Pr.cutL 32 l).tail with
    | none => rfl
    | some ns =>
      rw [ha] at hok
      have hok3 : ok = Pr.okArgs x ns := hok
      simp only
      rw [if_neg (by rw [← hok3, hok2]; decide)]
theorem line_good {t : Ph.Tank} {l : List UInt8} {x : Pr.Want} {w0 : List UInt8} {ns : List Int} (h0 : w0 = (Pr.cutL 32 l).headD []) (hw : Pr.wantOf w0 = some x) (ha : Pr.argsL x.below 0 (Pr.cutL 32 l).tail = some ns) (hok : Pr.okArgs x ns = true) :
    Pr.lineL t l = (Pr.ansL (Pr.doL w0 t ns).1 (Pr.doL w0 t ns).2.1, (Pr.doL w0 t ns).2.2) := by
  unfold Pr.lineL
  rw [← h0, hw]
  simp only
  rw [ha]
  simp only
  rw [if_pos hok]
theorem want_cases {w0 : List UInt8} (h : (Pr.wantOf w0).isSome = true) : (w0 = Pr.wCount ∧ wantX w0 = ⟨2, false, 99⟩) ∨ (w0 = Pr.wRank ∧ wantX w0 = ⟨1, true, 0⟩) ∨ (w0 = Pr.wRow ∧ wantX w0 = ⟨3, false, 99⟩) ∨ (w0 = Pr.wNear ∧ wantX w0 = ⟨2, true, 1⟩) ∨ (w0 = Pr.wGain ∧ wantX w0 = ⟨1, false, 99⟩) ∨ (w0 = Pr.wTurn ∧ wantX w0 = ⟨1, false, 99⟩) ∨ (w0 = Pr.wMay ∧ wantX w0 = ⟨0, false, 99⟩) := by
  by_cases h1 : w0 = Pr.wCount
  · exact .inl ⟨h1, by rw [h1]; rfl⟩
  by_cases h2 : w0 = Pr.wRank
  · exact .inr (.inl ⟨h2, by rw [h2]; rfl⟩)
  by_cases h3 : w0 = Pr.wRow
  · exact .inr (.inr (.inl ⟨h3, by rw [h3]; rfl⟩))
  by_cases h4 : w0 = Pr.wNear
  · exact .inr (.inr (.inr (.inl ⟨h4, by rw [h4]; rfl⟩)))
  by_cases h5 : w0 = Pr.wGain
  · exact .inr (.inr (.inr (.inr (.inl ⟨h5, by rw [h5]; rfl⟩))))
  by_cases h6 : w0 = Pr.wTurn
  · exact .inr (.inr (.inr (.inr (.inr (.inl ⟨h6, by rw [h6]; rfl⟩)))))
  by_cases h7 : w0 = Pr.wMay
  · exact .inr (.inr (.inr (.inr (.inr (.inr ⟨h7, by rw [h7]; rfl⟩)))))
  · unfold Pr.wantOf at h
    rw [if_neg h1, if_neg h2, if_neg h3, if_neg h4, if_neg h5, if_neg h6, if_neg h7] at h
    cases h
theorem strl_toList (l : List UInt8) : (strL l).toList = l := by rw [ByteArray.toList_eq]; unfold strL; simp
theorem word_ne {q : ByteArray} {l m : List UInt8} (hq : q = strL l) (h : (l == m) = false) : (q.toList == m) = false := by rw [hq, strl_toList]; exact h
theorem word_eq {q : ByteArray} {l m : List UInt8} (hq : q = strL l) (h : (l == m) = true) : (q.toList == m) = true := by rw [hq, strl_toList]; exact h
theorem far_mem : ∀ {l : List Int} {x : Int}, x ∈ l → Ph.far x ≤ Ph.loud l
  | y :: l, x, h => by
    have h2 := Ph.loud_nonneg l
    show Ph.far x ≤ Ph.far y + Ph.loud l
    rcases List.mem_cons.1 h with rfl | h
    · omega
    · have := far_mem h
      have : 0 ≤ Ph.far y := by unfold Ph.far; split <;> omega
      omega
theorem loud_small {l : List Int} (h : Ph.loudN l ≤ 1000000) : ∀ y ∈ l, -9223372036854775808 ≤ y ∧ y ≤ 9223372036854775807 := fun y hy => by
  have h1 := far_mem hy
  have h2 := Ph.loudN_int l
  unfold Ph.far at h1
  split at h1 <;> omega
theorem len_two {ns : List Int} (h : ns.length = 2) : ∃ a b, ns = [a, b] := by
  match ns, h with
  | [a, b], _ => exact ⟨a, b, rfl⟩
theorem len_three {ns : List Int} (h : ns.length = 3) : ∃ a b c, ns = [a, b, c] := by
  match ns, h with
  | [a, b, c], _ => exact ⟨a, b, c, rfl⟩
theorem len_one {ns : List Int} (h : ns.length = 1) : ∃ a, ns = [a] := by
  match ns, h with
  | [a], _ => exact ⟨a, rfl⟩
theorem some_size {w : World} {k : Nat} {o : Obj} (h : w.heap[k]? = some o) : k < w.heap.size := (Array.getElem?_eq_some_iff.1 h).1
theorem RdS.at0 {w : World} {B n : Nat} {A : Option Addr} {ws : List ByteArray} (h : RdS w B A n ws) (hn : 0 < n) : ∃ b off, A = some ⟨b, off, none⟩ ∧ b < B ∧ w.cell? ⟨b, off, none⟩ = some (.string (ws.getD 0 ByteArray.empty)) := by
  obtain ⟨b, o, h1, h2, h3⟩ := h.at_ hn
  exact ⟨b, o, h1, h2, by simpa using h3⟩
set_option maxHeartbeats 8000000 in
set_option maxRecDepth 1000000 in
theorem line_any (X : Nat) (t : Ph.Tank) (s : ByteArray) (w : World) (hg : RunG w) (hX : DeskAt w X t) (hXg : gB ≤ X) (ht : TankOk t) (hs : s.size ≤ 3000) :
    Calls Tryz.prog 32 #[.pointer (some ⟨X, 0, none⟩), .string s] w (LineP X t s.data.toList w) := by
  have HSP := Lib.hid (split_any s 32 w (by omega))
  have HG := Lib.hid hg
  have HX := Lib.hid hX
  have hcl := Pr.cutL_len 32 s.data.toList
  have hss : s.data.toList.length = s.size := (Lib.size_eq s).symm
  have hcn := Pr.cutL_ne 32 s.data.toList
  obtain ⟨l, hl⟩ : ∃ l, l = Pr.cutL 32 s.data.toList := ⟨_, rfl⟩
  rw [← hl] at HSP hcl hcn
  have hl0 : 0 < l.length := List.length_pos_iff.2 hcn
  have HLN : Hid (l.length ≤ 3001) := Lib.hid (by omega)
  clear hg hX hcl hcn hss
  go_enter Tryz.func32, Tryz.ntmps32
  go_wp2_with fail
  refine HSP.out.mono ?_
  rintro e w1 ⟨A, c, ws, rfl, hr, hws, hlc, hb1⟩
  have HB1 := Lib.hid hb1
  have HR1 := Lib.hid hr
  obtain ⟨b8, o8, rfl, hb8, d8⟩ := hr.at0 hl0
  obtain ⟨s0, hs0⟩ : ∃ s0, s0 = ws.getD 0 ByteArray.empty := ⟨_, rfl⟩
  rw [← hs0] at d8
  have hmem : ∀ y ∈ ws, y.size ≤ 100000 := fun y hy => by
    have h1 : y.data.toList ∈ l := by rw [← hws]; exact List.mem_map.2 ⟨y, hy, rfl⟩
    rw [hl] at h1
    have h2 := cutL_mem 32 _ h1
    rw [← Lib.size_eq, ← Lib.size_eq] at h2
    omega
  have hs0l : s0.size ≤ 100000 := hmem _ (by
    have := hr.len
    rw [hs0, List.getD_eq_getElem?_getD, List.getElem?_eq_getElem (by omega)]; exact List.getElem_mem (by omega))
  have HMEM : Hid (∀ y ∈ ws.tail, y.size ≤ 100000) := Lib.hid fun y hy => hmem y (List.mem_of_mem_tail hy)
  have HHD : Hid (l.headD [] = s0.data.toList) := Lib.hid (by rw [hs0, ← hws]; cases ws <;> rfl)
  obtain ⟨x, hx⟩ : ∃ x, x = wantX s0.data.toList := ⟨_, rfl⟩
  obtain ⟨is, his⟩ : ∃ is, is = (Pr.wantOf s0.data.toList).isSome := ⟨_, rfl⟩
  obtain ⟨N, hN⟩ : ∃ N, N = l.length := ⟨_, rfl⟩
  rw [← hN] at hl0 hlc
  have hl0' : (0 : Int) < (N : Int) := by omega
  have HIX : Hid (x = wantX s0.data.toList ∧ is = (Pr.wantOf s0.data.toList).isSome) := Lib.hid ⟨hx, his⟩
  have HLK : Hid (∀ W b, W.ownsMap Tryz.prog 9 wantR b 7 wantsD → (Instr.lookup 83 (.map (some b)) (.string s0) true).run Tryz.prog W = .ok (.tuple #[wantV x, .bool is]) W) := Lib.hid fun W b h => by rw [hx, his]; exact wants_look W b s0 hs0l h
  obtain ⟨m, hm⟩ : ∃ m, m = x.many := ⟨_, rfl⟩
  unfold wantV at HLK
  have HD8 := Lib.hid d8
  have HD8' := Lib.hid d8
  have HWS := Lib.hid hws
  have HLC := Lib.hid hlc
  have HB8 := Lib.hid hb8
  rw [← hN]
  have HN := Lib.hid hN
  clear hr hb1 HSP hs0 hs0l hmem hx his hm hN d8 hws hlc hb8
  go_upto_region 2 with (fail)
  have d8 := HD8.out
  go_cut [7, 8] (fun s7 s8 wx => ∃ K, s7 = .pointer (some ⟨K, 0, none⟩) ∧ s8 = .bool is ∧ Hid (wx.heap[K]? = some (.cells #[.int .i64 (x.many : Nat), .bool x.more, .int .i64 (x.below : Nat)] 81 (0, 0))) ∧ Hid (Below w1.heap.size w1 wx))
  case first =>
    as_aux_lemma =>
      have HALF : Hid (∀ w2, Below (w1.alloc (.cells #[.int .i64 0, .bool false, .int .i64 0] 81)).drew.heap.size (w1.alloc (.cells #[.int .i64 0, .bool false, .int .i64 0] 81)).drew w2 → w2.heap[w1.heap.size]? = some (.cells #[.int .i64 0, .bool false, .int .i64 0] 81 (0, 0)) ∧ w2.cell? ⟨b8, o8, none⟩ = some (.string s0) ∧ Below w1.heap.size w1 w2 ∧ b8 < w2.heap.size) := Lib.hid fun w2 hb2 => by
        have hb : Below (w1.alloc (.cells #[.int .i64 0, .bool false, .int .i64 0] 81)).heap.size (w1.alloc (.cells #[.int .i64 0, .bool false, .int .i64 0] 81)) w2 := ⟨hb2.os, hb2.tape, hb2.output, hb2.size, hb2.block⟩
        have h8 := HB8.out
        have hsz := hb.size
        rw [World.size_alloc] at hsz
        exact ⟨(hb.block w1.heap.size (by rw [World.size_alloc]; omega)).trans (heap_alloc_new w1 _), (hb.cell (p := ⟨b8, o8, none⟩) (by rw [World.size_alloc]; show b8 < _; omega)).trans ((World.cell?_alloc_lt _ _ ⟨b8, o8, none⟩ HB8.out).trans HD8.out), below_on (below_alloc0 w1 _) hb, by omega⟩
      go_region_held3 (fun w' => w'.cell? ⟨b8, o8, none⟩ = some (.string s0)) (first | go_keep | exact KC.out | exact (World.cell?_alloc_lt _ _ ⟨b8, o8, none⟩ KB.out).trans KC.out | exact (World.cell?_of_block ((KeptBut.set3 _ w1.heap.size _ _ _).block b8 KB.out (Nat.ne_of_lt HB8.out))).trans KC.out | fail) (first
        | (go_at_call 42; refine (wants_any w1.drew).mono ?_; rintro e w2 ⟨bm, rfl, hown, hbm, hb2⟩; have KB : Hid (b8 < w2.heap.size) := Lib.hid (Nat.lt_of_lt_of_le HB8.out hb2.size); have KC : Hid (w2.cell? ⟨b8, o8, none⟩ = some (.string s0)) := Lib.hid ((hb2.cell (p := ⟨b8, o8, none⟩) HB8.out).trans HD8.out); have HW2 : Hid (Below w1.heap.size w1 w2) := Lib.hid ⟨hb2.os, hb2.tape, hb2.output, hb2.size, hb2.block⟩; have hlk := HLK.out w2 bm hown; have hlk2 := fun o => HLK.out _ bm (hown.alloc o))
        | (go_at_call 42; refine (wants_any (w1.alloc (.cells #[.int .i64 0, .bool false, .int .i64 0] 81)).drew).mono ?_; rintro e w2 ⟨bm, rfl, hown, hbm, hb2⟩; obtain ⟨h2a, h2b, h2c, h2d⟩ := HALF.out w2 hb2; have HK2 := Lib.hid h2a; have KC := Lib.hid h2b; have HW2 := Lib.hid h2c; have KB := Lib.hid h2d; have q0 := cell_of_row w2 w1.heap.size 0 _ _ (0, 0) HK2.out; have q1 := cell_of_row w2 w1.heap.size 1 _ _ (0, 0) HK2.out; have q2 := cell_of_row w2 w1.heap.size 2 _ _ (0, 0) HK2.out; have f0 := frozen_of_row w2 w1.heap.size 0 _ _ HK2.out; have f1 := frozen_of_row w2 w1.heap.size 1 _ _ HK2.out; have f2 := frozen_of_row w2 w1.heap.size 2 _ _ HK2.out; have hKl : w1.heap.size < w2.heap.size := some_size HK2.out; have hlk := HLK.out w2 bm hown; clear h2a h2b h2c h2d)
        | fail)
      all_goals
        go_wp2_with fail
        go_meet
      case rel => exact ⟨_, rfl, rfl, Lib.hid (heap_alloc_new _ _), Lib.hid (below_onAlloc HW2.out _)⟩
      case rel => exact ⟨_, rfl, rfl, Lib.hid (heap_alloc_new _ _), Lib.hid (below_onAlloc HW2.out _)⟩
      case rel => exact ⟨_, rfl, rfl, Lib.hid (by rw [heap_setCell_same _ w1.heap.size 2 _ _ _ (heap_setCell_same _ w1.heap.size 1 _ _ _ (heap_setCell_same _ w1.heap.size 0 _ _ _ HK2.out))]; rfl), Lib.hid (HW2.out.trans ((KeptBut.set3 _ w1.heap.size _ _ _).below HW2.out.size fun q hq => by subst hq; exact Nat.le_refl _))⟩
  case rest =>
    obtain ⟨K, rfl, rfl, HK, HBX⟩ := hcut
    rename World => wx
    have HBW := Lib.hid (below_on HB1.out HBX.out)
    have HWX := Lib.hid (HR1.out.on HBX.out)
    have k0 := cell_of_row wx K 0 _ _ (0, 0) HK.out
    have k1 := cell_of_row wx K 1 _ _ (0, 0) HK.out
    have k2 := cell_of_row wx K 2 _ _ (0, 0) HK.out
    have hN1 : (1 : Int) ≤ (N : Int) := by omega
    have hNc : (N : Int) ≤ (c : Int) := by have := HLC.out; omega
    have hc1 : (1 : Int) ≤ (c : Int) := by omega
    have hRT := (HN.out ▸ HWX.out : RdS wx wx.heap.size (some ⟨b8, o8, none⟩) N ws).tail (c := c) hl0 HLC.out
    have hxb : x.many ≤ 100 ∧ x.below ≤ 100 := by
      rw [HIX.out.1]
      unfold wantX Pr.wantOf
      repeat' split
      all_goals decide
    have HNU := Lib.hid (wnumbers_any x _ (N - 1) (c - 1) ws.tail wx.drew (HG.out.below (by have h := HBW.out; exact ⟨h.os, h.tape, h.output, h.size, h.block⟩)) (hRT.below ⟨rfl, rfl, rfl, Nat.le_refl _, fun _ _ => rfl⟩) (by have := HLN.out; have := HN.out; omega) HMEM.out hxb)
    unfold wantV at HNU
    have hlt2 : bytesL ws.tail = l.tail := by rw [bytesL_tail, HWS.out]
    rw [hlt2] at HNU
    obtain ⟨ok, hok⟩ : ∃ ok, ok = argsOk x l.tail := ⟨_, rfl⟩
    have HOK := Lib.hid hok
    have HNU2 : Hid (Calls Tryz.prog 43 #[.agg #[.int .i64 (x.many : Nat), .bool x.more, .int .i64 (x.below : Nat)], .slice (if c = 1 then some ⟨b8, o8, none⟩ else some ⟨b8, o8 + 1, none⟩) (N - 1) (c - 1)] wx.drew fun e w' => ∃ A9 n9 c9, e = .returned (.tuple #[.slice A9 n9 c9, .bool ok]) ∧ Hid (ok = true → ∃ ns, Pr.argsL x.below 0 l.tail = some ns ∧ ns.length = n9 ∧ w'.ownsRow wx.heap.size 3 1 (.slice A9 n9 c9) n9 (ivals ns)) ∧ Hid (Below wx.heap.size wx w')) := Lib.hid (HNU.out.mono fun e w' h => by
      obtain ⟨A9, n9, c9, h1, h2, h3⟩ := h
      exact ⟨A9, n9, c9, by rw [hok]; exact h1, Lib.hid fun h => h2 (by rw [← hok]; exact h), Lib.hid ⟨h3.os, h3.tape, h3.output, h3.size, h3.block⟩⟩)
    have HKL : Hid (K < wx.heap.size) := Lib.hid (some_size HK.out)
    have HKK := Lib.hid (And.intro k0 (And.intro k1 k2))
    clear HD8 HLK HNU hlt2 hok hxb hRT
    go_upto_region 3 with (fail)
    go_cut [9, 10] (fun s9 s10 wy => ∃ A9 n9 c9, s9 = .slice A9 n9 c9 ∧ s10 = .bool ok ∧ Hid (ok = true → ∃ ns, Pr.argsL x.below 0 l.tail = some ns ∧ ns.length = n9 ∧ wy.ownsRow wx.heap.size 3 1 (.slice A9 n9 c9) n9 (ivals ns)) ∧ Hid (Below wx.heap.size wx wy))
    case first =>
      as_aux_lemma =>
        have hKK := HKK.out
        by_cases hcc : c = 1
        · subst hcc
          rw [if_pos rfl] at HNU2
          go_region_held3 (fun w' => w'.cell? ⟨K, 0, none⟩ = some (.int .i64 (x.many : Nat)) ∧ w'.cell? ⟨K, 1, none⟩ = some (.bool x.more) ∧ w'.cell? ⟨K, 2, none⟩ = some (.int .i64 (x.below : Nat))) (first | go_keep | exact ⟨(HB9.out.cell (p := ⟨K, 0, none⟩) HKL.out).trans HKK.out.1, (HB9.out.cell (p := ⟨K, 1, none⟩) HKL.out).trans HKK.out.2.1, (HB9.out.cell (p := ⟨K, 2, none⟩) HKL.out).trans HKK.out.2.2⟩ | fail) (first
            | (go_at_call 43; refine HNU2.out.mono ?_; rintro e w9 ⟨A9, n9, c9, rfl, HO9, HB9⟩)
            | fail)
          go_wp2_with fail
          go_meet
          case rel => exact ⟨A9, n9, c9, rfl, rfl, HO9, HB9⟩
        · rw [if_neg hcc] at HNU2
          go_region_held3 (fun w' => w'.cell? ⟨K, 0, none⟩ = some (.int .i64 (x.many : Nat)) ∧ w'.cell? ⟨K, 1, none⟩ = some (.bool x.more) ∧ w'.cell? ⟨K, 2, none⟩ = some (.int .i64 (x.below : Nat))) (first | go_keep | exact ⟨(HB9.out.cell (p := ⟨K, 0, none⟩) HKL.out).trans HKK.out.1, (HB9.out.cell (p := ⟨K, 1, none⟩) HKL.out).trans HKK.out.2.1, (HB9.out.cell (p := ⟨K, 2, none⟩) HKL.out).trans HKK.out.2.2⟩ | fail) (first
            | (go_at_call 43; refine HNU2.out.mono ?_; rintro e w9 ⟨A9, n9, c9, rfl, HO9, HB9⟩)
            | fail)
          go_wp2_with fail
          go_meet
          case rel => exact ⟨A9, n9, c9, rfl, rfl, HO9, HB9⟩
    case rest =>
      clear k0 k1 k2
      obtain ⟨A9, n9, c9, rfl, rfl, HO9, HB9⟩ := hcut
      rename World => w9
      have HBW9 := Lib.hid (below_on HBW.out HB9.out)
      clear HNU2 HKK HKL HK
      have HX9 := Lib.hid (HX.out.below HBW9.out)
      have HLE : Hid (s0.data.toList = (Pr.cutL 32 s.data.toList).headD [] ∧ l = Pr.cutL 32 s.data.toList) := Lib.hid ⟨by rw [← hl]; exact HHD.out.symm, hl⟩
      have HG9 := Lib.hid (HG.out.below HBW9.out)
      have g0 := HG9.out.ur
      clear hl
      have HBAD : Hid (is = false ∨ ok = false → Pr.lineL t s.data.toList = (Pr.badW, t)) := Lib.hid fun h => line_bad (x := x) (is := is) (ok := ok) (by rw [← HLE.out.1]; exact HIX.out.1) (by rw [← HLE.out.1]; exact HIX.out.2) (by rw [← HLE.out.2]; exact HOK.out) h
      cases is with
      | false =>
        have HBD := Lib.hid (HBAD.out (.inl rfl))
        go_wp2_with fail
        go_quiet (fail)
        go_wp2_with fail
        go_ret2
        exact ⟨t, HX9.out.below ⟨rfl, rfl, rfl, Nat.le_refl _, fun _ _ => rfl⟩, (KeptBut.of_below HBW9.out).drewN _, by rw [HBD.out], .inl ⟨by rw [HBD.out], rfl⟩⟩
      | true =>
        cases ok with
        | false =>
          have HBD := Lib.hid (HBAD.out (.inr rfl))
          go_wp2_with fail
          go_quiet (fail)
          go_wp2_with fail
          go_ret2
          exact ⟨t, HX9.out.below ⟨rfl, rfl, rfl, Nat.le_refl _, fun _ _ => rfl⟩, (KeptBut.of_below HBW9.out).drewN _, by rw [HBD.out], .inl ⟨by rw [HBD.out], rfl⟩⟩
        | true =>
          obtain ⟨ns, ha, hnl, ho9⟩ := HO9.out rfl
          have d8 := (HB9.out.cell (p := ⟨b8, o8, none⟩) (by have := HB8.out; have := HBX.out.size; show b8 < _; omega)).trans ((HBX.out.cell (p := ⟨b8, o8, none⟩) HB8.out).trans HD8'.out)
          have hsz : s0 = strL s0.data.toList := (strL_data s0).symm
          have hw : Pr.wantOf s0.data.toList = some x := by
            have h1 := HIX.out.1
            have h2 := HIX.out.2
            cases ho : Pr.wantOf s0.data.toList with
            | none => rw [ho] at h2; cases h2
            | some y => rw [h1]; unfold wantX; rw [ho]; rfl
          have hokA : Pr.okArgs x ns = true := by
            have h1 := HOK.out
            unfold argsOk at h1
            rw [ha] at h1
            exact h1.symm
          have HLG := Lib.hid (line_good (t := t) (l := s.data.toList) (x := x) (w0 := s0.data.toList) (ns := ns) HLE.out.1 hw (by rw [← HLE.out.2]; exact ha) hokA)
          have hbd := Pr.argsL_bd x.below l.tail 0 ns ha
          have hx := HIX.out.1
          have hcs := want_cases HIX.out.2.symm
          obtain ⟨w0, hw0⟩ : ∃ w0, w0 = s0.data.toList := ⟨_, rfl⟩
          rw [← hw0] at hsz HLG hcs hx
          subst hsz
          have HO := Lib.hid ho9
          have HBDS := Lib.hid hbd
          have HOA := Lib.hid hokA
          have HNL := Lib.hid hnl
          have HX := Lib.hid hx
          have HLNN : Hid (ns.length ≤ 3001) := Lib.hid (by
            have h1 := Pr.argsL_len x.below l.tail 0 ns ha
            rw [List.length_tail] at h1
            have := HLN.out
            omega)
          clear hw0 hw ha hokA hbd hx ho9 hnl HHD HLE HOK HIX HMEM HBAD HO9 HWS HLC HLN HN HWX HR1 HB8 HD8' hN1 hNc hc1 g0
          rcases hcs with ⟨rfl, hxe⟩ | ⟨rfl, hxe⟩ | ⟨rfl, hxe⟩ | ⟨rfl, hxe⟩ | ⟨rfl, hxe⟩ | ⟨rfl, hxe⟩ | ⟨rfl, hxe⟩
          · as_aux_lemma =>
              obtain ⟨q0, hq0⟩ : ∃ q, q = strL Pr.wCount := ⟨_, rfl⟩
              rw [← hq0] at d8
              have e1 := word_eq (m := [99, 111, 117, 110, 116]) hq0 (by decide)
              have hl1 : ns.length = 2 := by
                have h := HOA.out
                rw [HX.out, hxe] at h
                unfold Pr.okArgs at h
                simp at h
                omega
              have hab0 := HBDS.out 0 (by omega)
              have hab1 := HBDS.out 1 (by omega)
              obtain ⟨a, b, rfl⟩ := len_two hl1
              have ha : 0 ≤ a ∧ a ≤ 9999 := ⟨by have := hab0.2.2 (by rw [HX.out, hxe]; show 0 + 0 < 99; omega); simpa using this, by simpa using hab0.2.1⟩
              have hb : 0 ≤ b ∧ b ≤ 9999 := ⟨by have := hab1.2.2 (by rw [HX.out, hxe]; show 0 + 1 < 99; omega); simpa using this, by simpa using hab1.2.1⟩
              obtain rfl : n9 = 2 := HNL.out.symm
              obtain ⟨g9, rfl, _, hg9⟩ := own_form HO.out (by omega)
              have a0 : w9.cell? ⟨g9, 0, none⟩ = some (.int .i64 a) := HO.out.cellAt 0 (by omega)
              have a1 : w9.cell? ⟨g9, 1, none⟩ = some (.int .i64 b) := HO.out.cellAt 1 (by omega)
              have HAA := Lib.hid (And.intro a0 a1)
              have HGL := Lib.hid hg9
              have i0 : (0 : Int) < 2 := by omega
              have i1 : (1 : Int) < 2 := by omega
              by_cases h8 : a ≤ 6 ∧ b ≤ 8
              · have hck : Calls Tryz.prog 44 #[.int .i64 a, .int .i64 b] w9.drew fun e w' => e = .returned (.tuple #[.int .i64 (Ph.cnt a.toNat b.toNat : Nat), .nilIface]) ∧ Hid (Below w9.heap.size w9 w') := by
                  have h := cOf_ok a.toNat b.toNat w9.drew (by omega) (by omega)
                  rw [Int.toNat_of_nonneg ha.1, Int.toNat_of_nonneg hb.1] at h
                  refine h.mono ?_
                  rintro e w' ⟨rfl, hb⟩
                  exact ⟨rfl, Lib.hid ⟨hb.os, hb.tape, hb.output, hb.size, hb.block⟩⟩
                have HLL : Hid (Pr.lineL t s.data.toList = (Lib.itoa ((Ph.cnt a.toNat b.toNat : Nat) : Int), t)) := Lib.hid (by
                  rw [HLG.out]
                  unfold Pr.doL
                  rw [if_pos rfl, if_pos (by simpa using h8)]
                  rfl)
                have hrb := Ph.cnt_le a.toNat b.toNat (by omega) (by omega)
                obtain ⟨R, hR⟩ : ∃ R : Int, R = ((Ph.cnt a.toNat b.toNat : Nat) : Int) := ⟨_, rfl⟩
                rw [← hR] at hck HLL
                have HRB : Hid (0 ≤ R ∧ R ≤ 100000) := Lib.hid (by omega)
                have HRK := Lib.hid hck
                clear hR hrb hck h8 ha hb hab0 hab1 hl1 hxe HLG HBDS HOA HNL HX hq0 hg9
                go_wp2_with fail
                go_region_held3 (fun w' => w'.cell? ⟨g9, 0, none⟩ = some (.int .i64 a) ∧ w'.cell? ⟨g9, 1, none⟩ = some (.int .i64 b)) (first | go_keep | exact ⟨(HB10.out.cell (p := ⟨g9, 0, none⟩) HGL.out).trans HAA.out.1, (HB10.out.cell (p := ⟨g9, 1, none⟩) HGL.out).trans HAA.out.2⟩ | fail) (first
                  | (go_at_call 44; refine HRK.out.mono ?_; rintro e w10 ⟨rfl, HB10⟩)
                  | fail)
                have hal := below_onAlloc HB10.out (.cells #[.int .i64 R] 3)
                have hr10 := RdI.lit' w10 [R] 3 #[.int .i64 R] rfl
                have hrw := row_any (some ⟨w10.heap.size, 0, none⟩) 1 1 [R] _ (HG9.out.below hal) hr10 (by omega) (fun y hy => by have := HRB.out; rw [List.mem_singleton.1 hy]; omega)
                have HRR := Lib.hid hrw
                have HAL := Lib.hid hal
                clear hal hr10 hrw HRK
                go_wp2_with fail
                refine HRR.out.mono ?_
                rintro e w11 ⟨rfl, hb11⟩
                have HB11 := Lib.hid (below_on HAL.out hb11)
                clear hb11 HRR
                go_wp2_with fail
                go_ret2
                exact ⟨t, HX9.out.below HB11.out, KeptBut.of_below (below_on HBW9.out HB11.out), by rw [HLL.out], .inr ⟨0, _, by rw [errV_zero]; rfl, by rw [HLL.out]; simp [strL, Pr.toldL, Pr.joinW], .inl rfl⟩⟩
              · have hck : Calls Tryz.prog 44 #[.int .i64 a, .int .i64 b] w9.drew fun e w' => e = .returned (.tuple #[.int .i64 0, .iface 69 (.int .i64 1)]) ∧ Hid (Below w9.heap.size w9 w') := by
                  have h := cOf_no a b w9.drew (by unfold cntOk; simp; omega)
                  refine h.mono ?_
                  rintro e w' ⟨rfl, rfl⟩
                  exact ⟨rfl, Lib.hid ⟨rfl, rfl, rfl, Nat.le_refl _, fun _ _ => rfl⟩⟩
                have HLL : Hid (Pr.lineL t s.data.toList = (Pr.nameL 1, t)) := Lib.hid (by
                  rw [HLG.out]
                  unfold Pr.doL
                  rw [if_pos rfl, if_neg (by simpa using h8)]
                  rfl)
                have HRB : Hid ((0 : Int) ≤ 0) := Lib.hid (Int.le_refl _)
                have HRK := Lib.hid hck
                clear hck h8 ha hb hab0 hab1 hl1 hxe HLG HBDS HOA HNL HX hq0 hg9
                go_wp2_with fail
                go_region_held3 (fun w' => w'.cell? ⟨g9, 0, none⟩ = some (.int .i64 a) ∧ w'.cell? ⟨g9, 1, none⟩ = some (.int .i64 b)) (first | go_keep | exact ⟨(HB10.out.cell (p := ⟨g9, 0, none⟩) HGL.out).trans HAA.out.1, (HB10.out.cell (p := ⟨g9, 1, none⟩) HGL.out).trans HAA.out.2⟩ | fail) (first
                  | (go_at_call 44; refine HRK.out.mono ?_; rintro e w10 ⟨rfl, HB10⟩)
                  | fail)
                have hal := below_onAlloc HB10.out (.cells #[.int .i64 0] 3)
                have hr10 := RdI.lit' w10 [0] 3 #[.int .i64 0] rfl
                have hrw := row_any (some ⟨w10.heap.size, 0, none⟩) 1 1 [0] _ (HG9.out.below hal) hr10 (by omega) (fun y hy => by have := HRB.out; rw [List.mem_singleton.1 hy]; omega)
                have HRR := Lib.hid hrw
                have HAL := Lib.hid hal
                clear hal hr10 hrw HRK
                go_wp2_with fail
                refine HRR.out.mono ?_
                rintro e w11 ⟨rfl, hb11⟩
                have HB11 := Lib.hid (below_on HAL.out hb11)
                clear hb11 HRR
                go_wp2_with fail
                go_ret2
                exact ⟨t, HX9.out.below HB11.out, KeptBut.of_below (below_on HBW9.out HB11.out), by rw [HLL.out], .inr ⟨1, _, by rw [errV_ne (by omega : (1 : Int) ≠ 0)]; rfl, by rw [HLL.out]; rfl, .inr (.inl rfl)⟩⟩
          · as_aux_lemma =>
              obtain ⟨q0, hq0⟩ : ∃ q, q = strL Pr.wRank := ⟨_, rfl⟩
              rw [← hq0] at d8
              have e1 := word_ne (m := [99, 111, 117, 110, 116]) hq0 (by decide)
              have e2 := word_eq (m := [114, 97, 110, 107]) hq0 (by decide)
              have HRI : Hid (RdI w9 w9.heap.size A9 n9 ns) := Lib.hid (RdI.own HO.out)
              have hrk := rank_told A9 n9 c9 ns w9 w9.heap.size HRI.out (Nat.le_refl _) (by have := HLNN.out; have := HNL.out; omega)
              by_cases hp : Ph.pulsesErr ns = 0
              · rw [hp, if_pos rfl, errV_zero] at hrk
                have hz := Ph.pulsesErr_zero.1 hp
                have hrb : 0 ≤ ((Ph.rank ns : Nat) : Int) ∧ ((Ph.rank ns : Nat) : Int) ≤ 1048576 := by
                  have h := Ph.rank_fits hz.1 hz.2.2
                  have h2 : 2 ^ (Ph.wid ns.length (Ph.loud ns)).toNat ≤ 2 ^ 20 := Nat.pow_le_pow_right (by decide) h.2
                  have h3 : (2 : Nat) ^ 20 = 1048576 := by decide
                  omega
                have HLL : Hid (Pr.lineL t s.data.toList = (Lib.itoa ((Ph.rank ns : Nat) : Int), t)) := Lib.hid (by
                  rw [HLG.out]
                  unfold Pr.doL
                  rw [if_neg (by decide), if_pos rfl, hp]
                  rfl)
                obtain ⟨R, hR⟩ : ∃ R, R = ((Ph.rank ns : Nat) : Int) := ⟨_, rfl⟩
                rw [← hR] at hrk hrb HLL
                have HRK := Lib.hid hrk
                have HRB := Lib.hid hrb
                clear hR hrk hrb hz hp hxe HLG HBDS HOA HNL HX hq0
                go_wp2_with fail
                refine HRK.out.mono ?_
                rintro e w10 ⟨rfl, hb10⟩
                have hal := below_onAlloc hb10 (.cells #[.int .i64 R] 3)
                have hr10 := RdI.lit' w10 [R] 3 #[.int .i64 R] rfl
                have hrw := row_any (some ⟨w10.heap.size, 0, none⟩) 1 1 [R] _ (HG9.out.below hal) hr10 (by omega) (fun y hy => by have := HRB.out; rw [List.mem_singleton.1 hy]; omega)
                have HRR := Lib.hid hrw
                have HAL := Lib.hid hal
                clear hb10 hal hr10 hrw HRK
                go_wp2_with fail
                refine HRR.out.mono ?_
                rintro e w11 ⟨rfl, hb11⟩
                have HB11 := Lib.hid (below_on HAL.out hb11)
                clear hb11 HRR
                go_wp2_with fail
                go_ret2
                exact ⟨t, HX9.out.below HB11.out, KeptBut.of_below (below_on HBW9.out HB11.out), by rw [HLL.out], .inr ⟨0, _, by rw [errV_zero]; rfl, by rw [HLL.out]; simp [strL, Pr.toldL, Pr.joinW], .inl rfl⟩⟩
              · rw [if_neg hp] at hrk
                have hE : Ph.pulsesErr ns = 1 ∨ Ph.pulsesErr ns = 4 := by
                  unfold Ph.pulsesErr at hp ⊢
                  split
                  · exact .inr rfl
                  · split
                    · split
                      · exact .inr rfl
                      · rename_i h1 h2 h3; rw [if_neg h1, if_pos h2, if_neg h3] at hp; exact absurd rfl hp
                    · exact .inl rfl
                have HLL : Hid (Pr.lineL t s.data.toList = (Pr.nameL (Ph.pulsesErr ns), t)) := Lib.hid (by
                  rw [HLG.out]
                  unfold Pr.doL
                  rw [if_neg (by decide), if_pos rfl]
                  unfold Pr.ansL
                  rw [if_neg hp])
                obtain ⟨E, hEE⟩ : ∃ E, E = Ph.pulsesErr ns := ⟨_, rfl⟩
                rw [← hEE] at hrk hE HLL hp
                rw [errV_ne hp] at hrk
                have HRK := Lib.hid hrk
                have HRB : Hid ((0 : Int) ≤ 0) := Lib.hid (Int.le_refl _)
                have HE := Lib.hid hE
                have HEP := Lib.hid hp
                clear hEE hrk hE hp hxe HLG HBDS HOA HNL HX hq0
                go_wp2_with fail
                refine HRK.out.mono ?_
                rintro e w10 ⟨rfl, hb10⟩
                have hal := below_onAlloc hb10 (.cells #[.int .i64 0] 3)
                have hr10 := RdI.lit' w10 [0] 3 #[.int .i64 0] rfl
                have hrw := row_any (some ⟨w10.heap.size, 0, none⟩) 1 1 [0] _ (HG9.out.below hal) hr10 (by omega) (fun y hy => by have := HRB.out; rw [List.mem_singleton.1 hy]; omega)
                have HRR := Lib.hid hrw
                have HAL := Lib.hid hal
                clear hb10 hal hr10 hrw HRK
                go_wp2_with fail
                refine HRR.out.mono ?_
                rintro e w11 ⟨rfl, hb11⟩
                have HB11 := Lib.hid (below_on HAL.out hb11)
                clear hb11 HRR
                go_wp2_with fail
                go_ret2
                exact ⟨t, HX9.out.below HB11.out, KeptBut.of_below (below_on HBW9.out HB11.out), by rw [HLL.out], .inr ⟨E, _, by rw [errV_ne HEP.out]; rfl, by rw [HLL.out, if_neg HEP.out], by rcases HE.out with h | h <;> simp [h]⟩⟩
          · as_aux_lemma =>
              obtain ⟨q0, hq0⟩ : ∃ q, q = strL Pr.wRow := ⟨_, rfl⟩
              rw [← hq0] at d8
              have e1 := word_ne (m := [99, 111, 117, 110, 116]) hq0 (by decide)
              have e2 := word_ne (m := [114, 97, 110, 107]) hq0 (by decide)
              have e3 := word_eq (m := [114, 111, 119]) hq0 (by decide)
              have hl1 : ns.length = 3 := by
                have h := HOA.out
                rw [HX.out, hxe] at h
                unfold Pr.okArgs at h
                simp at h
                omega
              have hab0 := HBDS.out 0 (by omega)
              have hab1 := HBDS.out 1 (by omega)
              have hab2 := HBDS.out 2 (by omega)
              obtain ⟨a, b, r, rfl⟩ := len_three hl1
              have ha : 0 ≤ a ∧ a ≤ 9999 := ⟨by have := hab0.2.2 (by rw [HX.out, hxe]; show 0 + 0 < 99; omega); simpa using this, by simpa using hab0.2.1⟩
              have hb : 0 ≤ b ∧ b ≤ 9999 := ⟨by have := hab1.2.2 (by rw [HX.out, hxe]; show 0 + 1 < 99; omega); simpa using this, by simpa using hab1.2.1⟩
              have hr : 0 ≤ r ∧ r ≤ 9999 := ⟨by have := hab2.2.2 (by rw [HX.out, hxe]; show 0 + 2 < 99; omega); simpa using this, by simpa using hab2.2.1⟩
              obtain rfl : n9 = 3 := HNL.out.symm
              obtain ⟨g9, rfl, _, hg9⟩ := own_form HO.out (by omega)
              have a0 : w9.cell? ⟨g9, 0, none⟩ = some (.int .i64 a) := HO.out.cellAt 0 (by omega)
              have a1 : w9.cell? ⟨g9, 1, none⟩ = some (.int .i64 b) := HO.out.cellAt 1 (by omega)
              have a2 : w9.cell? ⟨g9, 2, none⟩ = some (.int .i64 r) := HO.out.cellAt 2 (by omega)
              have HAA := Lib.hid (And.intro a0 (And.intro a1 a2))
              have HGL := Lib.hid hg9
              have i0 : (0 : Int) < 3 := by omega
              have i1 : (1 : Int) < 3 := by omega
              have i2 : (2 : Int) < 3 := by omega
              by_cases h8 : (a ≤ 6 ∧ b ≤ 8) ∧ r < ((Ph.cnt a.toNat b.toNat : Nat) : Int)
              · obtain ⟨L, hL⟩ : ∃ L, L = Ph.rowOf a.toNat b.toNat r.toNat := ⟨_, rfl⟩
                have HRK : Hid (Calls Tryz.prog 47 #[.int .i64 a, .int .i64 b, .int .i64 r] w9.drew fun e w' => ∃ A n c, e = .returned (.tuple #[.slice A n c, .nilIface]) ∧ Hid (RdI w' w'.heap.size A n L) ∧ Hid (Below w9.heap.size w9 w')) := Lib.hid (by
                  have h := pOf_ok a.toNat b.toNat r.toNat w9.drew (by omega) (by omega) (by omega)
                  rw [Int.toNat_of_nonneg ha.1, Int.toNat_of_nonneg hb.1, Int.toNat_of_nonneg hr.1, ← hL] at h
                  refine h.mono ?_
                  rintro e w' ⟨A, c, rfl, ho, hb⟩
                  exact ⟨A, _, c, rfl, Lib.hid (RdI.own ho), Lib.hid ⟨hb.os, hb.tape, hb.output, hb.size, hb.block⟩⟩)
                have HLL : Hid (Pr.lineL t s.data.toList = (Pr.toldL L, t)) := Lib.hid (by
                  rw [HLG.out]
                  unfold Pr.doL
                  rw [if_neg (by decide), if_neg (by decide), if_pos rfl, if_pos (by simpa using h8), hL]
                  rfl)
                have hlen : L.length = a.toNat := by rw [hL]; exact Ph.rowOf_length _ _ _
                have hld : Ph.loudN L = b.toNat := by rw [hL]; exact (Ph.rank_rowOf _ _ _ (by omega)).2
                have HLBD : Hid (∀ y ∈ L, -9223372036854775808 ≤ y ∧ y ≤ 9223372036854775807) := Lib.hid (loud_small (by omega))
                have HLE9 : Hid (L.length ≤ 9999) := Lib.hid (by omega)
                clear hL hlen hld h8 ha hb hr hab0 hab1 hab2 hl1 hxe HLG HBDS HOA HNL HX hq0 hg9
                go_wp2_with fail
                go_region_held3 (fun w' => w'.cell? ⟨g9, 0, none⟩ = some (.int .i64 a) ∧ w'.cell? ⟨g9, 1, none⟩ = some (.int .i64 b) ∧ w'.cell? ⟨g9, 2, none⟩ = some (.int .i64 r)) (first | go_keep | exact ⟨(HB10.out.cell (p := ⟨g9, 0, none⟩) HGL.out).trans HAA.out.1, (HB10.out.cell (p := ⟨g9, 1, none⟩) HGL.out).trans HAA.out.2.1, (HB10.out.cell (p := ⟨g9, 2, none⟩) HGL.out).trans HAA.out.2.2⟩ | fail) (first
                  | (go_at_call 47; refine HRK.out.mono ?_; rintro e w10 ⟨A10, n10, c10, rfl, HR10, HB10⟩)
                  | fail)
                have HN10 : Hid (n10 ≤ 100000) := Lib.hid (by have := HR10.out.len; have := HLE9.out; omega)
                have hrw := row_any A10 n10 c10 L _ (HG9.out.below HB10.out) HR10.out HN10.out HLBD.out
                have HRR := Lib.hid hrw
                clear hrw HRK
                go_wp2_with fail
                refine HRR.out.mono ?_
                rintro e w11 ⟨rfl, hb11⟩
                have HB11 := Lib.hid (below_on HB10.out hb11)
                clear hb11 HRR
                go_wp2_with fail
                go_ret2
                exact ⟨t, HX9.out.below HB11.out, KeptBut.of_below (below_on HBW9.out HB11.out), by rw [HLL.out], .inr ⟨0, _, by rw [errV_zero]; rfl, by rw [HLL.out]; simp [strL], .inl rfl⟩⟩
              · obtain ⟨L, hL⟩ : ∃ L : List Int, L = [] := ⟨_, rfl⟩
                have HRK : Hid (Calls Tryz.prog 47 #[.int .i64 a, .int .i64 b, .int .i64 r] w9.drew fun e w' => ∃ A n c, e = .returned (.tuple #[.slice A n c, .iface 69 (.int .i64 1)]) ∧ Hid (RdI w' w'.heap.size A n L) ∧ Hid (Below w9.heap.size w9 w')) := Lib.hid (by
                  have h := pOf_no a b r w9.drew (by
                    cases hh : ofOk a b r with
                    | false => rfl
                    | true => exact absurd (by have := ofOk_iff.1 hh; omega) h8)
                  refine h.mono ?_
                  rintro e w' ⟨rfl, hb⟩
                  rw [errV_ne (by omega : (1 : Int) ≠ 0)]
                  exact ⟨none, 0, 0, rfl, Lib.hid (by rw [hL]; exact Rd.nil), Lib.hid ⟨hb.os, hb.tape, hb.output, hb.size, hb.block⟩⟩)
                have HLL : Hid (Pr.lineL t s.data.toList = (Pr.nameL 1, t)) := Lib.hid (by
                  rw [HLG.out]
                  unfold Pr.doL
                  rw [if_neg (by decide), if_neg (by decide), if_pos rfl, if_neg (by simpa using h8)]
                  rfl)
                have HLBD : Hid (∀ y ∈ L, -9223372036854775808 ≤ y ∧ y ≤ 9223372036854775807) := Lib.hid (by rw [hL]; intro y hy; cases hy)
                have HLE9 : Hid (L.length ≤ 9999) := Lib.hid (by rw [hL]; simp)
                clear hL h8 ha hb hr hab0 hab1 hab2 hl1 hxe HLG HBDS HOA HNL HX hq0 hg9
                go_wp2_with fail
                go_region_held3 (fun w' => w'.cell? ⟨g9, 0, none⟩ = some (.int .i64 a) ∧ w'.cell? ⟨g9, 1, none⟩ = some (.int .i64 b) ∧ w'.cell? ⟨g9, 2, none⟩ = some (.int .i64 r)) (first | go_keep | exact ⟨(HB10.out.cell (p := ⟨g9, 0, none⟩) HGL.out).trans HAA.out.1, (HB10.out.cell (p := ⟨g9, 1, none⟩) HGL.out).trans HAA.out.2.1, (HB10.out.cell (p := ⟨g9, 2, none⟩) HGL.out).trans HAA.out.2.2⟩ | fail) (first
                  | (go_at_call 47; refine HRK.out.mono ?_; rintro e w10 ⟨A10, n10, c10, rfl, HR10, HB10⟩)
                  | fail)
                have HN10 : Hid (n10 ≤ 100000) := Lib.hid (by have := HR10.out.len; have := HLE9.out; omega)
                have hrw := row_any A10 n10 c10 L _ (HG9.out.below HB10.out) HR10.out HN10.out HLBD.out
                have HRR := Lib.hid hrw
                clear hrw HRK
                go_wp2_with fail
                refine HRR.out.mono ?_
                rintro e w11 ⟨rfl, hb11⟩
                have HB11 := Lib.hid (below_on HB10.out hb11)
                clear hb11 HRR
                go_wp2_with fail
                go_ret2
                exact ⟨t, HX9.out.below HB11.out, KeptBut.of_below (below_on HBW9.out HB11.out), by rw [HLL.out], .inr ⟨1, _, by rw [errV_ne (by omega : (1 : Int) ≠ 0)]; rfl, by rw [HLL.out]; rfl, .inr (.inl rfl)⟩⟩
          · as_aux_lemma =>
              obtain ⟨q0, hq0⟩ : ∃ q, q = strL Pr.wNear := ⟨_, rfl⟩
              rw [← hq0] at d8
              have e1 := word_ne (m := [99, 111, 117, 110, 116]) hq0 (by decide)
              have e2 := word_ne (m := [114, 97, 110, 107]) hq0 (by decide)
              have e3 := word_ne (m := [114, 111, 119]) hq0 (by decide)
              have e4 := word_eq (m := [110, 101, 97, 114]) hq0 (by decide)
              have hl1 : 2 ≤ ns.length := by
                have h := HOA.out
                rw [HX.out, hxe] at h
                unfold Pr.okArgs at h
                simp at h
                omega
              have hab0 := HBDS.out 0 (by omega)
              obtain ⟨k, v, rfl⟩ : ∃ k v, ns = k :: v := by
                cases ns with
                | nil => simp at hl1
                | cons k v => exact ⟨k, v, rfl⟩
              have ha : 0 ≤ k ∧ k ≤ 9999 := ⟨by have := hab0.2.2 (by rw [HX.out, hxe]; show 0 + 0 < 1; omega); simpa using this, by simpa using hab0.2.1⟩
              have hnl9 := HNL.out
              have hn2 : 2 ≤ n9 := by omega
              have hcap := own_cap HO.out
              have hcc : ¬ c9 = 1 := by omega
              obtain ⟨g9, rfl, _, hg9⟩ := own_form HO.out (by omega)
              have a0 : w9.cell? ⟨g9, 0, none⟩ = some (.int .i64 k) := HO.out.cellAt 0 (by omega)
              have HAA := Lib.hid a0
              have HGL := Lib.hid hg9
              have i0 : (0 : Int) < (n9 : Int) := by omega
              have i1 : (1 : Int) ≤ (n9 : Int) := by omega
              have i2 : (n9 : Int) ≤ (c9 : Int) := by omega
              have i3 : (1 : Int) ≤ (c9 : Int) := by omega
              have i5 : 0 < n9 := by omega
              have hrv : RdI w9 w9.heap.size (some ⟨g9, 1, none⟩) (n9 - 1) v := by
                refine ⟨by rw [ivals_length]; simp at hnl9; omega, fun _ => ⟨g9, 1, rfl, hg9, fun j hj => ?_⟩⟩
                have := HO.out.cellAt (j + 1) (by omega)
                rw [show 1 + j = j + 1 by omega, this]
                simp [ivals]
              have hvl : v.length = n9 - 1 := by simp at hnl9; omega
              have hn9 : n9 ≤ 3001 := by have := HLNN.out; omega
              have hne : Pr.nearE v k = nearOfErr v k := by
                unfold Pr.nearE nearOfErr nearErr
                by_cases h6 : 6 < v.length
                · rw [if_pos h6, if_pos h6, if_pos (by decide)]
                · rw [if_neg h6, if_neg h6]
              have hdl : Pr.doL Pr.wNear t (k :: v) = (nearOfErr v k, Ph.near v k, t) := by
                unfold Pr.doL
                rw [if_neg (by decide), if_neg (by decide), if_neg (by decide), if_pos rfl]
                show (Pr.nearE v k, Ph.near v k, t) = _
                rw [hne]
              by_cases h8 : nearOfErr v k = 0
              · obtain ⟨L, hL⟩ : ∃ L, L = Ph.near v k := ⟨_, rfl⟩
                have hz := nearOfErr_zero.1 h8
                have HRK : Hid (Calls Tryz.prog 48 #[.slice (some ⟨g9, 1, none⟩) (n9 - 1) (c9 - 1), .int .i64 k] w9.drew fun e w' => ∃ A n c, e = .returned (.tuple #[.slice A n c, .nilIface]) ∧ Hid (RdI w' w'.heap.size A n L) ∧ Hid (Below w9.heap.size w9 w')) := Lib.hid (by
                  have h := nearOf_ok (some ⟨g9, 1, none⟩) (n9 - 1) (c9 - 1) v k w9.drew w9.heap.size (hrv.below ⟨rfl, rfl, rfl, Nat.le_refl _, fun _ _ => rfl⟩) (Nat.le_refl _) h8
                  refine h.mono ?_
                  rintro e w' ⟨A, c, rfl, ho, hb⟩
                  rw [← hL] at ho ⊢
                  exact ⟨A, _, c, rfl, Lib.hid (RdI.own ho), Lib.hid ⟨hb.os, hb.tape, hb.output, hb.size, hb.block⟩⟩)
                have HLL : Hid (Pr.lineL t s.data.toList = (Pr.toldL L, t)) := Lib.hid (by rw [HLG.out, hdl, h8, hL]; rfl)
                have hlen : L.length = v.length := by rw [hL]; exact Ph.near_length _ _
                have hld : Ph.loud L = k := by rw [hL]; exact Ph.near_loud hz.2.1.1 hz.2.2
                have HLBD : Hid (∀ y ∈ L, -9223372036854775808 ≤ y ∧ y ≤ 9223372036854775807) := Lib.hid (loud_small (by unfold Ph.loudN; omega))
                have HLE9 : Hid (L.length ≤ 9999) := Lib.hid (by omega)
                clear hL hlen hld hz h8 hdl hne hvl hn9 hrv ha hab0 hl1 hnl9 hn2 hcap hxe HLG HBDS HOA HNL HX HLNN HO hq0 hg9
                go_wp2_with fail
                go_region_held3 (fun w' => w'.cell? ⟨g9, 0, none⟩ = some (.int .i64 k)) (first | go_keep | exact (HB10.out.cell (p := ⟨g9, 0, none⟩) HGL.out).trans HAA.out | fail) (first
                  | (go_at_call 48; refine HRK.out.mono ?_; rintro e w10 ⟨A10, n10, c10, rfl, HR10, HB10⟩)
                  | fail)
                have HN10 : Hid (n10 ≤ 100000) := Lib.hid (by have := HR10.out.len; have := HLE9.out; omega)
                have hrw := row_any A10 n10 c10 L _ (HG9.out.below HB10.out) HR10.out HN10.out HLBD.out
                have HRR := Lib.hid hrw
                clear hrw HRK
                go_wp2_with fail
                refine HRR.out.mono ?_
                rintro e w11 ⟨rfl, hb11⟩
                have HB11 := Lib.hid (below_on HB10.out hb11)
                clear hb11 HRR
                go_wp2_with fail
                go_ret2
                exact ⟨t, HX9.out.below HB11.out, KeptBut.of_below (below_on HBW9.out HB11.out), by rw [HLL.out], .inr ⟨0, _, by rw [errV_zero]; rfl, by rw [HLL.out]; simp [strL], .inl rfl⟩⟩
              · obtain ⟨L, hL⟩ : ∃ L : List Int, L = [] := ⟨_, rfl⟩
                have hE : nearOfErr v k = 1 ∨ nearOfErr v k = 4 ∨ nearOfErr v k = 5 := by
                  have hs : Ph.soundErr v = 0 ∨ Ph.soundErr v = 1 ∨ Ph.soundErr v = 4 := by
                    unfold Ph.soundErr
                    split
                    · exact .inr (.inr rfl)
                    · split
                      · exact .inl rfl
                      · exact .inr (.inl rfl)
                  have hn : nearErr v = 0 ∨ nearErr v = 1 ∨ nearErr v = 4 := by
                    unfold nearErr
                    split
                    · exact .inr (.inr rfl)
                    · exact hs
                  unfold nearOfErr at h8 ⊢
                  split
                  · rename_i h1; omega
                  · rename_i h1
                    rw [if_neg h1] at h8
                    split
                    · exact .inl rfl
                    · rename_i h2
                      rw [if_neg h2] at h8
                      split
                      · exact .inr (.inr rfl)
                      · rename_i h3; rw [if_neg h3] at h8; exact absurd rfl h8
                have HLL : Hid (Pr.lineL t s.data.toList = (Pr.nameL (nearOfErr v k), t)) := Lib.hid (by
                  rw [HLG.out, hdl]
                  unfold Pr.ansL
                  rw [if_neg h8])
                have hno := nearOf_no (some ⟨g9, 1, none⟩) (n9 - 1) (c9 - 1) v k w9.drew w9.heap.size (hrv.below ⟨rfl, rfl, rfl, Nat.le_refl _, fun _ _ => rfl⟩) (Nat.le_refl _) (by omega) h8
                obtain ⟨E, hEE⟩ : ∃ E, E = nearOfErr v k := ⟨_, rfl⟩
                rw [← hEE] at hno hE HLL h8
                rw [errV_ne h8] at hno
                have HRK : Hid (Calls Tryz.prog 48 #[.slice (some ⟨g9, 1, none⟩) (n9 - 1) (c9 - 1), .int .i64 k] w9.drew fun e w' => ∃ A n c, e = .returned (.tuple #[.slice A n c, .iface 69 (.int .i64 E)]) ∧ Hid (RdI w' w'.heap.size A n L) ∧ Hid (Below w9.heap.size w9 w')) := Lib.hid (hno.mono fun e w' h => by
                  obtain ⟨rfl, hb⟩ := h
                  exact ⟨none, 0, 0, rfl, Lib.hid (by rw [hL]; exact Rd.nil), Lib.hid ⟨hb.os, hb.tape, hb.output, hb.size, hb.block⟩⟩)
                have HLBD : Hid (∀ y ∈ L, -9223372036854775808 ≤ y ∧ y ≤ 9223372036854775807) := Lib.hid (by rw [hL]; intro y hy; cases hy)
                have HLE9 : Hid (L.length ≤ 9999) := Lib.hid (by rw [hL]; simp)
                have HE := Lib.hid hE
                have HEP := Lib.hid h8
                clear hL hE hEE hno h8 hdl hne hvl hn9 hrv ha hab0 hl1 hnl9 hn2 hcap hxe HLG HBDS HOA HNL HX HLNN HO hq0 hg9
                go_wp2_with fail
                go_region_held3 (fun w' => w'.cell? ⟨g9, 0, none⟩ = some (.int .i64 k)) (first | go_keep | exact (HB10.out.cell (p := ⟨g9, 0, none⟩) HGL.out).trans HAA.out | fail) (first
                  | (go_at_call 48; refine HRK.out.mono ?_; rintro e w10 ⟨A10, n10, c10, rfl, HR10, HB10⟩)
                  | fail)
                have HN10 : Hid (n10 ≤ 100000) := Lib.hid (by have := HR10.out.len; have := HLE9.out; omega)
                have hrw := row_any A10 n10 c10 L _ (HG9.out.below HB10.out) HR10.out HN10.out HLBD.out
                have HRR := Lib.hid hrw
                clear hrw HRK
                go_wp2_with fail
                refine HRR.out.mono ?_
                rintro e w11 ⟨rfl, hb11⟩
                have HB11 := Lib.hid (below_on HB10.out hb11)
                clear hb11 HRR
                go_wp2_with fail
                go_ret2
                exact ⟨t, HX9.out.below HB11.out, KeptBut.of_below (below_on HBW9.out HB11.out), by rw [HLL.out], .inr ⟨E, _, by rw [errV_ne HEP.out]; rfl, by rw [HLL.out, if_neg HEP.out], by rcases HE.out with h | h | h <;> simp [h]⟩⟩
          · as_aux_lemma =>
              obtain ⟨q0, hq0⟩ : ∃ q, q = strL Pr.wGain := ⟨_, rfl⟩
              rw [← hq0] at d8
              have e1 := word_ne (m := [99, 111, 117, 110, 116]) hq0 (by decide)
              have e2 := word_ne (m := [114, 97, 110, 107]) hq0 (by decide)
              have e3 := word_ne (m := [114, 111, 119]) hq0 (by decide)
              have e4 := word_ne (m := [110, 101, 97, 114]) hq0 (by decide)
              have e5 := word_eq (m := [103, 97, 105, 110]) hq0 (by decide)
              have hl1 : ns.length = 1 := by
                have h := HOA.out
                rw [HX.out, hxe] at h
                unfold Pr.okArgs at h
                simp at h
                omega
              have hab := HBDS.out 0 (by omega)
              obtain ⟨a, rfl⟩ := len_one hl1
              have hab : 0 ≤ a ∧ a ≤ 9999 := ⟨by have := hab.2.2 (by rw [HX.out, hxe]; show 0 + 0 < 99; omega); simpa using this, by simpa using hab.2.1⟩
              obtain rfl : n9 = 1 := HNL.out.symm
              obtain ⟨g9, rfl, _, _⟩ := own_form HO.out (by omega)
              have a0 : w9.cell? ⟨g9, 0, none⟩ = some (.int .i64 a) := HO.out.cellAt 0 (by omega)
              have i1 : (0 : Int) < 1 := by omega
              by_cases h8 : a ≤ 8000
              · obtain ⟨k, rfl⟩ := Int.eq_ofNat_of_zero_le hab.1
                have HLO := Lib.hid (loud_ok k w9 HG9.out (by omega))
                have HLL : Hid (Pr.lineL t s.data.toList = (Pr.toldL [((Ph.step k : Nat) : Int), Ph.val ((Ph.step k : Nat) : Int)], t)) := Lib.hid (by
                  rw [HLG.out]
                  unfold Pr.doL
                  rw [if_neg (by decide), if_neg (by decide), if_neg (by decide), if_neg (by decide), if_pos rfl]
                  rw [if_pos (by simpa using h8)]
                  rfl)
                obtain ⟨T, hT⟩ : ∃ T, T = Pr.toldL [((Ph.step k : Nat) : Int), Ph.val ((Ph.step k : Nat) : Int)] := ⟨_, rfl⟩
                rw [← hT] at HLO HLL
                clear hT hxe hl1 hab h8 HLG HBDS HOA HNL HX hq0
                go_wp2_with fail
                refine HLO.out.mono ?_
                rintro e w11 ⟨rfl, hb11⟩
                have HB11 := Lib.hid hb11
                clear hb11 HLO
                go_wp2_with fail
                go_ret2
                exact ⟨t, HX9.out.below HB11.out, KeptBut.of_below (below_on HBW9.out HB11.out), by rw [HLL.out], .inr ⟨0, _, by rw [errV_zero]; rfl, by rw [HLL.out]; simp [strL], .inl rfl⟩⟩
              · have HLO := Lib.hid (loud_no a w9 (by omega))
                have HLL : Hid (Pr.lineL t s.data.toList = (Pr.nameL 1, t)) := Lib.hid (by
                  rw [HLG.out]
                  unfold Pr.doL
                  rw [if_neg (by decide), if_neg (by decide), if_neg (by decide), if_neg (by decide), if_pos rfl]
                  rw [if_neg (by simpa using h8)]
                  rfl)
                rw [errV_ne (by omega : (1 : Int) ≠ 0)] at HLO
                clear hxe hl1 hab h8 HLG HBDS HOA HNL HX hq0
                go_wp2_with fail
                refine HLO.out.mono ?_
                rintro e w11 ⟨rfl, rfl⟩
                clear HLO
                go_wp2_with fail
                go_ret2
                exact ⟨t, HX9.out, KeptBut.of_below HBW9.out, by rw [HLL.out], .inr ⟨1, _, by rw [errV_ne (by omega : (1 : Int) ≠ 0)]; rfl, by rw [HLL.out]; rfl, .inr (.inl rfl)⟩⟩
          · as_aux_lemma =>
              obtain ⟨q0, hq0⟩ : ∃ q, q = strL Pr.wTurn := ⟨_, rfl⟩
              rw [← hq0] at d8
              have e1 := word_ne (m := [99, 111, 117, 110, 116]) hq0 (by decide)
              have e2 := word_ne (m := [114, 97, 110, 107]) hq0 (by decide)
              have e3 := word_ne (m := [114, 111, 119]) hq0 (by decide)
              have e4 := word_ne (m := [110, 101, 97, 114]) hq0 (by decide)
              have e5 := word_ne (m := [103, 97, 105, 110]) hq0 (by decide)
              have e6 := word_eq (m := [116, 117, 114, 110]) hq0 (by decide)
              have hl1 : ns.length = 1 := by
                have h := HOA.out
                rw [HX.out, hxe] at h
                unfold Pr.okArgs at h
                simp at h
                omega
              have hab := HBDS.out 0 (by omega)
              obtain ⟨a, rfl⟩ := len_one hl1
              have hab : 0 ≤ a ∧ a ≤ 9999 := ⟨by have := hab.2.2 (by rw [HX.out, hxe]; show 0 + 0 < 99; omega); simpa using this, by simpa using hab.2.1⟩
              obtain rfl : n9 = 1 := HNL.out.symm
              obtain ⟨g9, rfl, _, _⟩ := own_form HO.out (by omega)
              have a0 : w9.cell? ⟨g9, 0, none⟩ = some (.int .i64 a) := HO.out.cellAt 0 (by omega)
              have i1 : (0 : Int) < 1 := by omega
              have htk : Ph.tankErr t = 0 := Ph.tankErr_zero.2 ⟨ht.1.1, ht.1.2, ht.2.1.1, ht.2.1.2, ht.2.2.1, ht.2.2.2⟩
              by_cases h8 : a ≤ Ph.full t
              · have hte : Ph.turnErr t a = 0 := by unfold Ph.turnErr; rw [if_neg (by omega), if_neg (by omega), if_neg (by omega)]
                have HLO := Lib.hid (dturn_ok X t a w9 HG9.out HX9.out hXg ht ⟨by omega, by omega⟩ h8)
                have HLL : Hid (Pr.lineL t s.data.toList = (Lib.itoa (Ph.full t - a), Ph.turned t a)) := Lib.hid (by
                  rw [HLG.out]
                  unfold Pr.doL
                  rw [if_neg (by decide), if_neg (by decide), if_neg (by decide), if_neg (by decide), if_neg (by decide), if_pos rfl]
                  rw [if_pos (by simpa using hte)]
                  rfl)
                clear hte htk hxe hl1 hab h8 HLG HBDS HOA HNL HX hq0
                go_wp2_with fail
                refine HLO.out.mono ?_
                rintro e w11 ⟨q, rfl, hq, hd11, hk11⟩
                have HQ := Lib.hid (hq rfl)
                have HD11 := Lib.hid hd11
                have HK11 := Lib.hid hk11
                rw [errV_zero]
                clear hq hd11 hk11 HLO
                go_wp2_with fail
                go_ret2
                exact ⟨_, HD11.out, (KeptBut.of_below HBW9.out).trans HK11.out, by rw [HLL.out], .inr ⟨0, _, by rw [errV_zero]; rfl, by rw [HLL.out, HQ.out]; simp [strL], .inl rfl⟩⟩
              · have hte : Ph.turnErr t a = 8 := by unfold Ph.turnErr; rw [if_neg (by omega), if_neg (by omega), if_pos (by omega)]
                have hno := dturn_no X t a w9 HX9.out ht (by omega)
                rw [hte] at hno
                have HLO := Lib.hid hno
                have HLL : Hid (Pr.lineL t s.data.toList = (Pr.nameL 8, t)) := Lib.hid (by
                  rw [HLG.out]
                  unfold Pr.doL
                  rw [if_neg (by decide), if_neg (by decide), if_neg (by decide), if_neg (by decide), if_neg (by decide), if_pos rfl]
                  have h9 : Ph.turnErr t ([a].getD 0 0) = 8 := hte
                  rw [h9]
                  rfl)
                clear hno hte htk hxe hl1 hab h8 HLG HBDS HOA HNL HX hq0
                go_wp2_with fail
                refine HLO.out.mono ?_
                rintro e w11 ⟨q, rfl, _, hd11, hk11⟩
                have HD11 := Lib.hid hd11
                have HK11 := Lib.hid hk11
                rw [errV_ne (by omega : (8 : Int) ≠ 0)]
                clear hd11 hk11 HLO
                go_wp2_with fail
                go_ret2
                exact ⟨t, HD11.out, (KeptBut.of_below HBW9.out).trans HK11.out, by rw [HLL.out], .inr ⟨8, _, by rw [errV_ne (by omega : (8 : Int) ≠ 0)]; rfl, by rw [HLL.out]; rfl, .inr (.inr (.inr (.inr rfl)))⟩⟩
          · as_aux_lemma =>
              obtain ⟨q0, hq0⟩ : ∃ q, q = strL Pr.wMay := ⟨_, rfl⟩
              rw [← hq0] at d8
              have e1 := word_ne (m := [99, 111, 117, 110, 116]) hq0 (by decide)
              have e2 := word_ne (m := [114, 97, 110, 107]) hq0 (by decide)
              have e3 := word_ne (m := [114, 111, 119]) hq0 (by decide)
              have e4 := word_ne (m := [110, 101, 97, 114]) hq0 (by decide)
              have e5 := word_ne (m := [103, 97, 105, 110]) hq0 (by decide)
              have e6 := word_ne (m := [116, 117, 114, 110]) hq0 (by decide)
              obtain ⟨⟨c0, c1, c2⟩, _⟩ := HX9.out.cells
              have hlX := HX9.out.lt
              have HMY := Lib.hid (tmay_ok t.size t.each t.has w9 ht.1 ht.2.1 ht.2.2)
              clear hq0
              have HT0 := Lib.hid ht
              have hfb : 0 ≤ Ph.full t ∧ Ph.full t ≤ 1000000 := by unfold Ph.full; have := ht.1; have := ht.2.1; have := ht.2.2; split <;> omega
              obtain ⟨z, hz⟩ : ∃ z, z = Ph.full t := ⟨_, rfl⟩
              have hz2 : Ph.full ⟨t.size, t.each, t.has⟩ = z := hz.symm
              rw [hz2] at HMY
              rw [← hz] at hfb
              unfold tankV at HMY
              have HZB := Lib.hid hfb
              have HLL : Hid (Pr.lineL t s.data.toList = (Pr.toldL [z], t)) := Lib.hid (by
                rw [HLG.out]
                unfold Pr.doL
                rw [if_neg (by decide), if_neg (by decide), if_neg (by decide), if_neg (by decide), if_neg (by decide), if_neg (by decide), ← hz]
                unfold Pr.ansL
                rw [if_pos rfl])
              clear hz hz2 hfb ht hxe
              go_wp2_with fail
              refine HMY.out.mono ?_
              rintro e w10 ⟨rfl, hb10⟩
              have HB10 := Lib.hid hb10
              have hal := below_onAlloc hb10 (.cells #[.int .i64 z] 3)
              have hr10 := RdI.lit' w10 [z] 3 #[.int .i64 z] rfl
              have hrw := row_any (some ⟨w10.heap.size, 0, none⟩) 1 1 [z] _ (HG9.out.below hal) hr10 (by omega) (fun y hy => by have := HZB.out; rw [List.mem_singleton.1 hy]; omega)
              have HRR := Lib.hid hrw
              have HAL := Lib.hid hal
              clear hb10 hal hr10 hrw HMY c0 c1 c2
              go_wp2_with fail
              refine HRR.out.mono ?_
              rintro e w11 ⟨rfl, hb11⟩
              have HB11 := Lib.hid (below_on HAL.out hb11)
              clear hb11 HRR
              go_wp2_with fail
              go_ret2
              exact ⟨t, HX9.out.below HB11.out, KeptBut.of_below (below_on HBW9.out HB11.out), by rw [HLL.out], .inr ⟨0, _, by rw [errV_zero]; rfl, by rw [HLL.out]; simp [strL], .inl rfl⟩⟩
end Go.Proofs.YtjdpgakkphdjlaaGreatDoor
