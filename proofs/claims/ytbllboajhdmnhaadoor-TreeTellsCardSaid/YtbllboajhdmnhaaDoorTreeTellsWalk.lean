/- The walk of the law TreeTells. -/
import Derived.Test.YtbllboajhdmnhaaDoorTold
import Derived.Test.YtbllboajhdmnhaaDoorRefTree2
import Derived.Test.YtbllboajhdmnhaaDoorOpen
import Derived.Deep.DeepCutAuto
import Derived.Deep.CutBlock
import Derived.Deep.Cut
namespace Go.Proofs.YtbllboajhdmnhaaDoor
open Go.RowKit

/-- Numbers are told, and a fault: none of them, if there is one. -/
def TellI (E : Int) (l : List Int) (w : World) (e : Ending) (w' : World) : Prop :=
  ∃ A n c, e = .returned (.tuple #[.slice A n c, errV E]) ∧ n ≤ 100000 ∧ RdI w' w'.heap.size A n (if E = 0 then l else []) ∧ Below w.heap.size w w'
theorem tfwd_tell (A : Option Addr) (n c : Nat) (l : List Int) (v : Int) (w : World) (B : Nat) (h : RdI w B A n l) (hB : B ≤ w.heap.size) (hn : n ≤ 100000000000000) :
    Calls Tryd.prog 27 #[.slice A n c, .int .i64 v] w (TellI (treeErr l v 1000) (Ph.treeF v.toNat l) w) := by
  by_cases h0 : treeErr l v 1000 = 0
  · have hn32 : n ≤ 32 := by have := (treeErr_zero.1 h0).1; rw [h.len] at this; exact this
    obtain ⟨V, rfl⟩ := treeErr_nat h0
    refine (tfwd_ok A n c V l w B h hB h0).mono ?_
    rintro e w' ⟨A', c', rfl, ho, hb⟩
    exact ⟨A', n, c', by rw [h0]; rfl, by omega, by rw [if_pos h0]; exact RdI.own ho, hb⟩
  · refine (tfwd_no A n c l v w B h hB hn h0).mono ?_
    rintro e w' ⟨rfl, hb⟩
    exact ⟨none, 0, 0, rfl, by omega, by rw [if_neg h0]; exact RdI.nil, hb⟩
theorem tinv_tell (A : Option Addr) (n c : Nat) (l : List Int) (v : Int) (w : World) (B : Nat) (h : RdI w B A n l) (hB : B ≤ w.heap.size) (hn : n ≤ 100000000000000) :
    Calls Tryd.prog 29 #[.slice A n c, .int .i64 v] w (TellI (tinvErr l v) (tinvOut l v) w) := by
  by_cases h0 : treeErr l v 2000 = 0
  · have hn32 : n ≤ 32 := by have := (treeErr_zero.1 h0).1; rw [h.len] at this; exact this
    obtain ⟨V, rfl⟩ := treeErr_nat h0
    have := tinv_ok A n c V l w B h hB h0
    unfold tinvErr tinvOut
    rw [if_neg (by omega), Int.toNat_natCast]
    cases hx : Ph.treeI V l with
    | some s =>
      rw [hx] at this
      refine this.mono ?_
      rintro e w' ⟨A', c', rfl, ho, hb⟩
      exact ⟨A', n, c', rfl, by omega, RdI.own ho, hb⟩
    | none =>
      rw [hx] at this
      refine this.mono ?_
      rintro e w' ⟨rfl, hb⟩
      exact ⟨none, 0, 0, rfl, by omega, RdI.nil, hb⟩
  · refine (tinv_no A n c l v w B h hB hn h0).mono ?_
    have h1 : tinvErr l v = treeErr l v 2000 := by unfold tinvErr; rw [if_pos h0]
    rintro e w' ⟨rfl, hb⟩
    exact ⟨none, 0, 0, by rw [h1], by omega, by rw [h1, if_neg h0]; exact RdI.nil, hb⟩
/-- What the document's own Back tells: numbers, and a fault. -/
def RTell (E : Int) (l : List Int) (w : World) (e : Ending) (w' : World) : Prop :=
  ∃ A n c, e = .returned (.tuple #[.slice A n c, .int .i64 E]) ∧ n ≤ 100000 ∧ RdI w' w'.heap.size A n (if E = 0 then l else []) ∧ Below w.heap.size w w'
theorem rback_tell (A : Option Addr) (n c : Nat) (l : List Int) (v : Int) (w : World) (B : Nat) (h : RdI w B A n l) (hB : B ≤ w.heap.size) (hc : n ≤ c) (h0 : treeErr l v 2000 = 0) :
    Calls Tryd.prog 28 #[.slice A n c, .int .i64 v] w (RTell (tinvErr l v) (tinvOut l v) w) := by
  have hz := treeErr_zero.1 h0
  have hl := h.len
  obtain ⟨V, rfl⟩ := treeErr_nat h0
  have := rback_any V A n c l w B h hB hc (by omega) (by rw [← hl]; exact treeErr_mod h0) (by omega) hz.2.2.2.2
  unfold tinvErr tinvOut
  rw [if_neg (by omega), Int.toNat_natCast]
  cases hx : Ph.treeI V l with
  | some s =>
    rw [hx] at this
    refine this.mono ?_
    rintro e w' ⟨A', c', rfl, ho, hb⟩
    exact ⟨A', n, c', rfl, by omega, ho, hb⟩
  | none =>
    rw [hx] at this
    refine this.mono ?_
    rintro e w' ⟨rfl, hb⟩
    exact ⟨none, 0, 0, rfl, by omega, RdI.nil, hb⟩
theorem rtree_tell (A : Option Addr) (n c : Nat) (l : List Int) (v : Int) (w : World) (B : Nat) (h : RdI w B A n l) (hB : B ≤ w.heap.size) (h0 : treeErr l v 1000 = 0) :
    Calls Tryd.prog 26 #[.slice A n c, .int .i64 v] w fun e w' => ∃ A' n' c', e = .returned (.slice A' n' c') ∧ n' ≤ 100000 ∧ RdI w' w'.heap.size A' n' (Ph.treeF v.toNat l) ∧ Below w.heap.size w w' := by
  have hz := treeErr_zero.1 h0
  have hl := h.len
  obtain ⟨V, rfl⟩ := treeErr_nat h0
  refine (rtree_any V A n c l w B h hB (by omega) (by rw [← hl]; exact treeErr_mod h0) (by omega) hz.2.2.2.2).mono ?_
  rintro e w' ⟨A', c', rfl, _, ho, hb⟩
  exact ⟨A', n, c', rfl, by omega, ho, hb⟩
theorem treeErr_bd (l : List Int) (v b : Int) : -100 ≤ treeErr l v b ∧ treeErr l v b ≤ 100 := by
  unfold treeErr
  split
  · omega
  · split
    · omega
    · split
      · omega
      · split <;> omega
theorem tinvErr_bd (l : List Int) (v : Int) : -100 ≤ tinvErr l v ∧ tinvErr l v ≤ 100 := by
  unfold tinvErr
  split
  · exact treeErr_bd _ _ _
  · split <;> omega
set_option maxHeartbeats 4000000 in
set_option maxRecDepth 1000000 in
theorem treeTells_walk (w : World) (A1 : Option Addr) (n1 c1 : Nat) (l : List Int) (h1 : RdI w w.heap.size A1 n1 l) (hb1 : n1 ≤ c1 ∧ c1 ≤ 17592186044415) (_ : ∀ x ∈ l, Is64 x) (v : Int) (A2 : Option Addr) (n2 c2 : Nat) (m : List Int) (h2 : RdI w w.heap.size A2 n2 m) (hb2 : n2 ≤ c2 ∧ c2 ≤ 17592186044415) (_ : ∀ x ∈ m, Is64 x) (hg : Laid w) :
    Calls Tryd.prog 4 #[.slice A1 n1 c1, .int .i64 v, .slice A2 n2 c2] w fun e w' => e = .returned (.bool true) ∧ Below w.heap.size w w' := by
  have HG := Lib.hid hg
  have H1 := Lib.hid h1
  have H2 := Lib.hid h2
  have hn1 : n1 ≤ 100000000000000 := by omega
  have hn2 : n2 ≤ 100000000000000 := by omega
  have HLV1 := Lib.hid fun W => rlevels_any n1 v W hn1
  have HLV2 := Lib.hid fun W => rlevels_any n2 v W hn2
  have HA1 := Lib.hid fun W hW => rall_any A1 n1 c1 l 1000 W w.heap.size hW hn1 (by omega)
  have HA2 := Lib.hid fun W hW => rall_any A2 n2 c2 m 2000 W w.heap.size hW hn2 (by omega)
  have HT := Lib.hid fun W hW hB h0 => rtree_tell A1 n1 c1 l v W w.heap.size hW hB h0
  have HBK := Lib.hid fun W hW hB h0 => rback_tell A2 n2 c2 m v W w.heap.size hW hB hb2.1 h0
  have HF := Lib.hid fun W hW hB => tfwd_tell A1 n1 c1 l v W w.heap.size hW hB hn1
  have HI := Lib.hid fun W hW hB => tinv_tell A2 n2 c2 m v W w.heap.size hW hB hn2
  have HE1 := Lib.hid (treeErr_lev l v 1000)
  have HE2 := Lib.hid (treeErr_lev m v 2000)
  have HEB1 := Lib.hid (treeErr_bd l v 1000)
  have HEB2 := Lib.hid (tinvErr_bd m v)
  have HTI : Hid (treeErr m v 2000 ≠ 0 → tinvErr m v = treeErr m v 2000) := Lib.hid fun h => by unfold tinvErr; rw [if_pos h]
  rw [h1.len] at HE1
  rw [h2.len] at HE2
  obtain ⟨a1, ha1⟩ : ∃ a, a = Ph.allIn l 1000 := ⟨_, rfl⟩
  obtain ⟨a2, ha2⟩ : ∃ a, a = Ph.allIn m 2000 := ⟨_, rfl⟩
  rw [← ha1] at HA1 HE1
  rw [← ha2] at HA2 HE2
  obtain ⟨T1, hT1⟩ : ∃ T, T = levErr n1 v := ⟨_, rfl⟩
  obtain ⟨T2, hT2⟩ : ∃ T, T = levErr n2 v := ⟨_, rfl⟩
  rw [← hT1] at HLV1 HE1
  rw [← hT2] at HLV2 HE2
  obtain ⟨E1, hE1⟩ : ∃ E, E = treeErr l v 1000 := ⟨_, rfl⟩
  obtain ⟨E2, hE2⟩ : ∃ E, E = treeErr m v 2000 := ⟨_, rfl⟩
  obtain ⟨F2, hF2⟩ : ∃ E, E = tinvErr m v := ⟨_, rfl⟩
  rw [← hE1] at HT HF HE1 HEB1
  rw [← hE2] at HBK HE2 HTI
  rw [← hF2] at HBK HI HEB2 HTI
  obtain ⟨X1, hX1⟩ : ∃ X, X = Ph.treeF v.toNat l := ⟨_, rfl⟩
  obtain ⟨X2, hX2⟩ : ∃ X, X = tinvOut m v := ⟨_, rfl⟩
  rw [← hX1] at HT HF
  rw [← hX2] at HBK HI
  clear h1 h2 hb1 hb2 hg ha1 ha2 hT1 hT2 hE1 hE2 hF2 hX1 hX2
  go_enter Tryd.func4, Tryd.ntmps4
  go_wp2_with fail
  refine (HLV1.out _).mono ?_
  rintro e wk ⟨rfl, rfl⟩
  go_upto_if 20 with (fail)
  go_cut [7, 8] (fun s7 _ wx => s7 = .int .i64 E1 ∧ Hid (Below w.heap.size w wx))
  case first =>
    by_cases hT : T1 = 0
    · have hTb : (T1 == 0) = true := by simp [hT]
      have HT0 := Lib.hid hT
      clear hT
      cases a1 with
      | true =>
        have HE : Hid (E1 = 0) := Lib.hid (by rw [HE1.out, if_neg (by rw [HT0.out]; omega), if_pos rfl])
        go_wp2_with fail
        refine (HA1.out _ H1.out).mono ?_
        rintro e wk ⟨rfl, rfl⟩
        go_wp2_with fail
        go_meet
        case rel => exact ⟨by rw [HE.out, HT0.out], Lib.hid (Below.refl _ _)⟩
      | false =>
        have HE : Hid (E1 = 1) := Lib.hid (by rw [HE1.out, if_neg (by rw [HT0.out]; omega), if_neg (by simp)])
        go_wp2_with fail
        refine (HA1.out _ H1.out).mono ?_
        rintro e wk ⟨rfl, rfl⟩
        go_wp2_with fail
        go_meet
        case rel => exact ⟨by rw [HE.out], Lib.hid (Below.refl _ _)⟩
    · have hTb : (T1 == 0) = false := by simp [hT]
      have HE : Hid (E1 = T1) := Lib.hid (by rw [HE1.out, if_pos hT])
      clear hT
      go_wp2_with fail
      go_meet
      case rel => exact ⟨by rw [HE.out], Lib.hid (Below.refl _ _)⟩
  case rest =>
    obtain ⟨rfl, HB1⟩ := hcut
    clear HLV1 HA1 HE1
    go_upto_if 26 with (fail)
    go_cut [9] (fun s9 wx => (∃ A n c, s9 = .slice A n c ∧ n ≤ 100000 ∧ Hid (RdI wx wx.heap.size A n (if E1 = 0 then X1 else []))) ∧ Hid (Below w.heap.size w wx))
    case first =>
      by_cases hE : E1 = 0
      · have hEb : (E1 == 0) = true := by simp [hE]
        have HE := Lib.hid hE
        clear hE
        go_wp2_with fail
        refine (HT.out _ (H1.out.below HB1.out) HB1.out.size HE.out).mono ?_
        rintro e w2 ⟨A3, n3, c3, rfl, hn3, hr3, hb3⟩
        have HR3 := Lib.hid hr3
        have HB3 := Lib.hid (below_on HB1.out hb3)
        clear hr3 hb3
        go_wp2_with fail
        go_meet
        case rel => exact ⟨⟨A3, n3, c3, rfl, hn3, Lib.hid (by rw [if_pos HE.out]; exact HR3.out)⟩, HB3⟩
      · have hEb : (E1 == 0) = false := by simp [hE]
        have HE := Lib.hid hE
        clear hE
        go_wp2_with fail
        go_meet
        case rel => exact ⟨⟨none, 0, 0, rfl, by omega, Lib.hid (by rw [if_neg HE.out]; exact RdI.nil)⟩, HB1⟩
    case rest =>
      obtain ⟨⟨A3, n3, c3, rfl, hn3, HW3⟩, HB3⟩ := hcut
      clear HB1 HT
      go_wp2_with fail
      refine (HF.out _ (H1.out.below HB3.out) HB3.out.size).mono ?_
      rintro e w4 ⟨A4, n4, c4, rfl, hn4, hr4, hb4⟩
      have HW4 := Lib.hid (HW3.out.on hb4)
      have HR4 := Lib.hid hr4
      have HB4 := Lib.hid (below_on HB3.out hb4)
      clear hr4 hb4 HW3 HB3 HF
      go_wp2_with fail
      refine (herr_yes E1 _ (HG.out.below HB4.out) HEB1.out).mono ?_
      rintro e w5 ⟨rfl, hb5⟩
      have HW5 := Lib.hid (HW4.out.on hb5)
      have HR5 := Lib.hid (HR4.out.on hb5)
      have HB5 := Lib.hid (below_on HB4.out hb5)
      clear hb5 HW4 HR4 HB4
      go_wp2_with fail
      refine (ints_any A4 A3 n4 c4 n3 c3 _ _ _ _ _ HR5.out HW5.out (Nat.le_refl _) (Nat.le_refl _) (by omega)).mono ?_
      rintro e w6 ⟨rfl, hb6⟩
      have HB6 := Lib.hid (below_on HB5.out hb6)
      rw [sameI_true.2 rfl]
      clear hb6 HW5 HR5 HB5 HEB1 H1
      go_wp2_with fail
      refine (HLV2.out _).mono ?_
      rintro e wk ⟨rfl, rfl⟩
      go_upto_if 49 with (fail)
      go_cut [7, 13] (fun s7 _ wx => s7 = .int .i64 E2 ∧ Hid (Below w.heap.size w wx))
      case first =>
        by_cases hT : T2 = 0
        · have hTb : (T2 == 0) = true := by simp [hT]
          have HT0 := Lib.hid hT
          clear hT
          cases a2 with
          | true =>
            have HE : Hid (E2 = 0) := Lib.hid (by rw [HE2.out, if_neg (by rw [HT0.out]; omega), if_pos rfl])
            go_wp2_with fail
            refine (HA2.out _ (H2.out.below HB6.out)).mono ?_
            rintro e wk ⟨rfl, rfl⟩
            go_wp2_with fail
            go_meet
            case rel => exact ⟨by rw [HE.out, HT0.out], HB6⟩
          | false =>
            have HE : Hid (E2 = 1) := Lib.hid (by rw [HE2.out, if_neg (by rw [HT0.out]; omega), if_neg (by simp)])
            go_wp2_with fail
            refine (HA2.out _ (H2.out.below HB6.out)).mono ?_
            rintro e wk ⟨rfl, rfl⟩
            go_wp2_with fail
            go_meet
            case rel => exact ⟨by rw [HE.out], HB6⟩
        · have hTb : (T2 == 0) = false := by simp [hT]
          have HE : Hid (E2 = T2) := Lib.hid (by rw [HE2.out, if_pos hT])
          clear hT
          go_wp2_with fail
          go_meet
          case rel => exact ⟨by rw [HE.out], HB6⟩
      case rest =>
        obtain ⟨rfl, HB7⟩ := hcut
        clear HLV2 HA2 HE2 HB6
        go_upto_if 55 with (fail)
        go_cut [7, 9] (fun s7 s9 wx => s7 = .int .i64 F2 ∧ (∃ A n c, s9 = .slice A n c ∧ n ≤ 100000 ∧ Hid (RdI wx wx.heap.size A n (if F2 = 0 then X2 else []))) ∧ Hid (Below w.heap.size w wx))
        case first =>
          by_cases hE : E2 = 0
          · have hEb : (E2 == 0) = true := by simp [hE]
            have HE := Lib.hid hE
            clear hE
            go_wp2_with fail
            refine (HBK.out _ (H2.out.below HB7.out) HB7.out.size HE.out).mono ?_
            rintro e w8 ⟨A8, n8, c8, rfl, hn8, hr8, hb8⟩
            have HR8 := Lib.hid hr8
            have HB8 := Lib.hid (below_on HB7.out hb8)
            clear hr8 hb8
            go_wp2_with fail
            go_meet
            case rel => exact ⟨rfl, ⟨A8, n8, c8, rfl, hn8, HR8⟩, HB8⟩
          · have hEb : (E2 == 0) = false := by simp [hE]
            have HE := Lib.hid hE
            have HFE := Lib.hid (HTI.out hE)
            clear hE
            go_wp2_with fail
            go_meet
            case rel => exact ⟨by rw [HFE.out], ⟨none, 0, 0, rfl, by omega, Lib.hid (by rw [HFE.out, if_neg HE.out]; exact RdI.nil)⟩, HB7⟩
        case rest =>
          obtain ⟨rfl, ⟨A8, n8, c8, rfl, hn8, HW8⟩, HB8⟩ := hcut
          clear HB7 HBK HTI
          go_wp2_with fail
          refine (HI.out _ (H2.out.below HB8.out) HB8.out.size).mono ?_
          rintro e w9 ⟨A9, n9, c9, rfl, hn9, hr9, hb9⟩
          have HW9 := Lib.hid (HW8.out.on hb9)
          have HR9 := Lib.hid hr9
          have HB9 := Lib.hid (below_on HB8.out hb9)
          clear hr9 hb9 HW8 HB8 HI
          go_wp2_with fail
          refine (herr_yes F2 _ (HG.out.below HB9.out) HEB2.out).mono ?_
          rintro e w5 ⟨rfl, hb5⟩
          have HW5 := Lib.hid (HW9.out.on hb5)
          have HR5 := Lib.hid (HR9.out.on hb5)
          have HB5 := Lib.hid (below_on HB9.out hb5)
          clear hb5 HW9 HR9 HB9
          go_wp2_with fail
          refine (ints_any A9 A8 n9 c9 n8 c8 _ _ _ _ _ HR5.out HW5.out (Nat.le_refl _) (Nat.le_refl _) (by omega)).mono ?_
          rintro e w6 ⟨rfl, hb6⟩
          have HB10 := Lib.hid (below_on HB5.out hb6)
          rw [sameI_true.2 rfl]
          clear hb6 HW5 HR5 HB5
          go_wp2_with fail
          go_ret
          exact ⟨ret_true (by simp), HB10.out⟩
end Go.Proofs.YtbllboajhdmnhaaDoor
