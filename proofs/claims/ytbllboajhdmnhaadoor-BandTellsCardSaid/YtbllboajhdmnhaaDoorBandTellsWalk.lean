/- The walk of the law BandTells. -/
import Derived.Test.YtbllboajhdmnhaaDoorTold
import Derived.Test.YtbllboajhdmnhaaDoorRefBand
import Derived.Test.YtbllboajhdmnhaaDoorOpen
import Derived.BigQuiet
import Derived.Deep.DeepCutAuto
import Derived.Deep.CutBlock
import Derived.Deep.Cut
namespace Go.Proofs.YtbllboajhdmnhaaDoor
open Go.RowKit

/-- Lists are told, and a fault: none of them, if there is one. -/
def TellR (E : Int) (ls : List (List Int)) (w : World) (e : Ending) (w' : World) : Prop :=
  ∃ A n c, e = .returned (.tuple #[.slice A n c, errV E]) ∧ n ≤ 100000 ∧ RdR w' w'.heap.size A n (if E = 0 then ls else []) ∧ Below w.heap.size w w'
/-- Numbers are told, and a fault: none of them, if there is one. -/
def TellJ (E : Int) (l : List Int) (w : World) (e : Ending) (w' : World) : Prop :=
  ∃ A n c, e = .returned (.tuple #[.slice A n c, errV E]) ∧ n ≤ 100000 ∧ RdI w' w'.heap.size A n (if E = 0 then l else []) ∧ Below w.heap.size w w'
theorem rdR_nil (w : World) (B : Nat) : RdR w B none 0 [] := ⟨[], Rd.nil, trivial⟩
theorem bandErr_bd (s : List Int) : -100 ≤ Ph.bandErr s ∧ Ph.bandErr s ≤ 100 := by
  unfold Ph.bandErr
  split
  · omega
  · split
    · omega
    · split
      · split <;> omega
      · omega
theorem bandCheck_told (A : Option Addr) (n c : Nat) (s : List Int) (w : World) (B : Nat) (h : RdI w B A n s) (hn : n ≤ 100000000000000) :
    Calls Tryd.prog 70 #[.slice A n c] w fun e w' => e = .returned (.tuple #[.int .i64 (bandN s), errV (Ph.bandErr s)]) ∧ w = w' := by
  unfold bandN
  by_cases h0 : Ph.bandErr s = 0
  · rw [if_pos h0, h0, errV_zero]; exact bandCheck_ok A n c s w B h h0
  · rw [if_neg h0]; exact bandCheck_no A n c s w B h hn h0
theorem split_told (A1 : Option Addr) (n1 c1 : Nat) (l : List Int) (A2 : Option Addr) (n2 c2 : Nat) (s : List Int) (w : World) (B : Nat) (h1 : RdI w B A1 n1 l) (hc1 : n1 ≤ c1) (h2 : RdI w B A2 n2 s) (hB : B ≤ w.heap.size) (hn : n2 ≤ 100000000000000) :
    Calls Tryd.prog 72 #[.slice A1 n1 c1, .slice A2 n2 c2] w (TellR (splitErr l s) (Ph.cut l s) w) := by
  by_cases h0 : splitErr l s = 0
  · obtain ⟨hb, ht⟩ := splitErr_zero.1 h0
    have hs := Ph.bandErr_zero.1 hb
    have hl2 := h2.len
    refine (split_ok A1 n1 c1 l A2 n2 c2 s w B h1 hc1 h2 hB hb (by rw [ht, h1.len])).mono ?_
    rintro e w' ⟨A, c, vs, rfl, ho, hv, hbw⟩
    exact ⟨A, n2, c, by rw [h0]; rfl, by omega, by rw [if_pos h0]; exact RdR.own ho hv.rows, hbw⟩
  · refine (split_bad A1 n1 c1 l A2 n2 c2 s w B h2 hn h1.len h0).mono ?_
    rintro e w' ⟨rfl, rfl⟩
    exact ⟨none, 0, 0, rfl, by omega, by rw [if_neg h0]; exact rdR_nil _ _, Below.refl _ _⟩
theorem join_told (A1 : Option Addr) (n1 c1 : Nat) (m : List (List Int)) (A2 : Option Addr) (n2 c2 : Nat) (s : List Int) (w : World) (B : Nat) (h1 : RdR w B A1 n1 m) (h2 : RdI w B A2 n2 s) (hB : B ≤ w.heap.size) (hn : n2 ≤ 100000000000000) :
    Calls Tryd.prog 74 #[.slice A1 n1 c1, .slice A2 n2 c2] w (TellJ (joinErr m s) m.flatten w) := by
  by_cases h0 : joinErr m s = 0
  · obtain ⟨hb, hz⟩ := joinErr_zero.1 h0
    have hs := Ph.bandErr_zero.1 hb
    have hf := (flat_sizes hz).2
    refine (join_ok A1 n1 c1 m A2 n2 c2 s m.flatten w B h1 h2 hB h0 rfl).mono ?_
    rintro e w' ⟨A, c, rfl, ho, hbw⟩
    exact ⟨A, _, c, by rw [h0]; rfl, by omega, by rw [if_pos h0]; exact RdI.own ho, hbw⟩
  · refine (join_no A1 n1 c1 m A2 n2 c2 s w B h1 h2 hn h0).mono ?_
    rintro e w' ⟨rfl, rfl⟩
    exact ⟨none, 0, 0, rfl, by omega, by rw [if_neg h0]; exact RdI.nil, Below.refl _ _⟩
theorem splitErr_bd (l s : List Int) : -100 ≤ splitErr l s ∧ splitErr l s ≤ 100 := by
  unfold splitErr
  split
  · split <;> omega
  · exact bandErr_bd s
theorem joinErr_bd (m : List (List Int)) (s : List Int) : -100 ≤ joinErr m s ∧ joinErr m s ≤ 100 := by
  unfold joinErr
  split
  · split <;> omega
  · exact bandErr_bd s
theorem joinErr_differ {m : List (List Int)} {s : List Int} {k : Nat} (h0 : Ph.bandErr s = 0) (hk : k < m.length) (hx : ((m.getD k []).length : Int) ≠ s.getD k 0) : joinErr m s = 3 := by
  unfold joinErr
  rw [if_pos h0, if_neg]
  intro he
  exact hx (by rw [← he, sizesOf_getD hk])
theorem joinErr_many {m : List (List Int)} {s : List Int} (h0 : Ph.bandErr s = 0) (hx : m.length ≠ s.length) : joinErr m s = 3 := by
  unfold joinErr
  rw [if_pos h0, if_neg]
  intro he
  exact hx (by rw [← he, sizesOf_length])
set_option maxHeartbeats 4000000 in
set_option maxRecDepth 1000000 in
theorem bandTells_walk (w : World) (A0 : Option Addr) (n0 c0 : Nat) (s : List Int) (h0 : RdI w w.heap.size A0 n0 s) (hb0 : n0 ≤ c0 ∧ c0 ≤ 17592186044415) (_ : ∀ x ∈ s, Is64 x) (A1 : Option Addr) (n1 c1 : Nat) (l : List Int) (h1 : RdI w w.heap.size A1 n1 l) (hb1 : n1 ≤ c1 ∧ c1 ≤ 17592186044415) (_ : ∀ x ∈ l, Is64 x)
    (A2 : Option Addr) (n2 c2 : Nat) (m : List (List Int)) (h2 : RdR w w.heap.size A2 n2 m) (_hb2 : n2 ≤ c2 ∧ c2 ≤ 5864062014804) (_hm2 : ∀ l ∈ m, l.length ≤ 17592186044415 ∧ ∀ x ∈ l, Is64 x) (hg : Laid w) :
    Calls Tryd.prog 14 #[.slice A0 n0 c0, .slice A1 n1 c1, .slice A2 n2 c2] w fun e w' => e = .returned (.bool true) ∧ Below w.heap.size w w' := by
  have HG := Lib.hid hg
  have H0 := Lib.hid h0
  have H1 := Lib.hid h1
  have H2 := Lib.hid h2
  have HL0 := Lib.hid h0.len
  have HL1 := Lib.hid h1.len
  have HL2 := Lib.hid h2.len
  have hn0 : n0 ≤ 100000000000000 := by omega
  have hc1 := hb1.1
  have HRB := Lib.hid fun W hW => rbands_any A0 n0 c0 s W w.heap.size hW hn0
  have HCK := Lib.hid fun W hW => bandCheck_told A0 n0 c0 s W w.heap.size hW hn0
  have HRC : Hid (Ph.bandErr s = 0 → bandN s = n1 → ∀ W, RdI W w.heap.size A1 n1 l → RdI W w.heap.size A0 n0 s → w.heap.size ≤ W.heap.size → Calls Tryd.prog 71 #[.slice A1 n1 c1, .slice A0 n0 c0] W fun e w' => ∃ A c, e = .returned (.slice A n0 c) ∧ RdR w' w'.heap.size A n0 (Ph.cut l s) ∧ Below W.heap.size W w') := Lib.hid fun hz hN W hW1 hW0 hBW => by
    have hs := Ph.bandErr_zero.1 hz
    have ht : Ph.total s = n1 := by rw [← hN]; unfold bandN; rw [if_pos hz]
    exact rcut_any A1 n1 c1 l A0 n0 c0 s W w.heap.size hW1 hc1 hW0 hBW hs.2.2.1 (by rw [← h0.len]; exact hs.2.1) ht
  have HSP := Lib.hid fun W hW1 hW0 hBW => split_told A1 n1 c1 l A0 n0 c0 s W w.heap.size hW1 hc1 hW0 hBW hn0
  have HJN := Lib.hid fun W hW1 hW0 hBW => join_told A2 n2 c2 m A0 n0 c0 s W w.heap.size hW1 hW0 hBW hn0
  have HEB := Lib.hid (bandErr_bd s)
  have HFB := Lib.hid (splitErr_bd l s)
  have HSB := Lib.hid (joinErr_bd m s)
  have HF : Hid ((Ph.bandErr s ≠ 0 → splitErr l s = Ph.bandErr s) ∧ (Ph.bandErr s = 0 → (n1 : Int) ≠ bandN s → splitErr l s = 3) ∧ (Ph.bandErr s = 0 → (n1 : Int) = bandN s → splitErr l s = 0)) := Lib.hid (by
    unfold splitErr bandN
    refine ⟨fun h => if_neg h, fun h hne => ?_, fun h he => ?_⟩
    · rw [if_pos h, if_neg]; rw [if_pos h] at hne; rw [HL1.out]; omega
    · rw [if_pos h, if_pos]; rw [if_pos h] at he; rw [HL1.out]; omega)
  have HJ1 : Hid (Ph.bandErr s ≠ 0 → joinErr m s = Ph.bandErr s) := Lib.hid fun h => by unfold joinErr; rw [if_neg h]
  have HJ2 : Hid (Ph.bandErr s = 0 → n2 ≠ n0 → joinErr m s = 3) := Lib.hid fun h hne => joinErr_many h (by rw [HL2.out, HL0.out]; exact hne)
  have HJ3 : Hid (∀ k, k < n2 → Ph.bandErr s = 0 → ((m.getD k []).length : Int) ≠ s.getD k 0 → joinErr m s = 3) := Lib.hid fun k hk h hne => joinErr_differ h (by rw [HL2.out]; exact hk) hne
  have HJ0 : Hid (Ph.bandErr s = 0 → n2 = n0 → (∀ k, k < n2 → ((m.getD k []).length : Int) = s.getD k 0) → joinErr m s = 0) := Lib.hid fun h hn hx => joinErr_zero.2 ⟨h, sizesOf_of (by rw [HL2.out, HL0.out, hn]) fun k hk => hx k (by rw [HL2.out] at hk; exact hk)⟩
  have HN8 : Hid (Ph.bandErr s = 0 → n0 ≤ 8 ∧ ∀ k, k < n0 → 1 ≤ s.getD k 0 ∧ s.getD k 0 ≤ 6) := Lib.hid fun h => by
    have hs := Ph.bandErr_zero.1 h
    exact ⟨by rw [← h0.len]; exact hs.2.1, fun k hk => hs.2.2.1 _ (Ph.getD_mem (by rw [h0.len]; exact hk))⟩
  have HCL : Hid (∀ b ∈ (if splitErr l s = 0 then Ph.cut l s else []), b.length ≤ 100000000000000) := Lib.hid fun b hb => by
    by_cases hz : splitErr l s = 0
    · rw [if_pos hz] at hb
      obtain ⟨hb0, ht⟩ := splitErr_zero.1 hz
      have hm := sizesOf_mem hb
      rw [(sizes_cut hb0 ht).1] at hm
      have := (Ph.bandErr_zero.1 hb0).2.2.1 _ hm
      omega
    · rw [if_neg hz] at hb; cases hb
  obtain ⟨E, hE⟩ : ∃ E, E = Ph.bandErr s := ⟨_, rfl⟩
  obtain ⟨N, hN⟩ : ∃ N, N = bandN s := ⟨_, rfl⟩
  obtain ⟨F, hF⟩ : ∃ F, F = splitErr l s := ⟨_, rfl⟩
  obtain ⟨S, hS⟩ : ∃ S, S = joinErr m s := ⟨_, rfl⟩
  obtain ⟨CT, hCT⟩ : ∃ C, C = Ph.cut l s := ⟨_, rfl⟩
  rw [← hE] at HRB HCK HRC HEB HF HJ1 HJ2 HJ3 HJ0 HN8
  rw [← hN] at HRB HCK HRC HF
  rw [← hF] at HSP HFB HF HCL
  rw [← hS] at HJN HSB HJ1 HJ2 HJ3 HJ0
  rw [← hCT] at HRC HSP HCL
  clear h0 h1 h2 hb0 hb1 hg hE hN hF hS hCT
  go_enter Tryd.func14, Tryd.ntmps14
  go_wp2_with fail
  refine (HRB.out _ H0.out).mono ?_
  rintro e wk ⟨rfl, rfl⟩
  go_wp2_with fail
  refine (HCK.out _ H0.out).mono ?_
  rintro e wk ⟨rfl, rfl⟩
  go_wp2_with fail
  refine (herr_yes E _ HG.out HEB.out).mono ?_
  rintro e w1 ⟨rfl, hb⟩
  have HB1 := Lib.hid hb
  clear hb HRB HCK
  go_upto_region 6 with (fail)
  go_cut [46] (fun s46 wx => s46 = .bool (decide (E = 0) && decide ((n1 : Int) ≠ N)) ∧ Hid (Below w.heap.size w wx))
  case first =>
    by_cases hE : E = 0
    · have hEb : (E == 0) = true := by simp [hE]
      have HE := Lib.hid hE
      clear hE
      by_cases hN : (n1 : Int) = N
      · have hNb : ((n1 : Int) != N) = false := by simp [hN]
        have HN := Lib.hid hN
        clear hN
        go_wp2_with fail
        go_meet
        case rel => exact ⟨by simp [HN.out], HB1⟩
      · have hNb : ((n1 : Int) != N) = true := by simp [hN]
        have HN := Lib.hid hN
        clear hN
        go_wp2_with fail
        go_meet
        case rel => exact ⟨by simp [HN.out, HE.out], HB1⟩
    · have hEb : (E == 0) = false := by simp [hE]
      have HE := Lib.hid hE
      clear hE
      go_wp2_with fail
      go_meet
      case rel => exact ⟨by simp [HE.out], HB1⟩
  case rest =>
    obtain ⟨rfl, HB2⟩ := hcut
    clear HB1
    go_upto_if 46 with (fail)
    go_cut [12, 13] (fun s12 s13 wx => s12 = .int .i64 F ∧ (∃ A n c, s13 = .slice A n c ∧ n ≤ 100000 ∧ Hid (RdR wx wx.heap.size A n (if F = 0 then CT else []))) ∧ Hid (Below w.heap.size w wx))
    case first =>
      by_cases hE : E = 0
      · have hEb : (E == 0) = true := by simp [hE]
        have hn8 := (HN8.out hE).1
        have HE := Lib.hid hE
        clear hE
        by_cases hN : (n1 : Int) = N
        · have hdb : (decide (E = 0) && decide ((n1 : Int) ≠ N)) = false := by simp [hN]
          have HN := Lib.hid hN
          have HF0 := Lib.hid (HF.out.2.2 HE.out hN)
          rw [hdb]
          clear hN hdb
          go_wp2_with fail
          refine (HRC.out HE.out HN.out.symm _ (H1.out.below HB2.out) (H0.out.below HB2.out) HB2.out.size).mono ?_
          rintro e w2 ⟨A3, c3, rfl, hr3, hb3⟩
          have HR3 := Lib.hid hr3
          have HB3 := Lib.hid (below_on HB2.out hb3)
          clear hr3 hb3
          go_wp2_with fail
          go_meet
          case rel => exact ⟨by rw [HF0.out, HE.out], ⟨A3, n0, c3, rfl, by omega, Lib.hid (by rw [if_pos HF0.out]; exact HR3.out)⟩, HB3⟩
        · have hdb : (decide (E = 0) && decide ((n1 : Int) ≠ N)) = true := by simp [hN, HE.out]
          have HF0 := Lib.hid (HF.out.2.1 HE.out hN)
          rw [hdb]
          clear hN hdb
          go_wp2_with fail
          go_meet
          case rel => exact ⟨by rw [HF0.out], ⟨none, 0, 0, rfl, by omega, Lib.hid (by rw [if_neg (by rw [HF0.out]; omega)]; exact rdR_nil _ _)⟩, HB2⟩
      · have hEb : (E == 0) = false := by simp [hE]
        have hdb : (decide (E = 0) && decide ((n1 : Int) ≠ N)) = false := by simp [hE]
        have HF0 := Lib.hid (HF.out.1 hE)
        have HE := Lib.hid hE
        rw [hdb]
        clear hE hdb
        go_wp2_with fail
        go_meet
        case rel => exact ⟨by rw [HF0.out], ⟨none, 0, 0, rfl, by omega, Lib.hid (by rw [if_neg (by rw [HF0.out]; exact HE.out)]; exact rdR_nil _ _)⟩, HB2⟩
    case rest =>
      obtain ⟨rfl, ⟨A3, n3, c3, rfl, hn3, HW3⟩, HB3⟩ := hcut
      clear HB2 HRC HF
      go_wp2_with fail
      refine (HSP.out _ (H1.out.below HB3.out) (H0.out.below HB3.out) HB3.out.size).mono ?_
      rintro e w4 ⟨A4, n4, c4, rfl, hn4, hr4, hb4⟩
      have HW4 := Lib.hid (HW3.out.on hb4)
      have HR4 := Lib.hid hr4
      have HB4 := Lib.hid (below_on HB3.out hb4)
      clear hr4 hb4 HW3 HB3 HSP
      go_wp2_with fail
      refine (herr_yes F _ (HG.out.below HB4.out) HFB.out).mono ?_
      rintro e w5 ⟨rfl, hb5⟩
      have HW5 := Lib.hid (HW4.out.on hb5)
      have HR5 := Lib.hid (HR4.out.on hb5)
      have HB5 := Lib.hid (below_on HB4.out hb5)
      clear hb5 HW4 HR4 HB4
      go_wp2_with fail
      refine (lists_any A4 A3 n4 c4 n3 c3 _ _ _ _ _ HR5.out HW5.out (Nat.le_refl _) (Nat.le_refl _) (by omega) HCL.out).mono ?_
      rintro e w6 ⟨rfl, hb6⟩
      have HB6 := Lib.hid (below_on HB5.out hb6)
      rw [sameR_true.2 rfl]
      clear hb6 HW5 HR5 HB5 HFB HCL
      go_upto_region 13 with (fail)
      go_cut [74] (fun s74 wx => s74 = .bool (decide (E = 0) && decide (n2 ≠ n0)) ∧ Hid (Below w.heap.size w wx))
      case first =>
        by_cases hE : E = 0
        · have hEb : (E == 0) = true := by simp [hE]
          have HE := Lib.hid hE
          clear hE
          by_cases hN : n2 = n0
          · have hNb : ((n2 : Int) != (n0 : Int)) = false := by simp [hN]
            have HN := Lib.hid hN
            clear hN
            go_wp2_with fail
            go_meet
            case rel => exact ⟨by simp [HN.out], HB6⟩
          · have hNb : ((n2 : Int) != (n0 : Int)) = true := by simp; omega
            have HN := Lib.hid hN
            clear hN
            go_wp2_with fail
            go_meet
            case rel => exact ⟨by simp [HN.out, HE.out], HB6⟩
        · have hEb : (E == 0) = false := by simp [hE]
          have HE := Lib.hid hE
          clear hE
          go_wp2_with fail
          go_meet
          case rel => exact ⟨by simp [HE.out], HB6⟩
      case rest =>
        obtain ⟨rfl, HB7⟩ := hcut
        clear HB6
        go_upto_if 74 with (fail)
        go_cut [8] (fun s8 wx => (∃ T, s8 = .int .i64 T ∧ Hid ((T = 0 ∧ E = 0 ∧ n2 = n0) ∨ (T ≠ 0 ∧ T = S))) ∧ Hid (Below w.heap.size w wx))
        case first =>
          by_cases hE : E = 0
          · by_cases hN : n2 = n0
            · have hdb : (decide (E = 0) && decide (n2 ≠ n0)) = false := by simp [hN]
              have HE := Lib.hid hE
              have HN := Lib.hid hN
              rw [hdb]
              clear hE hN hdb
              go_wp2_with fail
              go_meet
              case rel => exact ⟨⟨E, rfl, Lib.hid (.inl ⟨HE.out, HE.out, HN.out⟩)⟩, HB7⟩
            · have hdb : (decide (E = 0) && decide (n2 ≠ n0)) = true := by simp [hN, hE]
              have HS3 := Lib.hid (HJ2.out hE hN)
              rw [hdb]
              clear hE hN hdb
              go_wp2_with fail
              go_meet
              case rel => exact ⟨⟨3, rfl, Lib.hid (.inr ⟨by omega, HS3.out.symm⟩)⟩, HB7⟩
          · have hdb : (decide (E = 0) && decide (n2 ≠ n0)) = false := by simp [hE]
            have HS3 := Lib.hid (HJ1.out hE)
            have HE := Lib.hid hE
            rw [hdb]
            clear hE hdb
            go_wp2_with fail
            go_meet
            case rel => exact ⟨⟨E, rfl, Lib.hid (.inr ⟨HE.out, HS3.out.symm⟩)⟩, HB7⟩
        case rest =>
          obtain ⟨⟨T, rfl, HT⟩, HB8⟩ := hcut
          rename World => w8
          clear HB7 HJ1 HJ2
          go_upto_block 0 with (fail)
          go_cut [8, 16, 17] (fun s8 s16 _ wx => s8 = .int .i64 S ∧ (∃ A n c, s16 = .slice A n c ∧ n ≤ 100000 ∧ Hid (RdI wx wx.heap.size A n (if S = 0 then m.flatten else []))) ∧ Hid (Below w.heap.size w wx))
          case first =>
            have hT := HT.out
            rcases hT with ⟨rfl, hE, hN⟩ | ⟨hT0, hTS⟩
            · subst hN
              have HE := Lib.hid hE
              have hn8 := (HN8.out hE).1
              clear hE HT
              go_wp2_with fail
              go_loopw [8, 16, 17] (fun s8 s16 i wr => ∃ k : Nat, k ≤ n2 ∧ i = .int .i64 k ∧ ((s8 = .int .i64 0 ∧ Hid (∀ j, j < k → ((m.getD j []).length : Int) = s.getD j 0) ∧ (∃ (A6 : Option Addr) (c6 : Nat) (o : List Int), s16 = .slice A6 o.length c6 ∧ o.length ≤ 6 * k ∧ wr.ownsRow w8.heap.size 3 1 (.slice A6 o.length c6) o.length (ivals o) ∧ Hid (o = (m.take k).flatten))) ∨ (Hid (S = 3) ∧ s8 = .int .i64 3 ∧ s16 = .slice none 0 0)) ∧ Hid (Below w8.heap.size w8 wr)) (fun _ _ i _ => n2 - (intOf i).toNat)
              case atStart => exact ⟨0, Nat.zero_le _, rfl, .inl ⟨rfl, Lib.hid fun j hj => absurd hj (by omega), none, 0, [], rfl, by simp, own_nil _ _ _, Lib.hid rfl⟩, Lib.hid (Below.refl _ _)⟩
              case round =>
                obtain ⟨k, hk, rfl, hcase, HBR⟩ := hrel
                rename World => wr
                have HBW := Lib.hid (below_on HB8.out HBR.out)
                rcases hcase with ⟨rfl, HJ, A6, c6, o, rfl, hol, hown, HO⟩ | ⟨HS3, rfl, rfl⟩
                · have HOW := Lib.hid hown
                  clear hown
                  by_cases hlt : k < n2
                  · obtain ⟨b1, o1, X1, d1, rfl, hbb1, hc1, hnil, hr1⟩ := (H2.out.below HBW.out).at2 hlt
                    obtain ⟨b2, o2, rfl, _, hc2⟩ := (H0.out.below HBW.out).at_ hlt
                    have hx6 := (HN8.out HE.out).2 k hlt
                    have hkl : k < m.length := by rw [HL2.out]; exact hlt
                    have HFT := Lib.hid (flat_take hkl)
                    have HX3 := Lib.hid (HJ3.out k hlt HE.out)
                    have hext : ((m.getD k []).length : Int) = s.getD k 0 → ∀ j, j < k + 1 → ((m.getD j []).length : Int) = s.getD j 0 := fun hx j hj => by
                      by_cases e : j < k
                      · exact HJ.out j e
                      · obtain rfl : j = k := by omega
                        exact hx
                    have HXT := Lib.hid hext
                    obtain ⟨L, hL⟩ : ∃ L, L = m.getD k [] := ⟨_, rfl⟩
                    obtain ⟨X, hX⟩ : ∃ X, X = s.getD k 0 := ⟨_, rfl⟩
                    rw [← hL] at hc1 hr1 HFT HX3 HXT
                    rw [← hX] at hc2 hx6 HX3 HXT
                    have HR1 := Lib.hid hr1
                    have HNL := Lib.hid hnil
                    have hlt' : (k : Int) < (n2 : Int) := by omega
                    clear hL hX hext hr1 hnil hkl hbb1
                    by_cases hx : (L.length : Int) = X
                    · have hq : ((L.length : Int) != X) = false := by simp [hx]
                      have HE2 := Lib.hid (HXT.out hx)
                      have hl6 : L.length ≤ 6 := by omega
                      clear hx
                      go_wp2_with fail
                      go_quiet (fail)
                      go_wp2_with (at_builtin; refine wpList_join _ (by rfl) _ _ (by rfl) w8 w8.heap.size A6 o.length c6 _ X1 L.length d1 _ w.heap.size (own_drewN HOW.out _) (below_drewN' HBR.out _) HBR.out.size (HR1.out.below (below_drewN' (Below.refl _ _) _)) HNL.out (by omega) (by rfl) (by rfl) ?_; intro A9 c9 w9 ho9 hb9)
                      have HO9 := Lib.hid ho9
                      have HB9 := Lib.hid hb9
                      clear ho9 hb9
                      go_wp2_with fail
                      go_roundw
                      case rel =>
                        refine ⟨k + 1, by omega, by go_num, .inl ⟨rfl, HE2, A9, c9, o ++ L, by rw [List.length_append], by rw [List.length_append]; omega, ?_, Lib.hid (by rw [HFT.out, ← HO.out])⟩, HB9⟩
                        rw [List.length_append]; exact HO9.out
                      case measure => simp [intOf]; omega
                    · have hq : ((L.length : Int) != X) = true := by simp [hx]
                      have HS3 := Lib.hid (HX3.out hx)
                      clear hx
                      go_wp2_with fail
                      go_quiet (fail)
                      go_wp2_with fail
                      go_roundw
                      case rel => exact ⟨k + 1, by omega, by go_num, .inr ⟨HS3, rfl, rfl⟩, Lib.hid (below_drewN' HBR.out _)⟩
                      case measure => simp [intOf]; omega
                  · obtain rfl : k = n2 := by omega
                    have HS0 : Hid (S = 0) := Lib.hid (HJ0.out HE.out (by trivial) HJ.out)
                    have HF : Hid (m.flatten = o) := Lib.hid (by rw [HO.out, List.take_of_length_le (by rw [HL2.out]; omega)])
                    go_wp2_with fail
                    go_meet
                    case rel => exact ⟨by rw [HS0.out], ⟨A6, o.length, c6, rfl, by omega, Lib.hid (by rw [if_pos HS0.out, HF.out]; exact RdI.own HOW.out)⟩, HBW⟩
                · by_cases hlt : k < n2
                  all_goals
                    go_wp2_with fail
                    go_meet
                  all_goals exact ⟨by rw [HS3.out], ⟨none, 0, 0, rfl, by omega, Lib.hid (by rw [if_neg (by rw [HS3.out]; omega)]; exact RdI.nil)⟩, HBW⟩
            · have hTb : (T == 0) = false := by simp [hT0]
              subst hTS
              have HT0 := Lib.hid hT0
              clear hT0 HT
              by_cases hn20 : 0 < n2
              all_goals
                go_wp2_with fail
                refine wp_loop_rounds 1 ?_
                rw [rounds_succ]
                go_wp2_with fail
                go_meet
              all_goals exact ⟨by rfl, ⟨none, 0, 0, rfl, by omega, Lib.hid (by rw [if_neg HT0.out]; exact RdI.nil)⟩, HB8⟩
          case rest =>
            obtain ⟨rfl, ⟨A9, n9, c9, rfl, hn9, HW9⟩, HB9⟩ := hcut
            clear HB8 HT HJ3 HJ0
            go_wp2_with fail
            refine (HJN.out _ (H2.out.below HB9.out) (H0.out.below HB9.out) HB9.out.size).mono ?_
            rintro e w4 ⟨A4, n4, c4, rfl, hn4, hr4, hb4⟩
            have HW4 := Lib.hid (HW9.out.on hb4)
            have HR4 := Lib.hid hr4
            have HB4 := Lib.hid (below_on HB9.out hb4)
            clear hr4 hb4 HW9 HB9 HJN
            go_wp2_with fail
            refine (herr_yes S _ (HG.out.below HB4.out) HSB.out).mono ?_
            rintro e w5 ⟨rfl, hb5⟩
            have HW5 := Lib.hid (HW4.out.on hb5)
            have HR5 := Lib.hid (HR4.out.on hb5)
            have HB5 := Lib.hid (below_on HB4.out hb5)
            clear hb5 HW4 HR4 HB4
            go_wp2_with fail
            refine (ints_any A4 A9 n4 c4 n9 c9 _ _ _ _ _ HR5.out HW5.out (Nat.le_refl _) (Nat.le_refl _) (by omega)).mono ?_
            rintro e w6 ⟨rfl, hb6⟩
            have HB10 := Lib.hid (below_on HB5.out hb6)
            rw [sameI_true.2 rfl]
            clear hb6 HW5 HR5 HB5
            go_wp2_with fail
            go_ret
            exact ⟨ret_true (by simp), HB10.out⟩
end Go.Proofs.YtbllboajhdmnhaaDoor
