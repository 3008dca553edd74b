/- The walk of the law PulseOnce. -/
import Derived.Test.YtmfddihgdnoecaaPulse3
import Derived.Test.YtmfddihgdnoecaaOpen
import Derived.Deep.DeepCutAuto
import Derived.Deep.Cut
import Derived.Deep.QuietTactic
import Derived.BigQuiet
namespace Go.Proofs.Ytmfddihgdnoecaa
open Go.RowKit

theorem pOf_some (n k r : Int) (w : World) : Calls Try.prog 33 #[.int .i64 n, .int .i64 k, .int .i64 r] w fun e w' => ∃ X Y, e = .returned (.tuple #[X, Y]) ∧ (ofOk n k r = true → Y = .nilIface) ∧ (ofOk n k r = false → Y = errV 1) ∧ Below w.heap.size w w' := by
  cases hok : ofOk n k r
  · refine (pOf_no n k r w hok).mono ?_
    rintro e w' ⟨rfl, hb⟩
    exact ⟨_, _, rfl, fun h => (by cases h), fun _ => rfl, hb⟩
  · have h := ofOk_iff.1 hok
    obtain ⟨n, rfl⟩ := Int.eq_ofNat_of_zero_le h.1.1.1
    obtain ⟨k, rfl⟩ := Int.eq_ofNat_of_zero_le h.1.2.1
    obtain ⟨r, rfl⟩ := Int.eq_ofNat_of_zero_le h.2.1
    simp only [Int.toNat_natCast] at h
    refine (pOf_ok n k r w (by omega) (by omega) (by omega)).mono ?_
    rintro e w' ⟨A, c, rfl, _, hb⟩
    exact ⟨_, _, rfl, fun _ => rfl, fun h => (by cases h), hb⟩
theorem far_le_loud : ∀ (v : List Int) (x : Int), x ∈ v → Ph.far x ≤ Ph.loud v
  | [], x, hx => by cases hx
  | y :: v, x, hx => by
    have h0 := Ph.loud_nonneg v
    have h1 := Ph.far_nonneg y
    simp only [Ph.loud]
    rcases List.mem_cons.1 hx with rfl | hx
    · omega
    · have := far_le_loud v x hx; omega
theorem rowOf_ok {n k r : Nat} (hn : n ≤ 6) (hk : k ≤ 8) (hr : r < Ph.cnt n k) : Ph.pulsesErr (Ph.rowOf n k r) = 0 ∧ Ph.rank (Ph.rowOf n k r) = r ∧ Ph.loud (Ph.rowOf n k r) = (k : Nat) ∧ (Ph.rowOf n k r).length = n := by
  have h := Ph.rank_rowOf n k r hr
  have hl : Ph.loud (Ph.rowOf n k r) = (k : Nat) := by rw [← Ph.loudN_int, h.2]
  have hlen := Ph.rowOf_length n k r
  refine ⟨Ph.pulsesErr_zero.2 ⟨by omega, Ph.allIn_iff.2 fun x hx => ?_, by omega⟩, h.1, hl, hlen⟩
  have h1 := far_le_loud _ x hx
  have h2 := (Ph.far_le (n := x) (m := 8)).1 (by omega)
  exact h2
set_option maxHeartbeats 2000000 in
set_option maxRecDepth 100000 in
theorem pulseOnce_no (w : World) (A : Option Addr) (n1 c1 : Nat) (v : List Int) (h : RdI w w.heap.size A n1 v) (hb : n1 ≤ c1 ∧ c1 ≤ 17592186044415) (E M : Int) (hE : E = Ph.pulsesErr v) (hM : M = if E = 0 then Ph.loud v else 0) (n k a b : Int) (hno : ofOk n k a = false ∨ ofOk n k b = false) :
    Calls Try.prog 13 #[.slice A n1 c1, .int .i64 n, .int .i64 k, .int .i64 a, .int .i64 b] w fun e w' => e = .returned (.bool true) ∧ Below w.heap.size w w' := by
  have HNO := Lib.hid hno
  clear hno
  have HL := Lib.hid h.len
  have HE : Hid (E = Ph.pulsesErr v) := Lib.hid hE
  have HM : Hid (M = if E = 0 then Ph.loud v else 0) := Lib.hid hM
  have CK : Hid (∀ W BB, RdI W BB A n1 v → BB ≤ W.heap.size → Calls Try.prog 32 #[.slice A n1 c1] W fun e w' => e = .returned (.tuple #[.int .i64 M, errV E]) ∧ Below W.heap.size W w') := Lib.hid fun W BB hW hBW => by
    rw [hM, hE]; exact pCheck_any A n1 c1 v W BB hW hBW (by omega)
  have HF := Lib.hid (rank_told (some ⟨w.heap.size, 0, none⟩) 2 2 [0, 1] _ _ (RdI.lit' w [0, 1] 3 #[.int .i64 0, .int .i64 1] rfl) (Nat.le_refl _) (by omega))
  have hf0 : Ph.pulsesErr [0, 1] = 0 := by decide +kernel
  have hf1 : Ph.rank [0, 1] = 2 := by decide +kernel
  rw [hf0, if_pos rfl, errV_zero, hf1] at HF
  have H := Lib.hid (h.onAlloc (.cells #[.int .i64 0, .int .i64 1] 3))
  have HB := Lib.hid (below_alloc0 w (.cells #[.int .i64 0, .int .i64 1] 3))
  clear h hE hM hf0 hf1
  go_enter Try.func13, Try.ntmps13
  go_wp2_with fail
  refine HF.out.mono ?_
  rintro e w1 ⟨rfl, hb1⟩
  have H1 := Lib.hid (H.out.on hb1)
  have HB1 := Lib.hid (below_on HB.out hb1)
  clear hb1 HF
  go_wp2_with fail
  refine (CK.out _ _ H1.out (Nat.le_refl _)).mono ?_
  rintro e w2 ⟨rfl, hb2⟩
  have H2 := Lib.hid (H1.out.on hb2)
  have HB2 := Lib.hid (below_on HB1.out hb2)
  clear hb2 H1 HB1 CK
  go_upto_region 5 with (fail)
  go_cut [13, 14, 45] (fun s13 _ s45 wx => ∃ B : Bool, s45 = .bool B ∧ Hid (B = true → E = 0 ∧ s13 = .int .i64 (Ph.loudN v : Nat)) ∧ Hid (RdI wx wx.heap.size A n1 v) ∧ Hid (Below w.heap.size w wx))
  case first =>
    by_cases hE : E = 0
    · have he := errV_of hE
      have hm : M = (Ph.loudN v : Nat) := by rw [HM.out, if_pos hE, Ph.loudN_int]
      have HMM := Lib.hid hm
      have HE0 := Lib.hid hE
      clear hE hm
      go_wp2_with fail
      go_meet
      case rel => exact ⟨true, rfl, Lib.hid (fun _ => ⟨HE0.out, by rw [HMM.out]⟩), H2, HB2⟩
    · have he := errV_ne hE
      clear hE
      go_wp2_with fail
      go_meet
      case rel => exact ⟨false, rfl, Lib.hid (fun h => by cases h), H2, HB2⟩
  case rest =>
    obtain ⟨B, rfl, HBB, N1, NB⟩ := hcut
    clear H2 HB2
    rename World => wc
    go_upto_if 45 with (fail)
    go_cut [13, 14] (fun _ _ wx => Hid (Below w.heap.size w wx))
    case first =>
      cases B
      · go_wp2_with fail
        go_meet
        case rel => exact NB
      · obtain ⟨hE, rfl⟩ := HBB.out rfl
        have hE2 : Ph.pulsesErr v = 0 := HE.out.symm.trans hE
        have hp := Ph.pulsesErr_zero.1 hE2
        have hl := HL.out
        have hn6 : n1 ≤ 6 := by omega
        have hL8 : Ph.loudN v ≤ 8 := by have := Ph.loudN_int v; omega
        have hrk := Ph.rank_lt v
        have hrow := Ph.rowOf_rank v
        rw [hl] at hrk hrow
        have hc9 := Ph.cnt_le n1 (Ph.loudN v) hn6 hL8
        have R1 := Lib.hid fun W BB hW hBW => rank_told A n1 c1 v W BB hW hBW (by omega)
        rw [hE2, if_pos rfl, errV_zero] at R1
        have R2 := Lib.hid fun W => pOf_ok n1 (Ph.loudN v) (Ph.rank v) W hn6 hL8 hrk
        rw [hrow] at R2
        have R3 := Lib.hid fun W => cOf_ok n1 (Ph.loudN v) W hn6 hL8
        obtain ⟨Q, hQ⟩ : ∃ Q, Q = Ph.rank v := ⟨_, rfl⟩
        obtain ⟨C, hC⟩ : ∃ C, C = Ph.cnt n1 (Ph.loudN v) := ⟨_, rfl⟩
        obtain ⟨L, hL⟩ : ∃ L, L = Ph.loudN v := ⟨_, rfl⟩
        rw [← hQ] at R1 R2 hrk
        rw [← hC] at R3 hrk hc9
        rw [← hL] at R2 R3 ⊢
        have hQC : (Q : Int) < (C : Int) := by omega
        clear hE hE2 hp hl hL8 hrow HBB hQ hC hL
        go_wp2_with fail
        refine (R1.out _ _ N1.out (Nat.le_refl _)).mono ?_
        rintro e w3 ⟨rfl, hb3⟩
        have N2 := Lib.hid (N1.out.on hb3)
        have NB2 := Lib.hid (below_on NB.out hb3)
        clear hb3 N1 NB R1
        go_wp2_with fail
        refine (R2.out _).mono ?_
        rintro e w4 ⟨A4, c4, rfl, ho4, hb4⟩
        have N3 := Lib.hid (N2.out.on hb4)
        have V3 := Lib.hid (RdI.own ho4)
        have NB3 := Lib.hid (below_on NB2.out hb4)
        clear hb4 ho4 N2 NB2 R2
        go_wp2_with fail
        refine (R3.out _).mono ?_
        rintro e w5 ⟨rfl, hb5⟩
        have N4 := Lib.hid (N3.out.on hb5)
        have V4 := Lib.hid (V3.out.on hb5)
        have NB4 := Lib.hid (below_on NB3.out hb5)
        clear hb5 N3 V3 NB3 R3
        go_wp2_with fail
        refine (ints_any A4 A n1 c4 n1 c1 v v _ _ _ V4.out N4.out (Nat.le_refl _) (Nat.le_refl _) (by omega)).mono ?_
        rintro e w6 ⟨rfl, hb6⟩
        rw [sameI_true.2 (rfl : v = v)]
        have NB5 := Lib.hid (below_on NB4.out hb6)
        clear hb6 N4 V4 NB4
        go_wp2_with fail
        go_meet
        case rel => exact NB5
    case rest =>
      have UB := hcut
      clear hcut N1 NB HBB
      rename World => w7
      go_wp2_with fail
      refine (pOf_some n k a _).mono ?_
      rintro e w8 ⟨X, Y, rfl, hY1, hY2, hb8⟩
      have HB8 := Lib.hid (below_on UB.out hb8)
      have HY := Lib.hid (And.intro hY1 hY2)
      clear hb8 UB hY1 hY2
      go_wp2_with fail
      refine (pOf_some n k b _).mono ?_
      rintro e w9 ⟨X2, Y2, rfl, hY3, hY4, hb9⟩
      have HB9 := Lib.hid (below_on HB8.out hb9)
      have HY2 := Lib.hid (And.intro hY3 hY4)
      clear hb9 HB8 hY3 hY4
      cases ha : ofOk n k a
      · have e1 : Y = .iface 37 (.int .i64 1) := (HY.out.2 ha).trans (errV_ne (by omega))
        clear ha
        subst e1
        go_wp2_with fail
        go_ret
        exact ⟨rfl, HB9.out⟩
      · have e1 : Y = .nilIface := HY.out.1 ha
        have e2 : Y2 = .iface 37 (.int .i64 1) := by
          rcases HNO.out with h1 | h1
          · rw [h1] at ha; cases ha
          · exact (HY2.out.2 h1).trans (errV_ne (by omega))
        clear ha
        subst e1
        subst e2
        go_wp2_with fail
        go_ret
        exact ⟨rfl, HB9.out⟩
set_option maxHeartbeats 2000000 in
set_option maxRecDepth 100000 in
theorem pulseOnce_yes (w : World) (A : Option Addr) (n1 c1 : Nat) (v : List Int) (h : RdI w w.heap.size A n1 v) (hb : n1 ≤ c1 ∧ c1 ≤ 17592186044415) (E M : Int) (hE : E = Ph.pulsesErr v) (hM : M = if E = 0 then Ph.loud v else 0) (n k a b : Nat) (hn : n ≤ 6) (hk : k ≤ 8) (ha : a < Ph.cnt n k) (hb' : b < Ph.cnt n k) :
    Calls Try.prog 13 #[.slice A n1 c1, .int .i64 n, .int .i64 k, .int .i64 a, .int .i64 b] w fun e w' => e = .returned (.bool true) ∧ Below w.heap.size w w' := by
  have S1 := Lib.hid fun W => pOf_ok n k a W hn hk ha
  have S2 := Lib.hid fun W => pOf_ok n k b W hn hk hb'
  have X1 := rowOf_ok hn hk ha
  have X2 := rowOf_ok hn hk hb'
  have HNA := Lib.hid fun i h1 h2 h3 => Ph.rank_order (Ph.rowOf n k a) (Ph.rowOf n k b) i (by rw [X1.2.2.2, X2.2.2.2]) (by have h4 := Ph.loudN_int (Ph.rowOf n k a); have h5 := Ph.loudN_int (Ph.rowOf n k b); rw [X1.2.2.1] at h4; rw [X2.2.2.1] at h5; omega) h1 h2 h3
  have HNB := Lib.hid fun i h1 h2 h3 => Ph.rank_order (Ph.rowOf n k b) (Ph.rowOf n k a) i (by rw [X1.2.2.2, X2.2.2.2]) (by have h4 := Ph.loudN_int (Ph.rowOf n k a); have h5 := Ph.loudN_int (Ph.rowOf n k b); rw [X1.2.2.1] at h4; rw [X2.2.2.1] at h5; omega) h1 h2 h3
  rw [X1.2.1, X2.2.1] at HNA HNB
  have HSE : Hid (Ph.rowOf n k a = Ph.rowOf n k b → a = b) := Lib.hid fun h => by rw [← X1.2.1, ← X2.2.1, h]
  have T1 := Lib.hid fun A c W BB hW hBW => rank_told A n c (Ph.rowOf n k a) W BB hW hBW (by omega)
  have T2 := Lib.hid fun A c W BB hW hBW => pCheck_any A n c (Ph.rowOf n k a) W BB hW hBW (by omega)
  rw [X1.1, if_pos rfl, errV_zero, X1.2.1] at T1
  rw [X1.1, if_pos rfl, errV_zero, X1.2.2.1] at T2
  have HX1 := Lib.hid X1.2.2.2
  have HX2 := Lib.hid X2.2.2.2
  have hc9 := Ph.cnt_le n k hn hk
  have ha9 : a ≤ 100000 := by omega
  have hb9 : b ≤ 100000 := by omega
  obtain ⟨x, hx⟩ : ∃ x, x = Ph.rowOf n k a := ⟨_, rfl⟩
  obtain ⟨y, hy⟩ : ∃ y, y = Ph.rowOf n k b := ⟨_, rfl⟩
  rw [← hx] at S1 HNA HNB HSE T1 T2 HX1
  rw [← hy] at S2 HNA HNB HSE HX2
  clear X1 X2 ha hb' hx hy hc9
  have HL := Lib.hid h.len
  have HE : Hid (E = Ph.pulsesErr v) := Lib.hid hE
  have HM : Hid (M = if E = 0 then Ph.loud v else 0) := Lib.hid hM
  have CK : Hid (∀ W BB, RdI W BB A n1 v → BB ≤ W.heap.size → Calls Try.prog 32 #[.slice A n1 c1] W fun e w' => e = .returned (.tuple #[.int .i64 M, errV E]) ∧ Below W.heap.size W w') := Lib.hid fun W BB hW hBW => by
    rw [hM, hE]; exact pCheck_any A n1 c1 v W BB hW hBW (by omega)
  have HF := Lib.hid (rank_told (some ⟨w.heap.size, 0, none⟩) 2 2 [0, 1] _ _ (RdI.lit' w [0, 1] 3 #[.int .i64 0, .int .i64 1] rfl) (Nat.le_refl _) (by omega))
  have hf0 : Ph.pulsesErr [0, 1] = 0 := by decide +kernel
  have hf1 : Ph.rank [0, 1] = 2 := by decide +kernel
  rw [hf0, if_pos rfl, errV_zero, hf1] at HF
  have H := Lib.hid (h.onAlloc (.cells #[.int .i64 0, .int .i64 1] 3))
  have HB := Lib.hid (below_alloc0 w (.cells #[.int .i64 0, .int .i64 1] 3))
  clear h hE hM hf0 hf1
  go_enter Try.func13, Try.ntmps13
  go_wp2_with fail
  refine HF.out.mono ?_
  rintro e w1 ⟨rfl, hb1⟩
  have H1 := Lib.hid (H.out.on hb1)
  have HB1 := Lib.hid (below_on HB.out hb1)
  clear hb1 HF
  go_wp2_with fail
  refine (CK.out _ _ H1.out (Nat.le_refl _)).mono ?_
  rintro e w2 ⟨rfl, hb2⟩
  have H2 := Lib.hid (H1.out.on hb2)
  have HB2 := Lib.hid (below_on HB1.out hb2)
  clear hb2 H1 HB1 CK
  go_upto_region 5 with (fail)
  go_cut [13, 14, 45] (fun s13 _ s45 wx => ∃ B : Bool, s45 = .bool B ∧ Hid (B = true → E = 0 ∧ s13 = .int .i64 (Ph.loudN v : Nat)) ∧ Hid (RdI wx wx.heap.size A n1 v) ∧ Hid (Below w.heap.size w wx))
  case first =>
    by_cases hE : E = 0
    · have he := errV_of hE
      have hm : M = (Ph.loudN v : Nat) := by rw [HM.out, if_pos hE, Ph.loudN_int]
      have HMM := Lib.hid hm
      have HE0 := Lib.hid hE
      clear hE hm
      go_wp2_with fail
      go_meet
      case rel => exact ⟨true, rfl, Lib.hid (fun _ => ⟨HE0.out, by rw [HMM.out]⟩), H2, HB2⟩
    · have he := errV_ne hE
      clear hE
      go_wp2_with fail
      go_meet
      case rel => exact ⟨false, rfl, Lib.hid (fun h => by cases h), H2, HB2⟩
  case rest =>
    obtain ⟨B, rfl, HBB, N1, NB⟩ := hcut
    clear H2 HB2
    rename World => wc
    go_upto_if 45 with (fail)
    go_cut [13, 14] (fun _ _ wx => Hid (Below w.heap.size w wx))
    case first =>
      cases B
      · go_wp2_with fail
        go_meet
        case rel => exact NB
      · obtain ⟨hE, rfl⟩ := HBB.out rfl
        have hE2 : Ph.pulsesErr v = 0 := HE.out.symm.trans hE
        have hp := Ph.pulsesErr_zero.1 hE2
        have hl := HL.out
        have hn6 : n1 ≤ 6 := by omega
        have hL8 : Ph.loudN v ≤ 8 := by have := Ph.loudN_int v; omega
        have hrk := Ph.rank_lt v
        have hrow := Ph.rowOf_rank v
        rw [hl] at hrk hrow
        have hc9 := Ph.cnt_le n1 (Ph.loudN v) hn6 hL8
        have R1 := Lib.hid fun W BB hW hBW => rank_told A n1 c1 v W BB hW hBW (by omega)
        rw [hE2, if_pos rfl, errV_zero] at R1
        have R2 := Lib.hid fun W => pOf_ok n1 (Ph.loudN v) (Ph.rank v) W hn6 hL8 hrk
        rw [hrow] at R2
        have R3 := Lib.hid fun W => cOf_ok n1 (Ph.loudN v) W hn6 hL8
        obtain ⟨Q, hQ⟩ : ∃ Q, Q = Ph.rank v := ⟨_, rfl⟩
        obtain ⟨C, hC⟩ : ∃ C, C = Ph.cnt n1 (Ph.loudN v) := ⟨_, rfl⟩
        obtain ⟨L, hL⟩ : ∃ L, L = Ph.loudN v := ⟨_, rfl⟩
        rw [← hQ] at R1 R2 hrk
        rw [← hC] at R3 hrk hc9
        rw [← hL] at R2 R3 ⊢
        have hQC : (Q : Int) < (C : Int) := by omega
        clear hE hE2 hp hl hL8 hrow HBB hQ hC hL
        go_wp2_with fail
        refine (R1.out _ _ N1.out (Nat.le_refl _)).mono ?_
        rintro e w3 ⟨rfl, hb3⟩
        have N2 := Lib.hid (N1.out.on hb3)
        have NB2 := Lib.hid (below_on NB.out hb3)
        clear hb3 N1 NB R1
        go_wp2_with fail
        refine (R2.out _).mono ?_
        rintro e w4 ⟨A4, c4, rfl, ho4, hb4⟩
        have N3 := Lib.hid (N2.out.on hb4)
        have V3 := Lib.hid (RdI.own ho4)
        have NB3 := Lib.hid (below_on NB2.out hb4)
        clear hb4 ho4 N2 NB2 R2
        go_wp2_with fail
        refine (R3.out _).mono ?_
        rintro e w5 ⟨rfl, hb5⟩
        have N4 := Lib.hid (N3.out.on hb5)
        have V4 := Lib.hid (V3.out.on hb5)
        have NB4 := Lib.hid (below_on NB3.out hb5)
        clear hb5 N3 V3 NB3 R3
        go_wp2_with fail
        refine (ints_any A4 A n1 c4 n1 c1 v v _ _ _ V4.out N4.out (Nat.le_refl _) (Nat.le_refl _) (by omega)).mono ?_
        rintro e w6 ⟨rfl, hb6⟩
        rw [sameI_true.2 (rfl : v = v)]
        have NB5 := Lib.hid (below_on NB4.out hb6)
        clear hb6 N4 V4 NB4
        go_wp2_with fail
        go_meet
        case rel => exact NB5
    case rest =>
      have UB := hcut
      clear hcut N1 NB HBB
      rename World => w7
      go_wp2_with fail
      refine (S1.out _).mono ?_
      rintro e w8 ⟨A8, c8, rfl, ho8, hb8⟩
      have HB8 := Lib.hid (below_on UB.out hb8)
      have P1 := Lib.hid (RdI.own ho8)
      clear hb8 UB ho8 S1
      go_wp2_with fail
      refine (S2.out _).mono ?_
      rintro e w9 ⟨A9, c9, rfl, ho9, hb9⟩
      have HB9 := Lib.hid (below_on HB8.out hb9)
      have P2 := Lib.hid (P1.out.on hb9)
      have Q2 := Lib.hid (RdI.own ho9)
      clear hb9 HB8 ho9 P1 S2
      go_wp2_with fail
      refine (T1.out _ _ _ _ P2.out (Nat.le_refl _)).mono ?_
      rintro e w10 ⟨rfl, hb10⟩
      have HB10 := Lib.hid (below_on HB9.out hb10)
      have P3 := Lib.hid (P2.out.on hb10)
      have Q3 := Lib.hid (Q2.out.on hb10)
      clear hb10 HB9 P2 Q2 T1
      go_wp2_with fail
      refine (T2.out _ _ _ _ P3.out (Nat.le_refl _)).mono ?_
      rintro e w11 ⟨rfl, hb11⟩
      have HB11 := Lib.hid (below_on HB10.out hb11)
      have P4 := Lib.hid (P3.out.on hb11)
      have Q4 := Lib.hid (Q3.out.on hb11)
      clear hb11 HB10 P3 Q3 T2
      go_wp2_with fail
      go_loopw [27] (fun i wr => ∃ m : Nat, m ≤ n ∧ i = .int .i64 m ∧ Hid (∀ j, j < m → x.getD j 0 = y.getD j 0) ∧ Below w11.heap.size w11 wr) (fun i _ => n - (intOf i).toNat)
      case atStart => exact ⟨0, Nat.zero_le _, rfl, Lib.hid (fun j hj => by omega), Below.refl _ _⟩
      case round =>
        obtain ⟨m, hm, rfl, HEQ, hbw⟩ := hrel
        by_cases hlt : m < n
        · obtain ⟨p1, o1, rfl, _, hc1⟩ := (P4.out.below hbw).at_ hlt
          obtain ⟨p2, o2, rfl, _, hc2⟩ := (Q4.out.below hbw).at_ hlt
          have k1 : (m : Int) < (n : Int) := by omega
          have k2 : (0 : Int) ≤ (m : Int) := by omega
          have HORD : Hid ((x.getD m 0 < y.getD m 0 → a < b) ∧ (y.getD m 0 < x.getD m 0 → b < a)) := Lib.hid ⟨fun h1 => HNA.out m (by rw [HX1.out]; exact hlt) HEQ.out h1, fun h1 => HNB.out m (by rw [HX2.out]; exact hlt) (fun j hj => (HEQ.out j hj).symm) h1⟩
          obtain ⟨xm, hxm⟩ : ∃ xm, xm = x.getD m 0 := ⟨_, rfl⟩
          obtain ⟨ym, hym⟩ : ∃ ym, ym = y.getD m 0 := ⟨_, rfl⟩
          rw [← hxm] at hc1 HORD
          rw [← hym] at hc2 HORD
          have HXM := Lib.hid hxm
          have HYM := Lib.hid hym
          have HBW := Lib.hid hbw
          clear hxm hym hbw
          rcases (show xm = ym ∨ xm < ym ∨ ym < xm by omega) with hq | hq | hq
          · have hne : (xm != ym) = false := by simp [hq]
            have HQ := Lib.hid hq
            clear hq
            go_wp2_with fail
            go_quiet (fail)
            go_wp2_with fail
            go_roundw
            case rel =>
              refine ⟨m + 1, by omega, by go_num, Lib.hid fun j hj => ?_, below_drewN' HBW.out _⟩
              by_cases hjm : j < m
              · exact HEQ.out j hjm
              · have e : j = m := by omega
                rw [e, ← HXM.out, ← HYM.out]; exact HQ.out
            case measure => simp [intOf]; omega
          · have hne : (xm != ym) = true := by simp; omega
            have hab := HORD.out.1 hq
            have hab' : (a : Int) < (b : Int) := by omega
            have hl1 : decide (xm < ym) = true := by simpa using hq
            have hl2 : decide ((a : Int) < (b : Int)) = true := by simpa using hab'
            clear hq hab
            go_wp2_with fail
            go_quiet (fail)
            go_wp2_with fail
            go_quiet (fail)
            go_wp2_with fail
            go_ret
            exact ⟨ret_true (by first | rfl | (simp; done) | (simp; omega)), HB11.out.trans ((below_drewN' (below_drewN' HBW.out _) _).mono HB11.out.size)⟩
          · have hne : (xm != ym) = true := by simp; omega
            have hab := HORD.out.2 hq
            have hab' : ¬ (a : Int) < (b : Int) := by omega
            have hl1 : decide (xm < ym) = false := by simp; omega
            have hl2 : decide ((a : Int) < (b : Int)) = false := by simp; omega
            clear hq hab
            go_wp2_with fail
            go_quiet (fail)
            go_wp2_with fail
            go_quiet (fail)
            go_wp2_with fail
            go_ret
            exact ⟨ret_true (by first | rfl | (simp; done) | (simp; omega)), HB11.out.trans ((below_drewN' (below_drewN' HBW.out _) _).mono HB11.out.size)⟩
        · have hab : a = b := HSE.out (Ph.ext_getD (by rw [HX1.out, HX2.out]) fun i hi => HEQ.out i (by rw [HX1.out] at hi; omega))
          have heq : ((a : Int) == (b : Int)) = true := by simp [hab]
          clear hab
          go_wp2_with fail
          go_ret
          exact ⟨ret_true (by first | rfl | exact heq | simp [heq]), HB11.out.trans (hbw.mono HB11.out.size)⟩
theorem pulseOnce_walk (w : World) (A : Option Addr) (n1 c1 : Nat) (v : List Int) (h : RdI w w.heap.size A n1 v) (hb : n1 ≤ c1 ∧ c1 ≤ 17592186044415) (_ : ∀ x ∈ v, Is64 x) (n k a b : Int) :
    Calls Try.prog 13 #[.slice A n1 c1, .int .i64 n, .int .i64 k, .int .i64 a, .int .i64 b] w fun e w' => e = .returned (.bool true) ∧ Below w.heap.size w w' := by
  cases ha : ofOk n k a
  · exact pulseOnce_no w A n1 c1 v h hb _ _ rfl rfl n k a b (.inl ha)
  · cases hb2 : ofOk n k b
    · exact pulseOnce_no w A n1 c1 v h hb _ _ rfl rfl n k a b (.inr hb2)
    · have h1 := ofOk_iff.1 ha
      have h2 := ofOk_iff.1 hb2
      obtain ⟨n, rfl⟩ := Int.eq_ofNat_of_zero_le h1.1.1.1
      obtain ⟨k, rfl⟩ := Int.eq_ofNat_of_zero_le h1.1.2.1
      obtain ⟨a, rfl⟩ := Int.eq_ofNat_of_zero_le h1.2.1
      obtain ⟨b, rfl⟩ := Int.eq_ofNat_of_zero_le h2.2.1
      simp only [Int.toNat_natCast] at h1 h2
      exact pulseOnce_yes w A n1 c1 v h hb _ _ rfl rfl n k a b (by omega) (by omega) (by omega) (by omega)
end Go.Proofs.Ytmfddihgdnoecaa
