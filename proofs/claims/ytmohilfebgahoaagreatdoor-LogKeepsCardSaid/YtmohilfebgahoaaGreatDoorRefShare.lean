/- The document's answers, walked (chapter 14): what pulses cost. -/
import Derived.Test.YtmohilfebgahoaaGreatDoorShare
import Derived.Test.YtmohilfebgahoaaGreatDoorRefCount
import Derived.Deep.DeepCutAuto
import Derived.Deep.Cut
import Derived.BigQuiet
namespace Go.Proofs.YtmohilfebgahoaaGreatDoor
open Go.RowKit

theorem keepTwo {a b : Addr} {u v : Value} {w0 W w3 : World} (hb : Below W.heap.size W w3) (h : W.cell? a = some u ∧ W.cell? b = some v ∧ Below w0.heap.size w0 W) (ha : a.block < w0.heap.size) (hb2 : b.block < w0.heap.size) : w3.cell? a = some u ∧ w3.cell? b = some v ∧ Below w0.heap.size w0 w3 :=
  ⟨(hb.cell (Nat.lt_of_lt_of_le ha h.2.2.size)).trans h.1, (hb.cell (Nat.lt_of_lt_of_le hb2 h.2.2.size)).trans h.2.1, below_on h.2.2 hb⟩
set_option maxHeartbeats 2000000 in
set_option maxRecDepth 100000 in
theorem rcost_any (A1 : Option Addr) (n c1 : Nat) (s : List Int) (A2 : Option Addr) (c2 : Nat) (p : List Int) (w : World) (B1 B2 : Nat) (h1 : RdI w B1 A1 n s) (h2 : RdI w B2 A2 n p) (hB1 : B1 ≤ w.heap.size) (hB2 : B2 ≤ w.heap.size) (hn : n ≤ 8) (hs : ∀ x ∈ s, 1 ≤ x ∧ x ≤ 6) (hp : Ph.pulsesOk p) :
    Calls Tryz.prog 114 #[.slice A1 n c1, .slice A2 n c2] w fun e w' => e = .returned (.int .i64 (Ph.cost s p)) ∧ Below w.heap.size w w' := by
  have HL1 := Lib.hid h1.len
  have HL2 := Lib.hid h2.len
  have H1 := Lib.hid h1
  have H2 := Lib.hid h2
  have HS := Lib.hid hs
  have HP := Lib.hid hp
  clear h1 h2 hs hp
  go_enter Tryz.func114, Tryz.ntmps114
  go_wp2_with fail
  go_loopw [5, 6, 7] (fun t i _ wr => ∃ k : Nat, k ≤ n ∧ i = .int .i64 k ∧ t = .int .i64 (Ph.cost (s.take k) (p.take k)) ∧ Below w.heap.size w wr) (fun _ i _ _ => n - (intOf i).toNat)
  case atStart => exact ⟨0, Nat.zero_le _, rfl, rfl, Below.refl _ _⟩
  case round =>
    obtain ⟨k, hk, rfl, rfl, hbw⟩ := hrel
    rename World => wr
    have HBW := Lib.hid hbw
    clear hbw
    by_cases hlt : k < n
    · obtain ⟨b1, o1, hA1, hbb1, hc1⟩ := (H1.out.below (HBW.out.mono hB1)).at_ hlt
      obtain ⟨b2, o2, hA2, hbb2, hc2⟩ := (H2.out.below (HBW.out.mono hB2)).at_ hlt
      have hk1 : k < s.length := by rw [HL1.out]; exact hlt
      have hk2 : k < p.length := by rw [HL2.out]; exact hlt
      have hx := HS.out _ (Ph.getD_mem (l := s) (i := k) hk1)
      have hy := HP.out _ (Ph.getD_mem (l := p) (i := k) hk2)
      have hct := Ph.cost_take s p k hk1 hk2
      have hcb := cost_bd (s.take k) (p.take k) (fun x hx => HS.out x (List.mem_of_mem_take hx)) (pulsesOk_take HP.out k)
      have hln : (s.take k).length ≤ 8 := by rw [List.length_take]; omega
      obtain ⟨x, hxe⟩ : ∃ x, x = s.getD k 0 := ⟨_, rfl⟩
      obtain ⟨y, hye⟩ : ∃ y, y = p.getD k 0 := ⟨_, rfl⟩
      rw [← hxe] at hc1 hx hct
      rw [← hye] at hc2 hy hct
      have hwb := wid_bd x y (by omega) hy
      obtain ⟨N, hN⟩ : ∃ N : Nat, x = N := ⟨x.toNat, by omega⟩
      obtain ⟨K, hK⟩ : ∃ K : Nat, y = K := ⟨y.toNat, by omega⟩
      have hwe : Ph.wid x y = (Ph.bitsOf (Ph.cnt N K) : Nat) := by unfold Ph.wid; rw [hN, hK, Int.toNat_natCast, Int.toNat_natCast]
      have HCN : Hid (∀ W, Calls Tryz.prog 39 #[.int .i64 x, .int .i64 y] W fun e w' => e = .returned (.int .i64 (Ph.cnt N K : Nat)) ∧ Below W.heap.size W w') := Lib.hid fun W => by rw [hN, hK]; exact rcount_any N K W (by omega) (by omega)
      have HBT : Hid (∀ W, Calls Tryz.prog 40 #[.int .i64 (Ph.cnt N K : Nat)] W fun e w' => e = .returned (.int .i64 (Ph.wid x y)) ∧ Below W.heap.size W w') := Lib.hid fun W => by
        rw [hwe]
        refine (rbits_any (Ph.cnt N K) W (Ph.cnt_le N K (by omega) (by omega))).mono ?_
        rintro e w' ⟨rfl, rfl⟩
        exact ⟨rfl, Below.refl _ _⟩
      obtain ⟨C, hC⟩ : ∃ C, C = Ph.cost (s.take k) (p.take k) := ⟨_, rfl⟩
      obtain ⟨D, hD⟩ : ∃ D, D = Ph.wid x y := ⟨_, rfl⟩
      obtain ⟨T, hT⟩ : ∃ T : Int, T = (Ph.cnt N K : Nat) := ⟨_, rfl⟩
      rw [← hC] at hct hcb ⊢
      rw [← hD] at hct hwb HBT
      rw [← hT] at HCN HBT
      have HCT := Lib.hid hct
      have k1 : IntKind.i64.wrap (C + D) = C + D := IntWalk.i64_in _ (by omega)
      have g1 : b1 < wr.heap.size := Nat.lt_of_lt_of_le hbb1 (Nat.le_trans hB1 HBW.out.size)
      have g2 : b2 < wr.heap.size := Nat.lt_of_lt_of_le hbb2 (Nat.le_trans hB2 HBW.out.size)
      have hlt' : (k : Int) < (n : Int) := by omega
      subst hA1
      subst hA2
      clear hxe hye hct hC hD hk1 hk2 hN hK hwe hT hbb1 hbb2
      go_upto_region 5 with (fail)
      go_cut [7] (fun s7 wx => s7 = .int .i64 D ∧ Hid (Below wr.heap.size wr wx))
      case first =>
        go_region_held3 (fun w' => w'.cell? ⟨b1, o1 + k, none⟩ = some (.int .i64 x) ∧ w'.cell? ⟨b2, o2 + k, none⟩ = some (.int .i64 y) ∧ Below wr.heap.size wr w') (first | exact ⟨hc1, hc2, (Below.refl wr.heap.size wr).drew⟩ | exact keepTwo hb3 (by assumption) g1 g2 | exact keepTwo hb4 (by assumption) g1 g2) (first
          | (go_at_call 39; refine (HCN.out _).mono ?_; rintro e w3 ⟨rfl, hb3⟩)
          | (go_at_call 40; refine (HBT.out _).mono ?_; rintro e w4 ⟨rfl, hb4⟩))
        all_goals go_wp2_with fail
        all_goals go_meet
        all_goals exact ⟨rfl, Lib.hid (And.right (And.right (by assumption : _ ∧ _ ∧ Below wr.heap.size wr _)))⟩
      case rest =>
        obtain ⟨rfl, HX⟩ := hcut
        have HB3 := Lib.hid (below_on HBW.out HX.out)
        clear hc1 hc2
        go_wp2_with fail
        go_roundw
        case rel => exact ⟨k + 1, by omega, by go_num, by rw [HCT.out], HB3.out⟩
        case measure => simp [intOf]; omega
    · obtain rfl : k = n := by omega
      have e1 : s.take k = s := List.take_of_length_le (by rw [HL1.out]; omega)
      have e2 : p.take k = p := List.take_of_length_le (by rw [HL2.out]; omega)
      rw [e1, e2]
      go_wp2_with fail
      go_ret
      exact ⟨rfl, HBW.out⟩
end Go.Proofs.YtmohilfebgahoaaGreatDoor
/- The document's answers, walked (chapter 14): who gets pulses. -/
namespace Go.Proofs.YtmohilfebgahoaaGreatDoor
open Go.RowKit

theorem bump_back (l : List Int) (k : Nat) (y : Int) (hk : k < l.length) (h : y = l.getD k 0) : (l.set k (y + 1)).set k y = l := by
  rw [List.set_set, h, List.getD_eq_getElem?_getD, List.getElem?_eq_getElem hk]
  simp
theorem pulsesOk_bump {out : List Int} (h : Ph.pulsesOk out) (k : Nat) (hk : k < out.length) (h8 : out.getD k 0 ≠ 8) : Ph.pulsesOk (out.set k (out.getD k 0 + 1)) := by
  have h1 := h _ (Ph.getD_mem (l := out) (i := k) hk)
  intro x hx
  rcases List.mem_or_eq_of_mem_set hx with hx | hx
  · exact h x hx
  · rw [hx]; omega
set_option maxRecDepth 100000 in
set_option maxHeartbeats 4000000 in
theorem rshare_own (A1 : Option Addr) (n c1 : Nat) (s : List Int) (A2 : Option Addr) (c2 : Nat) (loud : List Int) (bits : Int) (w : World) (B : Nat) (h1 : RdI w B A1 n s) (h2 : RdI w B A2 n loud) (hB : B ≤ w.heap.size) (h0 : Ph.bandErr s = 0) (hlo : ∀ x ∈ loud, 0 ≤ x ∧ x ≤ 8000) (hb : 0 ≤ bits ∧ bits ≤ 400) :
    Calls Tryz.prog 74 #[.slice A1 n c1, .slice A2 n c2, .int .i64 bits] w fun e w' => ∃ A' c', e = .returned (.slice A' n c') ∧ w'.ownsRow w.heap.size 3 1 (.slice A' n c') n (ivals (Ph.shareOf s loud bits)) ∧ Below w.heap.size w w' := by
  have hz := Ph.bandErr_zero.1 h0
  have hl1 := h1.len
  have hl2 := h2.len
  have hn : n ≤ 8 := by omega
  have hmk := make_ints n (by omega)
  have hown0 := Lib.hid (made_own w n (by omega))
  have HB0 := Lib.hid (below_alloc0 w (.cells (madeCells #[.int .i64 0] n) 3))
  have HS := Lib.hid hz.2.2.1
  have HLO := Lib.hid hlo
  have HL1 := Lib.hid hl1
  have HL2 := Lib.hid hl2
  have H1 := Lib.hid h1
  have H2 := Lib.hid h2
  have HE0 : Hid (Ph.shareOf s loud bits = Ph.given s loud bits (List.replicate n 0)) := Lib.hid (by unfold Ph.shareOf; rw [hl1])
  obtain ⟨V, hV⟩ : ∃ V, V = Ph.shareOf s loud bits := ⟨_, rfl⟩
  rw [← hV] at HE0 ⊢
  have hb0 := hb.1
  have hb1 := hb.2
  clear h1 h2 hz hl1 hl2 hlo h0 hV hb
  go_enter Tryz.func74, Tryz.ntmps74
  go_wp2_with fail
  go_loopw [8, 9, 10, 11, 12] (fun _ _ _ _ _ wr => ∃ out : List Int, Hid (wr.ownsRow w.heap.size 3 1 (.slice (some ⟨w.heap.size, 0, none⟩) n n) n (ivals out)) ∧ Hid (V = Ph.given s loud bits out ∧ Ph.pulsesOk out) ∧ Hid (Below w.heap.size w wr)) (fun _ _ _ _ _ wr => Ph.space (cellsI wr w.heap.size n))
  case atStart => exact ⟨List.replicate n 0, hown0, Lib.hid ⟨HE0.out, Ph.pulsesOk_zeros n⟩, HB0⟩
  case round =>
    obtain ⟨out, HO, HI, HBW⟩ := hrel
    have HOL : Hid (out.length = n) := Lib.hid (by have := own_len HO.out; rwa [ivals_length] at this)
    rename World => wo
    clear hown0 HE0 hmk HB0
    go_wp2_with fail
    go_loopw [8, 9, 10, 11, 12] (fun p i _ _ _ wr => ∃ k : Nat, k ≤ n ∧ i = .int .i64 k ∧ p = .int .i64 (Ph.pick s loud bits out k) ∧ Hid (wr.ownsRow w.heap.size 3 1 (.slice (some ⟨w.heap.size, 0, none⟩) n n) n (ivals out)) ∧ Hid (Below w.heap.size w wr)) (fun _ i _ _ _ _ => n - (intOf i).toNat)
    case atStart => exact ⟨0, Nat.zero_le _, rfl, rfl, HO, HBW⟩
    case round =>
      obtain ⟨k, hk, rfl, rfl, R, RB⟩ := hrel
      rename World => wr
      have hpb := Ph.pick_bd s loud bits out k
      by_cases hlt : k < n
      · have hk1 : k < s.length := by rw [HL1.out]; exact hlt
        have hk2 : k < loud.length := by rw [HL2.out]; exact hlt
        have hk3 : k < out.length := by rw [HOL.out]; exact hlt
        have hst := pick_step s loud out bits k (by rw [HL1.out, HOL.out]) hk3
        rw [← Ph.costWith_eq (s := s) (out := out) (i := k) (by rw [HL1.out, HOL.out]) hk3] at hst
        obtain ⟨b2, o2, hA2, hbb2, hc2⟩ := (H2.out.below (RB.out.mono hB)).at_ hlt
        have hCQ : Hid (∀ W, Below w.heap.size w W → ∀ q : Nat, q < n → (0 ≤ loud.getD q 0 ∧ loud.getD q 0 ≤ 8000) ∧ (0 ≤ out.getD q 0 ∧ out.getD q 0 ≤ 8) ∧ W.cell? ⟨b2, o2 + q, none⟩ = some (.int .i64 (loud.getD q 0))) := Lib.hid fun W hW q hqn => by
          obtain ⟨b', o', hA', hb', hc'⟩ := (H2.out.below (hW.mono hB)).at_ hqn
          rw [hA2] at hA'
          obtain ⟨rfl, rfl⟩ : b2 = b' ∧ o2 = o' := by simpa using hA'
          exact ⟨HLO.out _ (Ph.getD_mem (by rw [HL2.out]; exact hqn)), HI.out.2 _ (Ph.getD_mem (by rw [HOL.out]; exact hqn)), hc'⟩
        have hc3 : wr.cell? ⟨w.heap.size, k, none⟩ = some (.int .i64 (out.getD k 0)) := by rw [R.out.cellAt k (by omega), ivals_get hk3]
        have hu := HLO.out _ (Ph.getD_mem (l := loud) (i := k) hk2)
        have hy := HI.out.2 _ (Ph.getD_mem (l := out) (i := k) hk3)
        have hok := pulsesOk_bump HI.out.2 k hk3
        have hbk := bump_back out k (out.getD k 0) hk3 rfl
        have hcw : Ph.costWith s out k = Ph.cost s (out.set k (out.getD k 0 + 1)) := rfl
        obtain ⟨P1, hP1⟩ : ∃ P1, P1 = Ph.pick s loud bits out (k + 1) := ⟨_, rfl⟩
        obtain ⟨P0, hP0⟩ : ∃ P0, P0 = Ph.pick s loud bits out k := ⟨_, rfl⟩
        have hq : P0 < 0 ∨ ∃ q : Nat, P0 = (q : Int) ∧ q < k := by
          rcases Int.lt_or_le P0 0 with h | h
          · exact .inl h
          · exact .inr ⟨P0.toNat, by omega, by rw [hP0] at h ⊢; omega⟩
        obtain ⟨u, hue⟩ : ∃ u, u = loud.getD k 0 := ⟨_, rfl⟩
        obtain ⟨y, hye⟩ : ∃ y, y = out.getD k 0 := ⟨_, rfl⟩
        have hlt' : (k : Int) < (n : Int) := by omega
        rw [← hP0, ← hP1, ← hue, ← hye] at hst
        rw [← hue] at hc2 hu
        rw [← hye] at hc3 hy hok hbk hcw
        rw [← hP0]
        have HP1 := Lib.hid hP1
        have HOK := Lib.hid hok
        have HBK := Lib.hid hbk
        obtain ⟨CW, hCW⟩ : ∃ C, C = Ph.costWith s out k := ⟨_, rfl⟩
        rw [← hCW] at hst hcw
        have HCW := Lib.hid hcw
        have HST := Lib.hid hst
        have f3 : wr.frozen? ⟨w.heap.size, k, none⟩ = false := R.out.frozenAt k
        have hb2w : b2 < w.heap.size := Nat.lt_of_lt_of_le hbb2 hB
        have HUE := Lib.hid hue
        have HYE := Lib.hid hye
        subst hA2
        clear hP1 hP0 hst hue hye hok hbk hcw hCW hk1 hk2 hbb2 hpb
        by_cases hu0 : u = 0
        · have hpe := Lib.hid (HST.out.1 hu0)
          subst hu0
          clear HST
          go_wp2_with fail
          go_roundw
          case rel => exact ⟨k + 1, by omega, by go_num, by rw [← HP1.out, hpe.out], R, RB⟩
          case measure => simp [intOf]; omega
        · have hu1 : (u == 0) = false := by simpa using hu0
          by_cases hy8 : y = 8
          · have hpe := Lib.hid (HST.out.2.1 hy8)
            subst hy8
            clear hu0 HST
            go_wp2_with fail
            go_roundw
            case rel => exact ⟨k + 1, by omega, by go_num, by rw [← HP1.out, hpe.out], R, RB⟩
            case measure => simp [intOf]; omega
          · have hy1 : (y == 8) = false := by simpa using hy8
            have HST2 := Lib.hid HST.out.2.2
            have hok := HOK.out hy8
            have s1 := (R.out.stored k (.int .i64 (y + 1))).1
            rw [ivals_set] at s1
            have S1 := Lib.hid s1
            have SB1 := Lib.hid (RB.out.setCell (p := ⟨w.heap.size, k, none⟩) (Nat.le_refl _) (.int .i64 (y + 1)))
            have HCO := Lib.hid (rcost_any A1 n c1 s (some ⟨w.heap.size, 0, none⟩) n (out.set k (y + 1)) (wr.setCell ⟨w.heap.size, k, none⟩ (.int .i64 (y + 1))) B _ (H1.out.below (SB1.out.mono hB)) (RdI.own s1) (Nat.le_trans hB SB1.out.size) (Nat.le_refl _) hn HS.out hok)
            rw [← HCW.out] at HCO
            have k3 : IntKind.i64.wrap (y + 1) = y + 1 := IntWalk.i64_in _ (by omega)
            have HU0 := Lib.hid hu0
            have HY8 := Lib.hid hy8
            clear hu0 hy8 HST s1 hok
            go_wp2_with fail
            refine HCO.out.mono ?_
            rintro e w7 ⟨rfl, hb7⟩
            have S7 := Lib.hid (own_below' S1.out hb7)
            have SB7 := Lib.hid (below_on SB1.out hb7)
            have c7 : w7.cell? ⟨w.heap.size, k, none⟩ = some (.int .i64 (y + 1)) := by rw [S7.out.cellAt k (by omega), ivals_get (by rw [List.length_set]; exact hk3)]; simp [List.getD_eq_getElem?_getD, hk3]
            have f7 : w7.frozen? ⟨w.heap.size, k, none⟩ = false := S7.out.frozenAt k
            have s8 := (S7.out.stored k (.int .i64 y)).1
            rw [ivals_set, HBK.out] at s8
            have S8 := Lib.hid s8
            have SB8 := Lib.hid (SB7.out.setCell (p := ⟨w.heap.size, k, none⟩) (Nat.le_refl _) (.int .i64 y))
            have k4 : IntKind.i64.wrap (y + 1 - 1) = y := by rw [show y + 1 - 1 = y by omega]; exact IntWalk.i64_in _ (by omega)
            obtain ⟨w8, hw8⟩ : ∃ w8, w8 = w7.setCell ⟨w.heap.size, k, none⟩ (.int .i64 y) := ⟨_, rfl⟩
            rw [← hw8] at S8 SB8
            have HW8 := Lib.hid hw8
            have hkq := (hCQ.out w8 SB8.out k hlt).2.2
            rw [← HUE.out] at hkq
            clear hw8 s8 S1 SB1 HCO S7 SB7 hb7
            go_upto_region 10 with (fail)
            rw [← HW8.out]
            clear HW8 c7 f7 hc3 f3 hc2 k3 k4
            by_cases hbt : bits < CW
            · have hpe := Lib.hid (HST2.out.1 hbt)
              clear HST2
              go_wp2_with fail
              go_roundw
              case rel => exact ⟨k + 1, by omega, by go_num, by rw [← HP1.out, hpe.out], S8, SB8⟩
              case measure => simp [intOf]; omega
            · have HS3 := Lib.hid (HST2.out.2 HU0.out HY8.out (by omega))
              clear HST2
              rcases hq with hneg | ⟨q, rfl, hqk⟩
              · have hpe := Lib.hid (HS3.out.1 hneg)
                go_wp2_with fail
                go_roundw
                case rel => exact ⟨k + 1, by omega, by go_num, by rw [← HP1.out, hpe.out], S8, SB8⟩
                case measure => simp [intOf]; omega
              · have hq2 := hCQ.out w8 SB8.out q (by omega)
                have e1 : w8.cell? ⟨w.heap.size, k, none⟩ = some (.int .i64 (out.getD k 0)) := by rw [S8.out.cellAt k (by omega), ivals_get hk3]
                have e2 : w8.cell? ⟨w.heap.size, q, none⟩ = some (.int .i64 (out.getD q 0)) := by rw [S8.out.cellAt q (by omega), ivals_get (by omega)]
                rw [← HYE.out] at e1
                obtain ⟨u2, hu2⟩ : ∃ u2, u2 = loud.getD q 0 := ⟨_, rfl⟩
                obtain ⟨y2, hy2⟩ : ∃ y2, y2 = out.getD q 0 := ⟨_, rfl⟩
                rw [Int.toNat_natCast, ← hu2, ← hy2] at HS3
                rw [← hu2, ← hy2] at hq2
                rw [← hy2] at e2
                have n1 := need_bd hu hq2.2.1
                have n2 := need_bd hq2.1 hy
                have hah : aheadB u y u2 y2 = decide (u2 * (y + 1) * (y + 1) < u * (y2 + 1) * (y2 + 1)) := rfl
                have d2 := hq2.2.2
                have hy2b := hq2.2.1
                obtain ⟨Ya, hYa⟩ : ∃ Ya, Ya = y + 1 := ⟨_, rfl⟩
                obtain ⟨Yb, hYb⟩ : ∃ Yb, Yb = y2 + 1 := ⟨_, rfl⟩
                rw [← hYb] at n1
                rw [← hYa] at n2
                rw [← hYa, ← hYb] at hah
                have k5 : IntKind.i64.wrap (y + 1) = Ya := by rw [hYa]; exact IntWalk.i64_in _ (by omega)
                have k6 : IntKind.i64.wrap (y2 + 1) = Yb := by rw [hYb]; exact IntWalk.i64_in _ (by omega)
                obtain ⟨M1, hM1⟩ : ∃ M, M = u * Yb := ⟨_, rfl⟩
                obtain ⟨L1, hL1⟩ : ∃ M, M = u2 * Ya := ⟨_, rfl⟩
                rw [← hM1] at n1 hah
                rw [← hL1] at n2 hah
                obtain ⟨M2, hM2⟩ : ∃ M, M = M1 * Yb := ⟨_, rfl⟩
                obtain ⟨L2, hL2⟩ : ∃ M, M = L1 * Ya := ⟨_, rfl⟩
                rw [← hM2] at n1 hah
                rw [← hL2] at n2 hah
                have k7 : IntKind.i64.wrap (u * Yb) = M1 := by rw [← hM1]; exact IntWalk.i64_in _ (by omega)
                have k8 : IntKind.i64.wrap (M1 * Yb) = M2 := by rw [← hM2]; exact IntWalk.i64_in _ (by omega)
                have k9 : IntKind.i64.wrap (u2 * Ya) = L1 := by rw [← hL1]; exact IntWalk.i64_in _ (by omega)
                have k10 : IntKind.i64.wrap (L1 * Ya) = L2 := by rw [← hL2]; exact IntWalk.i64_in _ (by omega)
                rw [hah] at HS3
                have hqn : (q : Int) < (n : Int) := by omega
                have hq0 : ¬ (q : Int) < 0 := by omega
                clear hYa hYb hM1 hL1 hM2 hL2 hah hu2 hy2 hq2 n1 n2
                by_cases hcmp : L2 < M2
                · have hpe := Lib.hid (HS3.out.2.1 (by omega) (by simp [hcmp]))
                  go_wp2_with fail
                  go_quiet (fail)
                  go_wp2_with fail
                  go_roundw
                  case rel => exact ⟨k + 1, by omega, by go_num, by rw [← HP1.out, hpe.out], Lib.hid (own_drewN S8.out _), Lib.hid (below_drewN' SB8.out _)⟩
                  case measure => simp [intOf]; omega
                · have hpe := Lib.hid (HS3.out.2.2 (by omega) (by simp; omega))
                  go_wp2_with fail
                  go_quiet (fail)
                  go_wp2_with fail
                  go_roundw
                  case rel => exact ⟨k + 1, by omega, by go_num, by rw [← HP1.out, hpe.out], Lib.hid (own_drewN S8.out _), Lib.hid (below_drewN' SB8.out _)⟩
                  case measure => simp [intOf]; omega
      · obtain rfl : k = n := by omega
        obtain ⟨P0, hP0⟩ : ∃ P0, P0 = Ph.pick s loud bits out k := ⟨_, rfl⟩
        rw [← hP0] at hpb ⊢
        by_cases hp : P0 < 0
        · have HV : Hid (V = out) := Lib.hid (by rw [HI.out.1, Ph.given_done (by rw [HL1.out, ← hP0]; exact hp)])
          clear hP0
          go_wp2_with fail
          go_ret
          exact ⟨some ⟨w.heap.size, 0, none⟩, k, rfl, by rw [HV.out]; exact R.out, RB.out⟩
        · obtain ⟨q, hq⟩ : ∃ q : Nat, P0 = q := ⟨P0.toNat, by omega⟩
          have hqk : q < k := by omega
          have hpos : 0 ≤ Ph.pick s loud bits out s.length := by rw [HL1.out, ← hP0]; omega
          have ht := Ph.turn_ok (s := s) (loud := loud) (bits := bits) (out := out) (by rw [HOL.out, HL1.out]) HI.out.2 hpos
          have hgt := Ph.given_turn (s := s) (loud := loud) (bits := bits) (out := out) (by rw [HOL.out, HL1.out]) HI.out.2 hpos
          rw [HL1.out, ← hP0, hq, Int.toNat_natCast] at ht
          rw [HL1.out, ← hP0, hq, Int.toNat_natCast] at hgt
          have c3 : wr.cell? ⟨w.heap.size, q, none⟩ = some (.int .i64 (out.getD q 0)) := by rw [R.out.cellAt q (by omega), ivals_get (by rw [HOL.out]; exact hqk)]
          have f3 : wr.frozen? ⟨w.heap.size, q, none⟩ = false := R.out.frozenAt q
          have hy := HI.out.2 _ (Ph.getD_mem (l := out) (i := q) (by rw [HOL.out]; exact hqk))
          have hbm : Hid (Ph.bump out q 1 = out.set q (out.getD q 0 + 1)) := Lib.hid rfl
          obtain ⟨y, hye⟩ : ∃ y, y = out.getD q 0 := ⟨_, rfl⟩
          rw [← hye] at c3 hy hbm
          have HT := Lib.hid ht
          have HGT := Lib.hid hgt
          have hqn : (q : Int) < (k : Int) := by omega
          have hq0 : ¬ (q : Int) < 0 := by omega
          have k3 : IntKind.i64.wrap (y + 1) = y + 1 := IntWalk.i64_in _ (by omega)
          have hst := (R.out.stored q (.int .i64 (y + 1))).1
          rw [ivals_set, ← hbm.out] at hst
          have HSX := Lib.hid hst
          have SBX := Lib.hid (RB.out.setCell (p := ⟨w.heap.size, q, none⟩) (Nat.le_refl _) (.int .i64 (y + 1)))
          subst hq
          clear hP0 hpos ht hgt hye hst
          go_wp2_with fail
          go_roundw
          case rel => exact ⟨Ph.bump out q 1, HSX, Lib.hid ⟨HI.out.1.trans HGT.out, HT.out.2.1⟩, SBX⟩
          case measure =>
            have e1 := cellsI_own HSX.out
            have e2 := cellsI_own HO.out
            have e3 := HT.out.2.2
            first
              | (rw [e1, e2]; omega)
              | (simp only [e1, e2]; omega)
theorem rshare_any (A1 : Option Addr) (n c1 : Nat) (s : List Int) (A2 : Option Addr) (c2 : Nat) (loud : List Int) (bits : Int) (w : World) (B : Nat) (h1 : RdI w B A1 n s) (h2 : RdI w B A2 n loud) (hB : B ≤ w.heap.size) (h0 : Ph.bandErr s = 0) (hlo : ∀ x ∈ loud, 0 ≤ x ∧ x ≤ 8000) (hb : 0 ≤ bits ∧ bits ≤ 400) :
    Calls Tryz.prog 74 #[.slice A1 n c1, .slice A2 n c2, .int .i64 bits] w fun e w' => ∃ A' c', e = .returned (.slice A' n c') ∧ RdI w' w'.heap.size A' n (Ph.shareOf s loud bits) ∧ Below w.heap.size w w' := by
  refine (rshare_own A1 n c1 s A2 c2 loud bits w B h1 h2 hB h0 hlo hb).mono ?_
  rintro e w' ⟨A', c', rfl, ho, hb'⟩
  exact ⟨A', c', rfl, RdI.own ho, hb'⟩
end Go.Proofs.YtmohilfebgahoaaGreatDoor
