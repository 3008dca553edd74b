/- The walk of the law ShareTells. -/
import Derived.Test.YtbllboajhdmnhaaDoorTold
import Derived.Test.YtbllboajhdmnhaaDoorRefShare2
import Derived.Test.YtbllboajhdmnhaaDoorRefBand
import Derived.Test.YtbllboajhdmnhaaDoorOpen
import Derived.Deep.DeepCutAuto
import Derived.Deep.CutBlock
import Derived.Deep.Cut
namespace Go.Proofs.YtbllboajhdmnhaaDoor
open Go.RowKit

/-- Pulses are told, and a fault: none of them, if there is one. -/
def TellH (E : Int) (l : List Int) (w : World) (e : Ending) (w' : World) : Prop :=
  ∃ A n c, e = .returned (.tuple #[.slice A n c, errV E]) ∧ n ≤ 100000 ∧ RdI w' w'.heap.size A n (if E = 0 then l else []) ∧ Below w.heap.size w w'
theorem shof_told (A1 : Option Addr) (n1 c1 : Nat) (s : List Int) (A2 : Option Addr) (n2 c2 : Nat) (loud : List Int) (bits : Int) (w : World) (B : Nat) (h1 : RdI w B A1 n1 s) (h2 : RdI w B A2 n2 loud) (hB : B ≤ w.heap.size) (hn1 : n1 ≤ 100000000000000) (hn2 : n2 ≤ 100000000000000) :
    Calls Tryd.prog 42 #[.slice A1 n1 c1, .slice A2 n2 c2, .int .i64 bits] w (TellH (shareErr s loud bits) (Ph.shareOf s loud bits) w) := by
  by_cases h0 : shareErr s loud bits = 0
  · have hz := shareErr_zero.1 h0
    have hl := (Ph.share_ok (s := s) (loud := loud) hz.2.2.2.1).1
    have hb := Ph.bandErr_zero.1 hz.1
    refine (shof_ok A1 n1 c1 s A2 n2 c2 loud bits w B h1 h2 hB h0).mono ?_
    rintro e w' ⟨A', c', rfl, ho, hbw⟩
    exact ⟨A', _, c', by rw [h0]; rfl, by omega, by rw [if_pos h0]; exact RdI.own ho, hbw⟩
  · refine (shof_no A1 n1 c1 s A2 n2 c2 loud bits w B h1 h2 hn1 hn2 h0).mono ?_
    rintro e w' ⟨rfl, rfl⟩
    exact ⟨none, 0, 0, rfl, by omega, by rw [if_neg h0]; exact RdI.nil, Below.refl _ _⟩
theorem left_told (A1 : Option Addr) (n1 c1 : Nat) (s : List Int) (A2 : Option Addr) (n2 c2 : Nat) (loud : List Int) (bits : Int) (w : World) (B : Nat) (h1 : RdI w B A1 n1 s) (h2 : RdI w B A2 n2 loud) (hB : B ≤ w.heap.size) (hn1 : n1 ≤ 100000000000000) (hn2 : n2 ≤ 100000000000000) :
    Calls Tryd.prog 43 #[.slice A1 n1 c1, .slice A2 n2 c2, .int .i64 bits] w fun e w' => e = .returned (.tuple #[.int .i64 (if shareErr s loud bits = 0 then bits - Ph.cost s (Ph.shareOf s loud bits) else 0), errV (shareErr s loud bits)]) ∧ Below w.heap.size w w' := by
  by_cases h0 : shareErr s loud bits = 0
  · rw [if_pos h0, h0]
    exact left_ok A1 n1 c1 s A2 n2 c2 loud bits w B h1 h2 hB h0
  · rw [if_neg h0]
    refine (left_no A1 n1 c1 s A2 n2 c2 loud bits w B h1 h2 hn1 hn2 h0).mono ?_
    rintro e w' ⟨rfl, rfl⟩
    exact ⟨rfl, Below.refl _ _⟩
theorem shcost_told (A1 : Option Addr) (n1 c1 : Nat) (s : List Int) (A2 : Option Addr) (n2 c2 : Nat) (p : List Int) (w : World) (B1 : Nat) (h1 : RdI w B1 A1 n1 s) (h2 : RdI w B1 A2 n2 p) (hB1 : B1 ≤ w.heap.size) (hn1 : n1 ≤ 100000000000000) (hn2 : n2 ≤ 100000000000000) :
    Calls Tryd.prog 40 #[.slice A1 n1 c1, .slice A2 n2 c2] w fun e w' => e = .returned (.tuple #[.int .i64 (if costErr s p = 0 then Ph.cost s p else 0), errV (costErr s p)]) ∧ Below w.heap.size w w' := by
  by_cases h0 : costErr s p = 0
  · rw [if_pos h0, h0]
    exact shcost_ok A1 n1 c1 s A2 n2 c2 p w B1 B1 h1 h2 hB1 hB1 h0
  · rw [if_neg h0]
    refine (shcost_no A1 n1 c1 s A2 n2 c2 p w B1 B1 h1 h2 hn1 hn2 h0).mono ?_
    rintro e w' ⟨rfl, rfl⟩
    exact ⟨rfl, Below.refl _ _⟩
theorem bandErr_in (s : List Int) : -100 ≤ Ph.bandErr s ∧ Ph.bandErr s ≤ 100 := by
  unfold Ph.bandErr
  split
  · omega
  · split
    · omega
    · split
      · split <;> omega
      · omega
theorem badPulse_bad {x : Int} (h : x < 0 ∨ 8 < x) : badPulse x = true := by unfold badPulse; simp; omega
theorem badPulse_good {x : Int} (h : 0 ≤ x ∧ x ≤ 8) : badPulse x = false := by unfold badPulse; simp; omega
theorem badLoud_bad {x : Int} (h : x < 0 ∨ 8000 < x) : badLoud x = true := by unfold badLoud; simp; omega
theorem badLoud_good {x : Int} (h : 0 ≤ x ∧ x ≤ 8000) : badLoud x = false := by unfold badLoud; simp; omega
theorem any_hit {l : List Int} {f : Int → Bool} {k : Nat} (hk : k < l.length) (h : f (l.getD k 0) = true) : l.any f = true := List.any_eq_true.2 ⟨_, Ph.getD_mem hk, h⟩
theorem any_miss {l : List Int} {f : Int → Bool} (h : ∀ k, k < l.length → f (l.getD k 0) = false) : l.any f = false := by
  rw [List.any_eq_false]
  intro x hx
  obtain ⟨i, hi, rfl⟩ := List.mem_iff_getElem.1 hx
  have := h i hi
  rw [List.getD_eq_getElem?_getD, List.getElem?_eq_getElem hi] at this
  simpa using this
set_option maxHeartbeats 4000000 in
set_option maxRecDepth 1000000 in
theorem shareTells_walk (w : World) (A0 : Option Addr) (n0 c0 : Nat) (s : List Int) (h0 : RdI w w.heap.size A0 n0 s) (hb0 : n0 ≤ c0 ∧ c0 ≤ 17592186044415) (_ : ∀ x ∈ s, Is64 x) (A1 : Option Addr) (n1 c1 : Nat) (p : List Int) (h1 : RdI w w.heap.size A1 n1 p) (hb1 : n1 ≤ c1 ∧ c1 ≤ 17592186044415) (_ : ∀ x ∈ p, Is64 x)
    (A2 : Option Addr) (n2 c2 : Nat) (lo : List Int) (h2 : RdI w w.heap.size A2 n2 lo) (hb2 : n2 ≤ c2 ∧ c2 ≤ 17592186044415) (_ : ∀ x ∈ lo, Is64 x) (bits : Int) (hg : Laid w) :
    Calls Tryd.prog 6 #[.slice A0 n0 c0, .slice A1 n1 c1, .slice A2 n2 c2, .int .i64 bits] w fun e w' => e = .returned (.bool true) ∧ Below w.heap.size w w' := by
  have HG := Lib.hid hg
  have H0 := Lib.hid h0
  have H1 := Lib.hid h1
  have H2 := Lib.hid h2
  have hn0 : n0 ≤ 100000000000000 := by omega
  have hn1 : n1 ≤ 100000000000000 := by omega
  have hn2 : n2 ≤ 100000000000000 := by omega
  have HRB := Lib.hid fun W hW => rbands_any A0 n0 c0 s W w.heap.size hW hn0
  have HN8 : Hid (Ph.bandErr s = 0 → n0 ≤ 8) := Lib.hid fun h => by have := (Ph.bandErr_zero.1 h).2.1; rw [h0.len] at this; exact this
  have HCE : Hid (costErr s p = if Ph.bandErr s ≠ 0 then Ph.bandErr s else if n1 ≠ n0 then 3 else if p.any badPulse = true then 1 else 0) := Lib.hid (by unfold costErr; rw [h0.len, h1.len])
  have HSE : Hid (shareErr s lo bits = if Ph.bandErr s ≠ 0 then Ph.bandErr s else if n2 ≠ n0 then 3 else if lo.any badLoud = true ∨ bitsOk bits = false then 1 else 0) := Lib.hid (by unfold shareErr; rw [h0.len, h2.len])
  have HP1 : Hid (∀ k, k < n1 → p.getD k 0 < 0 ∨ 8 < p.getD k 0 → p.any badPulse = true) := Lib.hid fun k hk hx => any_hit (by rw [h1.len]; exact hk) (badPulse_bad hx)
  have HP0 : Hid ((∀ k, k < n1 → 0 ≤ p.getD k 0 ∧ p.getD k 0 ≤ 8) → p.any badPulse = false) := Lib.hid fun hx => any_miss fun k hk => badPulse_good (hx k (by rw [h1.len] at hk; exact hk))
  have HL1 : Hid (∀ k, k < n2 → lo.getD k 0 < 0 ∨ 8000 < lo.getD k 0 → lo.any badLoud = true) := Lib.hid fun k hk hx => any_hit (by rw [h2.len]; exact hk) (badLoud_bad hx)
  have HL0 : Hid ((∀ k, k < n2 → 0 ≤ lo.getD k 0 ∧ lo.getD k 0 ≤ 8000) → lo.any badLoud = false) := Lib.hid fun hx => any_miss fun k hk => badLoud_good (hx k (by rw [h2.len] at hk; exact hk))
  have HRC : Hid (costErr s p = 0 → ∀ W, RdI W w.heap.size A0 n0 s → RdI W w.heap.size A1 n1 p → w.heap.size ≤ W.heap.size → Calls Tryd.prog 39 #[.slice A0 n0 c0, .slice A1 n1 c1] W fun e w' => e = .returned (.int .i64 (Ph.cost s p)) ∧ Below W.heap.size W w') := Lib.hid fun hz W hW0 hW1 hBW => by
    obtain ⟨hb, hl, hp⟩ := costErr_zero.1 hz
    have hs := Ph.bandErr_zero.1 hb
    obtain rfl : n1 = n0 := by rw [← h0.len, ← h1.len]; exact hl
    exact rcost_any A0 n1 c0 s A1 c1 p W w.heap.size w.heap.size hW0 hW1 hBW hBW (by rw [← h0.len]; exact hs.2.1) hs.2.2.1 hp
  have HSC := Lib.hid fun W hW0 hW1 hBW => shcost_told A0 n0 c0 s A1 n1 c1 p W w.heap.size hW0 hW1 hBW hn0 hn1
  have HSO := Lib.hid fun W hW0 hW2 hBW => shof_told A0 n0 c0 s A2 n2 c2 lo bits W w.heap.size hW0 hW2 hBW hn0 hn2
  have HLF := Lib.hid fun W hW0 hW2 hBW => left_told A0 n0 c0 s A2 n2 c2 lo bits W w.heap.size hW0 hW2 hBW hn0 hn2
  have HRS : Hid (shareErr s lo bits = 0 → n0 ≤ 8 ∧ (0 ≤ Ph.cost s (Ph.shareOf s lo bits) ∧ Ph.cost s (Ph.shareOf s lo bits) ≤ 160) ∧ (0 ≤ bits ∧ bits ≤ 400) ∧ (∀ W, RdI W w.heap.size A0 n0 s → RdI W w.heap.size A2 n2 lo → w.heap.size ≤ W.heap.size → Calls Tryd.prog 41 #[.slice A0 n0 c0, .slice A2 n2 c2, .int .i64 bits] W fun e w' => ∃ A' c', e = .returned (.slice A' n0 c') ∧ RdI w' w'.heap.size A' n0 (Ph.shareOf s lo bits) ∧ Below W.heap.size W w') ∧
      (∀ W A' c', RdI W w.heap.size A0 n0 s → RdI W W.heap.size A' n0 (Ph.shareOf s lo bits) → w.heap.size ≤ W.heap.size → Calls Tryd.prog 39 #[.slice A0 n0 c0, .slice A' n0 c'] W fun e w' => e = .returned (.int .i64 (Ph.cost s (Ph.shareOf s lo bits))) ∧ Below W.heap.size W w')) := Lib.hid fun hz => by
    obtain ⟨hb, hl, hlo, hbt⟩ := shareErr_zero.1 hz
    have hs := Ph.bandErr_zero.1 hb
    have hok := (Ph.share_ok (s := s) (loud := lo) hbt.1).2.1
    have hn8 : n0 ≤ 8 := by rw [← h0.len]; exact hs.2.1
    have hcb := cost_bd s (Ph.shareOf s lo bits) hs.2.2.1 hok
    obtain rfl : n2 = n0 := by rw [← h0.len, ← h2.len]; exact hl
    refine ⟨hn8, ⟨hcb.1, by have := h0.len; omega⟩, hbt, fun W hW0 hW2 hBW => ?_, fun W A' c' hW0 hW1 hBW => ?_⟩
    · exact rshare_any A0 n2 c0 s A2 c2 lo bits W w.heap.size hW0 hW2 hBW hb hlo hbt
    · exact rcost_any A0 n2 c0 s A' c' _ W w.heap.size W.heap.size hW0 hW1 hBW (Nat.le_refl _) hn8 hs.2.2.1 hok
  have HB1 : Hid (-100 ≤ costErr s p ∧ costErr s p ≤ 100) := Lib.hid (by
    have := bandErr_in s
    unfold costErr; split
    · omega
    · split
      · omega
      · split <;> omega)
  have HB2 : Hid (-100 ≤ shareErr s lo bits ∧ shareErr s lo bits ≤ 100) := Lib.hid (by
    have := bandErr_in s
    unfold shareErr; split
    · omega
    · split
      · omega
      · split <;> omega)
  have HBO : Hid (bitsOk bits = false ↔ bits < 0 ∨ 400 < bits) := Lib.hid (by
    rw [← Bool.not_eq_true, bitsOk_iff]; omega)
  obtain ⟨VC, hVC⟩ : ∃ V, V = (if costErr s p = 0 then Ph.cost s p else 0) := ⟨_, rfl⟩
  obtain ⟨VL, hVL⟩ : ∃ V, V = (if shareErr s lo bits = 0 then bits - Ph.cost s (Ph.shareOf s lo bits) else 0) := ⟨_, rfl⟩
  obtain ⟨BN, hBN⟩ : ∃ V, V = bandN s := ⟨_, rfl⟩
  rw [← hBN] at HRB
  rw [← hVC] at HSC
  rw [← hVL] at HLF
  obtain ⟨E, hE⟩ : ∃ E, E = Ph.bandErr s := ⟨_, rfl⟩
  obtain ⟨CE, hCE⟩ : ∃ E, E = costErr s p := ⟨_, rfl⟩
  obtain ⟨SE, hSE⟩ : ∃ E, E = shareErr s lo bits := ⟨_, rfl⟩
  obtain ⟨pb, hpb⟩ : ∃ b, b = p.any badPulse := ⟨_, rfl⟩
  obtain ⟨lb, hlb⟩ : ∃ b, b = lo.any badLoud := ⟨_, rfl⟩
  obtain ⟨kb, hkb⟩ : ∃ b, b = bitsOk bits := ⟨_, rfl⟩
  obtain ⟨SH, hSH⟩ : ∃ l, l = Ph.shareOf s lo bits := ⟨_, rfl⟩
  obtain ⟨CP, hCP⟩ : ∃ l, l = Ph.cost s p := ⟨_, rfl⟩
  rw [← hE] at HRB HN8 HCE HSE
  rw [← hCE] at HCE HRC HSC HB1 hVC
  rw [← hSE] at HSE HSO HLF HRS HB2 hVL
  rw [← hpb] at HCE HP1 HP0
  rw [← hlb] at HSE HL1 HL0
  rw [← hkb] at HSE HBO
  rw [← hSH] at HSO HRS hVL
  rw [← hCP] at HRC hVC
  obtain ⟨CS, hCS⟩ : ∃ l, l = Ph.cost s SH := ⟨_, rfl⟩
  rw [← hCS] at HRS hVL
  obtain ⟨LE, hLE⟩ : ∃ L : Int, L = (if E ≠ 0 then E else if n2 ≠ n0 then 3 else if lb = true then 1 else 0) := ⟨_, rfl⟩
  have HLE := Lib.hid hLE
  have HSL : Hid (SE = if LE ≠ 0 then LE else if kb = false then 1 else 0) := Lib.hid (by
    rw [HSE.out, hLE]
    by_cases q1 : E = 0
    · by_cases q2 : n2 = n0
      · cases lb <;> cases kb <;> simp [q1, q2]
      · simp [q1, q2]
    · simp [q1])
  have HVC := Lib.hid hVC
  have HVL := Lib.hid hVL
  clear h0 h1 h2 hb0 hb1 hb2 hg hVC hVL hBN hE hCE hSE hpb hlb hkb hSH hCP hCS hLE
  go_enter Tryd.func6, Tryd.ntmps6
  go_wp2_with fail
  refine (HRB.out _ H0.out).mono ?_
  rintro e wk ⟨rfl, rfl⟩
  have HB3 := Lib.hid (Below.refl w.heap.size w)
  go_upto_region 3 with (fail)
  go_cut [37] (fun sx wx => sx = .bool (decide (E = 0) && decide (n1 ≠ n0)) ∧ Hid (Below w.heap.size w wx))
  case first =>
    as_aux_lemma =>
      by_cases hE : E = 0
      · have hEb : (E == 0) = true := by simp [hE]
        have HE := Lib.hid hE
        clear hE
        by_cases hN : n1 = n0
        · have hNb : ((n1 : Int) != (n0 : Int)) = false := by simp [hN]
          have HN := Lib.hid hN
          clear hN
          go_wp2_with fail
          go_meet
          case rel => exact ⟨by simp [HN.out], HB3⟩
        · have hNb : ((n1 : Int) != (n0 : Int)) = true := by simp; omega
          have HN := Lib.hid hN
          clear hN
          go_wp2_with fail
          go_meet
          case rel => exact ⟨by simp [HN.out, HE.out], HB3⟩
      · have hEb : (E == 0) = false := by simp [hE]
        have HE := Lib.hid hE
        clear hE
        go_wp2_with fail
        go_meet
        case rel => exact ⟨by simp [HE.out], HB3⟩
  case rest =>
    obtain ⟨rfl, HB4⟩ := hcut
    clear HB3
    go_upto_if 37 with (fail)
    go_cut [11] (fun sx wx => (∃ T, sx = .int .i64 T ∧ Hid ((T = 0 ∧ E = 0 ∧ n1 = n0) ∨ (T ≠ 0 ∧ T = CE))) ∧ Hid (Below w.heap.size w wx))
    case first =>
      as_aux_lemma =>
        by_cases hE : E = 0
        · by_cases hN : n1 = n0
          · have hdb : (decide (E = 0) && decide (n1 ≠ n0)) = false := by simp [hN]
            have HE := Lib.hid hE
            have HN := Lib.hid hN
            rw [hdb]
            clear hE hN hdb
            go_wp2_with fail
            go_meet
            case rel => exact ⟨⟨E, rfl, Lib.hid (.inl ⟨HE.out, HE.out, HN.out⟩)⟩, HB4⟩
          · have hdb : (decide (E = 0) && decide (n1 ≠ n0)) = true := by simp [hN, hE]
            have HS3 : Hid (CE = 3) := Lib.hid (by rw [HCE.out, if_neg (by omega), if_pos hN])
            rw [hdb]
            clear hE hN hdb
            go_wp2_with fail
            go_meet
            case rel => exact ⟨⟨3, rfl, Lib.hid (.inr ⟨by omega, HS3.out.symm⟩)⟩, HB4⟩
        · have hdb : (decide (E = 0) && decide (n1 ≠ n0)) = false := by simp [hE]
          have HS3 : Hid (CE = E) := Lib.hid (by rw [HCE.out, if_pos hE])
          have HE := Lib.hid hE
          rw [hdb]
          clear hE hdb
          go_wp2_with fail
          go_meet
          case rel => exact ⟨⟨E, rfl, Lib.hid (.inr ⟨HE.out, HS3.out.symm⟩)⟩, HB4⟩
    case rest =>
      obtain ⟨⟨T1, rfl, HT1⟩, HB5⟩ := hcut
      clear HB4
      go_upto_block 0 with (fail)
      go_cut [11, 12] (fun sx _ wx => sx = .int .i64 CE ∧ Hid (Below w.heap.size w wx))
      case first =>
        as_aux_lemma =>
          have hT := HT1.out
          rcases hT with ⟨rfl, hE, hN⟩ | ⟨hT0, hTS⟩
          · have HE := Lib.hid hE
            have HN := Lib.hid hN
            have hn8 : n1 ≤ 8 := by rw [hN]; exact HN8.out hE
            clear hE hN HT1
            go_wp2_with fail
            go_loopw [11, 12] (fun e i wr => ∃ k : Nat, k ≤ n1 ∧ i = .int .i64 k ∧ ((e = .int .i64 0 ∧ Hid (∀ j, j < k → 0 ≤ p.getD j 0 ∧ p.getD j 0 ≤ 8)) ∨ (Hid (CE = 1) ∧ e = .int .i64 1)) ∧ Hid (Below w.heap.size w wr)) (fun _ i _ => n1 - (intOf i).toNat)
            case atStart => exact ⟨0, Nat.zero_le _, rfl, .inl ⟨rfl, Lib.hid fun j hj => absurd hj (by omega)⟩, HB5⟩
            case round =>
              obtain ⟨k, hk, rfl, hcase, HBR⟩ := hrel
              rcases hcase with ⟨rfl, HJ⟩ | ⟨HS1, rfl⟩
              · by_cases hlt : k < n1
                · obtain ⟨b1, o1, rfl, _, hc1⟩ := (H1.out.below HBR.out).at_ hlt
                  have HX1 : Hid (p.getD k 0 < 0 ∨ 8 < p.getD k 0 → CE = 1) := Lib.hid fun hx => by rw [HCE.out, if_neg (by rw [HE.out]; omega), if_neg (by rw [HN.out]; omega), if_pos (HP1.out k hlt hx)]
                  have hext : 0 ≤ p.getD k 0 ∧ p.getD k 0 ≤ 8 → ∀ j, j < k + 1 → 0 ≤ p.getD j 0 ∧ p.getD j 0 ≤ 8 := fun hx j hj => by
                    by_cases e : j < k
                    · exact HJ.out j e
                    · obtain rfl : j = k := by omega
                      exact hx
                  have HXT := Lib.hid hext
                  obtain ⟨x, hx⟩ : ∃ x, x = p.getD k 0 := ⟨_, rfl⟩
                  rw [← hx] at hc1 HX1 HXT
                  have hlt' : (k : Int) < (n1 : Int) := by omega
                  clear hx hext
                  by_cases hx1 : x < 0
                  · have HS1 := Lib.hid (HX1.out (.inl hx1))
                    go_wp2_with fail
                    go_roundw
                    case rel => exact ⟨k + 1, by omega, by go_num, .inr ⟨HS1, rfl⟩, HBR⟩
                    case measure => simp [intOf]; omega
                  · by_cases hx6 : 8 < x
                    · have HS1 := Lib.hid (HX1.out (.inr hx6))
                      go_wp2_with fail
                      go_roundw
                      case rel => exact ⟨k + 1, by omega, by go_num, .inr ⟨HS1, rfl⟩, HBR⟩
                      case measure => simp [intOf]; omega
                    · have HJ2 := Lib.hid (HXT.out (by omega))
                      go_wp2_with fail
                      go_roundw
                      case rel => exact ⟨k + 1, by omega, by go_num, .inl ⟨rfl, HJ2⟩, HBR⟩
                      case measure => simp [intOf]; omega
                · obtain rfl : k = n1 := by omega
                  have HS0 : Hid (CE = 0) := Lib.hid (by rw [HCE.out, if_neg (by rw [HE.out]; omega), if_neg (by rw [HN.out]; omega), if_neg (by rw [HP0.out HJ.out]; simp)])
                  go_wp2_with fail
                  go_meet
                  case rel => exact ⟨by rw [HS0.out], HBR⟩
              · by_cases hlt : k < n1
                all_goals
                  go_wp2_with fail
                  go_meet
                all_goals exact ⟨by rw [HS1.out], HBR⟩
          · have hTb : (T1 == 0) = false := by simp [hT0]
            subst hTS
            clear hT0 HT1
            by_cases hn20 : 0 < n1
            all_goals
              go_wp2_with fail
              refine wp_loop_rounds 1 ?_
              rw [rounds_succ]
              go_wp2_with fail
              go_meet
            all_goals exact ⟨by rfl, HB5⟩
      case rest =>
        obtain ⟨rfl, HB6⟩ := hcut
        clear HB5 HT1
        clear HP1 HP0 HCE
        go_upto_if 61 with (fail)
        go_cut [13] (fun sx wx => sx = .int .i64 VC ∧ Hid (Below w.heap.size w wx))
        case first =>
          as_aux_lemma =>
            by_cases hE : CE = 0
            · have hEb : (CE == 0) = true := by simp [hE]
              have HCC := Lib.hid (HRC.out hE _ (H0.out.below HB6.out) (H1.out.below HB6.out) HB6.out.size)
              have HV : Hid (VC = CP) := Lib.hid (by rw [HVC.out, if_pos hE])
              clear hE
              go_wp2_with fail
              refine HCC.out.mono ?_
              rintro e w7 ⟨rfl, hb7⟩
              have HB7 := Lib.hid (below_on HB6.out hb7)
              clear hb7
              go_wp2_with fail
              go_meet
              case rel => exact ⟨by rw [HV.out], HB7⟩
            · have hEb : (CE == 0) = false := by simp [hE]
              have HV : Hid (VC = 0) := Lib.hid (by rw [HVC.out, if_neg hE])
              clear hE
              go_wp2_with fail
              go_meet
              case rel => exact ⟨by rw [HV.out], HB6⟩
        case rest =>
          obtain ⟨rfl, HB7⟩ := hcut
          clear HB6 HRC HVC
          go_wp2_with fail
          refine (HSC.out _ (H0.out.below HB7.out) (H1.out.below HB7.out) HB7.out.size).mono ?_
          rintro e w8 ⟨rfl, hb8⟩
          have HB8 := Lib.hid (below_on HB7.out hb8)
          clear hb8
          go_wp2_with fail
          refine (herr_yes CE _ (HG.out.below HB8.out) HB1.out).mono ?_
          rintro e w9 ⟨rfl, hb9⟩
          have HB9 := Lib.hid (below_on HB8.out hb9)
          clear hb9
          clear HB7 HB8 HSC HB1 H1
          go_upto_region 15 with (fail)
          go_cut [87] (fun sx wx => sx = .bool (decide (E = 0) && decide (n2 ≠ n0)) ∧ Hid (Below w.heap.size w wx))
          case first =>
            as_aux_lemma =>
              by_cases hE : E = 0
              · have hEb : (E == 0) = true := by simp [hE]
                have HE := Lib.hid hE
                clear hE
                by_cases hN : n2 = n0
                · have hNb : ((n2 : Int) != (n0 : Int)) = false := by simp [hN]
                  have HN := Lib.hid hN
                  clear hN
                  go_wp2_with fail
                  go_meet
                  case rel => exact ⟨by simp [HN.out], HB9⟩
                · have hNb : ((n2 : Int) != (n0 : Int)) = true := by simp; omega
                  have HN := Lib.hid hN
                  clear hN
                  go_wp2_with fail
                  go_meet
                  case rel => exact ⟨by simp [HN.out, HE.out], HB9⟩
              · have hEb : (E == 0) = false := by simp [hE]
                have HE := Lib.hid hE
                clear hE
                go_wp2_with fail
                go_meet
                case rel => exact ⟨by simp [HE.out], HB9⟩
          case rest =>
            obtain ⟨rfl, HB10⟩ := hcut
            clear HB9
            go_upto_if 87 with (fail)
            go_cut [10] (fun sx wx => (∃ T, sx = .int .i64 T ∧ Hid ((T = 0 ∧ E = 0 ∧ n2 = n0) ∨ (T ≠ 0 ∧ T = LE))) ∧ Hid (Below w.heap.size w wx))
            case first =>
              as_aux_lemma =>
                by_cases hE : E = 0
                · by_cases hN : n2 = n0
                  · have hdb : (decide (E = 0) && decide (n2 ≠ n0)) = false := by simp [hN]
                    have HE := Lib.hid hE
                    have HN := Lib.hid hN
                    rw [hdb]
                    clear hE hN hdb
                    go_wp2_with fail
                    go_meet
                    case rel => exact ⟨⟨E, rfl, Lib.hid (.inl ⟨HE.out, HE.out, HN.out⟩)⟩, HB10⟩
                  · have hdb : (decide (E = 0) && decide (n2 ≠ n0)) = true := by simp [hN, hE]
                    have HS3 : Hid (LE = 3) := Lib.hid (by rw [HLE.out, if_neg (by omega), if_pos hN])
                    rw [hdb]
                    clear hE hN hdb
                    go_wp2_with fail
                    go_meet
                    case rel => exact ⟨⟨3, rfl, Lib.hid (.inr ⟨by omega, HS3.out.symm⟩)⟩, HB10⟩
                · have hdb : (decide (E = 0) && decide (n2 ≠ n0)) = false := by simp [hE]
                  have HS3 : Hid (LE = E) := Lib.hid (by rw [HLE.out, if_pos hE])
                  have HE := Lib.hid hE
                  rw [hdb]
                  clear hE hdb
                  go_wp2_with fail
                  go_meet
                  case rel => exact ⟨⟨E, rfl, Lib.hid (.inr ⟨HE.out, HS3.out.symm⟩)⟩, HB10⟩
            case rest =>
              obtain ⟨⟨T2, rfl, HT2⟩, HB11⟩ := hcut
              clear HB10
              go_upto_block 2 with (fail)
              go_cut [10, 17] (fun sx _ wx => sx = .int .i64 LE ∧ Hid (Below w.heap.size w wx))
              case first =>
                as_aux_lemma =>
                  have hT := HT2.out
                  rcases hT with ⟨rfl, hE, hN⟩ | ⟨hT0, hTS⟩
                  · have HE := Lib.hid hE
                    have HN := Lib.hid hN
                    have hn8 : n2 ≤ 8 := by rw [hN]; exact HN8.out hE
                    clear hE hN HT2
                    go_wp2_with fail
                    go_loopw [10, 17] (fun e i wr => ∃ k : Nat, k ≤ n2 ∧ i = .int .i64 k ∧ ((e = .int .i64 0 ∧ Hid (∀ j, j < k → 0 ≤ lo.getD j 0 ∧ lo.getD j 0 ≤ 8000)) ∨ (Hid (LE = 1) ∧ e = .int .i64 1)) ∧ Hid (Below w.heap.size w wr)) (fun _ i _ => n2 - (intOf i).toNat)
                    case atStart => exact ⟨0, Nat.zero_le _, rfl, .inl ⟨rfl, Lib.hid fun j hj => absurd hj (by omega)⟩, HB11⟩
                    case round =>
                      obtain ⟨k, hk, rfl, hcase, HBR⟩ := hrel
                      rcases hcase with ⟨rfl, HJ⟩ | ⟨HS1, rfl⟩
                      · by_cases hlt : k < n2
                        · obtain ⟨b1, o1, rfl, _, hc1⟩ := (H2.out.below HBR.out).at_ hlt
                          have HX1 : Hid (lo.getD k 0 < 0 ∨ 8000 < lo.getD k 0 → LE = 1) := Lib.hid fun hx => by rw [HLE.out, if_neg (by rw [HE.out]; omega), if_neg (by rw [HN.out]; omega), if_pos (HL1.out k hlt hx)]
                          have hext : 0 ≤ lo.getD k 0 ∧ lo.getD k 0 ≤ 8000 → ∀ j, j < k + 1 → 0 ≤ lo.getD j 0 ∧ lo.getD j 0 ≤ 8000 := fun hx j hj => by
                            by_cases e : j < k
                            · exact HJ.out j e
                            · obtain rfl : j = k := by omega
                              exact hx
                          have HXT := Lib.hid hext
                          obtain ⟨x, hx⟩ : ∃ x, x = lo.getD k 0 := ⟨_, rfl⟩
                          rw [← hx] at hc1 HX1 HXT
                          have hlt' : (k : Int) < (n2 : Int) := by omega
                          clear hx hext
                          by_cases hx1 : x < 0
                          · have HS1 := Lib.hid (HX1.out (.inl hx1))
                            go_wp2_with fail
                            go_roundw
                            case rel => exact ⟨k + 1, by omega, by go_num, .inr ⟨HS1, rfl⟩, HBR⟩
                            case measure => simp [intOf]; omega
                          · by_cases hx6 : 8000 < x
                            · have HS1 := Lib.hid (HX1.out (.inr hx6))
                              go_wp2_with fail
                              go_roundw
                              case rel => exact ⟨k + 1, by omega, by go_num, .inr ⟨HS1, rfl⟩, HBR⟩
                              case measure => simp [intOf]; omega
                            · have HJ2 := Lib.hid (HXT.out (by omega))
                              go_wp2_with fail
                              go_roundw
                              case rel => exact ⟨k + 1, by omega, by go_num, .inl ⟨rfl, HJ2⟩, HBR⟩
                              case measure => simp [intOf]; omega
                        · obtain rfl : k = n2 := by omega
                          have HS0 : Hid (LE = 0) := Lib.hid (by rw [HLE.out, if_neg (by rw [HE.out]; omega), if_neg (by rw [HN.out]; omega), if_neg (by rw [HL0.out HJ.out]; simp)])
                          go_wp2_with fail
                          go_meet
                          case rel => exact ⟨by rw [HS0.out], HBR⟩
                      · by_cases hlt : k < n2
                        all_goals
                          go_wp2_with fail
                          go_meet
                        all_goals exact ⟨by rw [HS1.out], HBR⟩
                  · have hTb : (T2 == 0) = false := by simp [hT0]
                    subst hTS
                    clear hT0 HT2
                    by_cases hn20 : 0 < n2
                    all_goals
                      go_wp2_with fail
                      refine wp_loop_rounds 1 ?_
                      rw [rounds_succ]
                      go_wp2_with fail
                      go_meet
                    all_goals exact ⟨by rfl, HB11⟩
              case rest =>
                obtain ⟨rfl, HB12⟩ := hcut
                clear HB11 HT2
                clear HL1 HL0 HLE
                go_upto_region 22 with (fail)
                go_cut [119] (fun sx wx => sx = .bool (decide (LE = 0) && decide (bits < 0 ∨ 400 < bits)) ∧ Hid (Below w.heap.size w wx))
                case first =>
                  as_aux_lemma =>
                    by_cases hE : LE = 0
                    · have hEb : (LE == 0) = true := by simp [hE]
                      have HE := Lib.hid hE
                      clear hE
                      by_cases hk1 : bits < 0
                      · go_wp2_with fail
                        go_meet
                        case rel => exact ⟨by simp [HE.out, hk1], HB12⟩
                      · by_cases hk2 : 400 < bits
                        · go_wp2_with fail
                          go_meet
                          case rel => exact ⟨by simp [HE.out, hk2], HB12⟩
                        · go_wp2_with fail
                          go_meet
                          case rel => exact ⟨by simp [hk1, hk2], HB12⟩
                    · have hEb : (LE == 0) = false := by simp [hE]
                      have HE := Lib.hid hE
                      clear hE
                      go_wp2_with fail
                      go_meet
                      case rel => exact ⟨by simp [HE.out], HB12⟩
                case rest =>
                  obtain ⟨rfl, HB13⟩ := hcut
                  clear HB12
                  go_upto_if 119 with (fail)
                  go_cut [10] (fun sx wx => sx = .int .i64 SE ∧ Hid (Below w.heap.size w wx))
                  case first =>
                    as_aux_lemma =>
                      by_cases hE : LE = 0
                      · by_cases hkk : bits < 0 ∨ 400 < bits
                        · have hdb : (decide (LE = 0) && decide (bits < 0 ∨ 400 < bits)) = true := by rw [decide_eq_true hE, decide_eq_true hkk]; rfl
                          have HN : Hid (SE = 1) := Lib.hid (by rw [HSL.out, if_neg (by omega), if_pos (HBO.out.2 hkk)])
                          rw [hdb]
                          clear hdb hkk hE
                          go_wp2_with fail
                          go_meet
                          case rel => exact ⟨by rw [HN.out], HB13⟩
                        · have hdb : (decide (LE = 0) && decide (bits < 0 ∨ 400 < bits)) = false := by rw [decide_eq_false hkk]; simp
                          have HN : Hid (SE = LE) := Lib.hid (by rw [HSL.out, if_neg (by omega), if_neg (fun q => hkk (HBO.out.1 q)), hE])
                          rw [hdb]
                          clear hdb hkk hE
                          go_wp2_with fail
                          go_meet
                          case rel => exact ⟨by rw [HN.out], HB13⟩
                      · have hdb : (decide (LE = 0) && decide (bits < 0 ∨ 400 < bits)) = false := by simp [hE]
                        have HN : Hid (SE = LE) := Lib.hid (by rw [HSL.out, if_pos hE])
                        rw [hdb]
                        clear hdb hE
                        go_wp2_with fail
                        go_meet
                        case rel => exact ⟨by rw [HN.out], HB13⟩
                  case rest =>
                    obtain ⟨rfl, HB14⟩ := hcut
                    clear HB13 HSL HBO
                    go_upto_if 121 with (fail)
                    go_cut [18, 19] (fun s18 s19 wx => (∃ A3 m c3, s18 = .slice A3 m c3 ∧ m ≤ 100000000000000 ∧ Hid (RdI wx wx.heap.size A3 m (if SE = 0 then SH else []))) ∧ s19 = .int .i64 VL ∧ Hid (Below w.heap.size w wx))
                    case first =>
                      as_aux_lemma =>
                        by_cases hE : SE = 0
                        · have hEb : (SE == 0) = true := by simp [hE]
                          obtain ⟨hn8, hcb, hbt, hsh, hco⟩ := HRS.out hE
                          have HSHH := Lib.hid (hsh _ (H0.out.below HB14.out) (H2.out.below HB14.out) HB14.out.size)
                          have HCO := Lib.hid hco
                          have HV : Hid (VL = bits - CS) := Lib.hid (by rw [HVL.out, if_pos hE])
                          have HE := Lib.hid hE
                          have k1 : IntKind.i64.wrap (bits - CS) = bits - CS := IntWalk.i64_in _ (by omega)
                          clear hE hsh hco
                          go_wp2_with fail
                          refine HSHH.out.mono ?_
                          rintro e w5 ⟨A5, c5, rfl, hr5, hb5⟩
                          have HR5 := Lib.hid hr5
                          have HB15 := Lib.hid (below_on HB14.out hb5)
                          clear hr5 hb5
                          go_wp2_with fail
                          refine (HCO.out _ _ _ (H0.out.below HB15.out) HR5.out HB15.out.size).mono ?_
                          rintro e w6 ⟨rfl, hb6⟩
                          have HR6 := Lib.hid (HR5.out.on hb6)
                          have HB16 := Lib.hid (below_on HB15.out hb6)
                          clear hb6
                          go_wp2_with fail
                          go_meet
                          case rel => exact ⟨⟨A5, n0, c5, rfl, hn0, Lib.hid (by rw [if_pos HE.out]; exact HR6.out)⟩, by rw [HV.out], HB16⟩
                        · have hEb : (SE == 0) = false := by simp [hE]
                          have HV : Hid (VL = 0) := Lib.hid (by rw [HVL.out, if_neg hE])
                          have HE := Lib.hid hE
                          clear hE
                          go_wp2_with fail
                          go_meet
                          case rel => exact ⟨⟨none, 0, 0, rfl, by omega, Lib.hid (by rw [if_neg HE.out]; exact RdI.nil)⟩, by rw [HV.out], HB14⟩
                    case rest =>
                      obtain ⟨⟨A3, m3, c3, rfl, hm3, HW3⟩, rfl, HB15⟩ := hcut
                      clear HB14 HRS HVL
                      go_wp2_with fail
                      refine (HSO.out _ (H0.out.below HB15.out) (H2.out.below HB15.out) HB15.out.size).mono ?_
                      rintro e w4 ⟨A4, n4, c4, rfl, hn4, hr4, hb4⟩
                      have HW4 := Lib.hid (HW3.out.on hb4)
                      have HR4 := Lib.hid hr4
                      have HB16 := Lib.hid (below_on HB15.out hb4)
                      clear hr4 hb4 HW3 HB15 HSO
                      go_wp2_with fail
                      refine (herr_yes SE _ (HG.out.below HB16.out) HB2.out).mono ?_
                      rintro e w5 ⟨rfl, hb5⟩
                      have HW5 := Lib.hid (HW4.out.on hb5)
                      have HR5 := Lib.hid (HR4.out.on hb5)
                      have HB17 := Lib.hid (below_on HB16.out hb5)
                      clear hb5 HW4 HR4 HB16
                      go_wp2_with fail
                      refine (ints_any A4 A3 n4 c4 m3 c3 _ _ _ _ _ HR5.out HW5.out (Nat.le_refl _) (Nat.le_refl _) (by omega)).mono ?_
                      rintro e w6 ⟨rfl, hb6⟩
                      have HB18 := Lib.hid (below_on HB17.out hb6)
                      rw [sameI_true.2 rfl]
                      clear hb6 HW5 HR5 HB17
                      go_wp2_with fail
                      refine (HLF.out _ (H0.out.below HB18.out) (H2.out.below HB18.out) HB18.out.size).mono ?_
                      rintro e w7 ⟨rfl, hb7⟩
                      have HB19 := Lib.hid (below_on HB18.out hb7)
                      clear hb7
                      go_wp2_with fail
                      refine (herr_yes SE _ (HG.out.below HB19.out) HB2.out).mono ?_
                      rintro e w8 ⟨rfl, hb8⟩
                      have HB20 := Lib.hid (below_on HB19.out hb8)
                      clear hb8
                      go_wp2_with fail
                      go_ret
                      exact ⟨ret_true (by simp), HB20.out⟩
end Go.Proofs.YtbllboajhdmnhaaDoor
