/- Walks: what bands cost, and who is more in need (chapter 14). -/
import Derived.Test.YtmohilfebgahoaaGreatDoorCount
import Derived.Test.YtmohilfebgahoaaGreatDoorBand
import Derived.Test.YtmohilfebgahoaaGreatDoorSound
import Derived.Test.YtmohilfebgahoaaGreatDoorPhAll
import Derived.Deep.RegionWith
import Derived.Deep.RegionHeld3
import Derived.Sort.AtCall
import Derived.Outline
import Derived.Deep.DeepCutAuto
import Derived.Deep.Cut
namespace Go.Proofs.YtmohilfebgahoaaGreatDoor
open Go.RowKit

theorem wid_bd (n k : Int) (hn : 0 ≤ n ∧ n ≤ 6) (hk : 0 ≤ k ∧ k ≤ 8) : 0 ≤ Ph.wid n k ∧ Ph.wid n k ≤ 20 := by
  refine ⟨Ph.wid_nonneg n k, ?_⟩
  have := (Ph.bits_enough n.toNat k.toNat (by omega) (by omega)).1
  unfold Ph.wid; omega
theorem wid_any (n k : Int) (w : World) (hn : 0 ≤ n ∧ n ≤ 6) (hk : 0 ≤ k ∧ k ≤ 8) :
    Calls Tryz.prog 54 #[.int .i64 n, .int .i64 k] w fun e w' => e = .returned (.int .i64 (Ph.wid n k)) ∧ Below w.heap.size w w' := by
  obtain ⟨N, rfl⟩ := Int.eq_ofNat_of_zero_le hn.1
  obtain ⟨K, rfl⟩ := Int.eq_ofNat_of_zero_le hk.1
  exact width_any N K w (by omega) (by omega)
theorem cost_bd : ∀ (s p : List Int), (∀ x ∈ s, 1 ≤ x ∧ x ≤ 6) → Ph.pulsesOk p → 0 ≤ Ph.cost s p ∧ Ph.cost s p ≤ 20 * s.length
  | [], _, _, _ => by simp [Ph.cost]
  | _ :: s, [], _, _ => by simp [Ph.cost]; omega
  | x :: s, y :: p, hs, hp => by
    have h1 := cost_bd s p (fun z hz => hs z (by simp [hz])) (fun z hz => hp z (by simp [hz]))
    have h2 := hs x (by simp)
    have h3 := hp y (by simp)
    have h4 := wid_bd x y (by omega) h3
    simp only [Ph.cost, List.length_cons]
    omega
theorem pulsesOk_take {p : List Int} (h : Ph.pulsesOk p) (k : Nat) : Ph.pulsesOk (p.take k) := fun x hx => h x (List.mem_of_mem_take hx)
set_option maxHeartbeats 1000000 in
theorem cost_any (A1 : Option Addr) (n c1 : Nat) (s : List Int) (A2 : Option Addr) (c2 : Nat) (p : List Int) (w : World) (B1 B2 : Nat) (h1 : RdI w B1 A1 n s) (h2 : RdI w B2 A2 n p) (hB1 : B1 ≤ w.heap.size) (hB2 : B2 ≤ w.heap.size) (hn : n ≤ 8) (hs : ∀ x ∈ s, 1 ≤ x ∧ x ≤ 6) (hp : Ph.pulsesOk p) :
    Calls Tryz.prog 121 #[.slice A1 n c1, .slice A2 n c2] w fun e w' => e = .returned (.int .i64 (Ph.cost s p)) ∧ Below w.heap.size w w' := by
  have HL1 := Lib.hid h1.len
  have HL2 := Lib.hid h2.len
  have H1 := Lib.hid h1
  have H2 := Lib.hid h2
  have HS := Lib.hid hs
  have HP := Lib.hid hp
  clear h1 h2 hs hp
  go_enter Tryz.func121, Tryz.ntmps121
  go_wp2_with fail
  go_loopw [5, 10] (fun t i wr => ∃ k : Nat, k ≤ n ∧ i = .int .i64 k ∧ t = .int .i64 (Ph.cost (s.take k) (p.take k)) ∧ Below w.heap.size w wr) (fun _ i _ => n - (intOf i).toNat)
  case atStart => exact ⟨0, Nat.zero_le _, rfl, rfl, Below.refl _ _⟩
  case round =>
    obtain ⟨k, hk, rfl, rfl, hbw⟩ := hrel
    have HBW := Lib.hid hbw
    clear hbw
    by_cases hlt : k < n
    · obtain ⟨b1, o1, rfl, _, hc1⟩ := (H1.out.below (HBW.out.mono hB1)).at_ hlt
      obtain ⟨b2, o2, rfl, _, hc2⟩ := (H2.out.below (HBW.out.mono hB2)).at_ hlt
      have hk1 : k < s.length := by rw [HL1.out]; exact hlt
      have hk2 : k < p.length := by rw [HL2.out]; exact hlt
      have hx := HS.out _ (Ph.getD_mem (l := s) (i := k) hk1)
      have hy := HP.out _ (Ph.getD_mem (l := p) (i := k) hk2)
      have hct := Ph.cost_take s p k hk1 hk2
      have hcb := cost_bd (s.take k) (p.take k) (fun x hx => HS.out x (List.mem_of_mem_take hx)) (pulsesOk_take HP.out k)
      have hln : (s.take k).length ≤ 8 := by rw [List.length_take]; omega
      obtain ⟨x, hxe⟩ : ∃ x, x = s.getD k 0 := ⟨_, rfl⟩
      obtain ⟨y, hye⟩ : ∃ y, y = p.getD k 0 := ⟨_, rfl⟩
      rw [← hxe] at hc1 hx hct
      rw [← hye] at hc2 hy hct
      have hwb := wid_bd x y (by omega) hy
      have HW := Lib.hid fun W => wid_any x y W (by omega) hy
      obtain ⟨C, hC⟩ : ∃ C, C = Ph.cost (s.take k) (p.take k) := ⟨_, rfl⟩
      obtain ⟨D, hD⟩ : ∃ D, D = Ph.wid x y := ⟨_, rfl⟩
      rw [← hC] at hct hcb ⊢
      rw [← hD] at hct hwb HW
      have HCT := Lib.hid hct
      have k1 : IntKind.i64.wrap (C + D) = C + D := IntWalk.i64_in _ (by omega)
      clear hxe hye hct hC hD hk1 hk2
      go_wp2_with fail
      refine (HW.out _).mono ?_
      rintro e w3 ⟨rfl, hb3⟩
      have HB3 := Lib.hid (below_on HBW.out hb3)
      clear hb3
      go_wp2_with fail
      go_roundw
      case rel => exact ⟨k + 1, by omega, by go_num, by rw [HCT.out], HB3.out⟩
      case measure => simp [intOf]; omega
    · obtain rfl : k = n := by omega
      have e1 : s.take k = s := List.take_of_length_le (by rw [HL1.out]; omega)
      have e2 : p.take k = p := List.take_of_length_le (by rw [HL2.out]; omega)
      rw [e1, e2]
      go_wp2_with fail
      go_ret
      exact ⟨rfl, HBW.out⟩
/-- Is one more in need? -/
def aheadB (a k b m : Int) : Bool := decide (b * (k + 1) * (k + 1) < a * (m + 1) * (m + 1))
theorem need_bd {a m : Int} (ha : 0 ≤ a ∧ a ≤ 8000) (hm : 0 ≤ m ∧ m ≤ 8) : (0 ≤ a * (m + 1) ∧ a * (m + 1) ≤ 72000) ∧ 0 ≤ a * (m + 1) * (m + 1) ∧ a * (m + 1) * (m + 1) ≤ 648000 := by
  have h0 : 0 ≤ a * (m + 1) := Int.mul_nonneg ha.1 (by omega)
  have h1 : a * (m + 1) ≤ 8000 * 9 := Int.mul_le_mul ha.2 (by omega) (by omega) (by omega)
  have h2 : 0 ≤ a * (m + 1) * (m + 1) := Int.mul_nonneg h0 (by omega)
  have h3 : a * (m + 1) * (m + 1) ≤ 72000 * 9 := Int.mul_le_mul (by omega) (by omega) (by omega) (by omega)
  omega
theorem ahead_any (a k b m : Int) (w : World) (ha : 0 ≤ a ∧ a ≤ 8000) (hk : 0 ≤ k ∧ k ≤ 8) (hb : 0 ≤ b ∧ b ≤ 8000) (hm : 0 ≤ m ∧ m ≤ 8) :
    Calls Tryz.prog 122 #[.int .i64 a, .int .i64 k, .int .i64 b, .int .i64 m] w fun e w' => e = .returned (.bool (aheadB a k b m)) ∧ w = w' := by
  have n1 := need_bd ha hm
  have n2 := need_bd hb hk
  unfold aheadB
  have k1 : IntKind.i64.wrap (m + 1) = m + 1 := IntWalk.i64_in _ (by omega)
  have k2 : IntKind.i64.wrap (k + 1) = k + 1 := IntWalk.i64_in _ (by omega)
  obtain ⟨P, hP⟩ : ∃ P, P = a * (m + 1) := ⟨_, rfl⟩
  obtain ⟨Q, hQ⟩ : ∃ Q, Q = b * (k + 1) := ⟨_, rfl⟩
  rw [← hP] at n1 ⊢
  rw [← hQ] at n2 ⊢
  obtain ⟨R, hR⟩ : ∃ R, R = P * (m + 1) := ⟨_, rfl⟩
  obtain ⟨S, hS⟩ : ∃ S, S = Q * (k + 1) := ⟨_, rfl⟩
  rw [← hR] at n1 ⊢
  rw [← hS] at n2 ⊢
  have q1 : IntKind.i64.wrap (a * (m + 1)) = P := by rw [← hP]; exact IntWalk.i64_in _ (by omega)
  have q2 : IntKind.i64.wrap (b * (k + 1)) = Q := by rw [← hQ]; exact IntWalk.i64_in _ (by omega)
  have q3 : IntKind.i64.wrap (P * (m + 1)) = R := by rw [← hR]; exact IntWalk.i64_in _ (by omega)
  have q4 : IntKind.i64.wrap (Q * (k + 1)) = S := by rw [← hS]; exact IntWalk.i64_in _ (by omega)
  clear hP hQ hR hS n1 n2
  go_enter Tryz.func122, Tryz.ntmps122
  go_wp2_with fail
  go_ret
  exact ⟨rfl, rfl⟩
end Go.Proofs.YtmohilfebgahoaaGreatDoor
/- Walks: pulses given (chapter 14). -/
namespace Go.Proofs.YtmohilfebgahoaaGreatDoor
open Go.RowKit

/-- The numbers that a row of the call's own holds, read off the world. -/
def cellsI (w : World) (g n : Nat) : List Int := (List.range n).map fun j => match w.cell? ⟨g, j, none⟩ with
  | some v => intOf v
  | none => 0
theorem cellsI_own {w : World} {base : Nat} {e : TypeId} {g n c : Nat} {l : List Int} (h : w.ownsRow base e 1 (.slice (some ⟨g, 0, none⟩) n c) n (ivals l)) : cellsI w g n = l := by
  have hl := own_len h
  rw [ivals_length] at hl
  unfold cellsI
  apply List.ext_getElem
  · simp [hl]
  · intro i h1 h2
    have hi : i < n := by simpa using h1
    have := h.cellAt i (by omega)
    rw [ivals_get h2] at this
    simp [this, intOf, List.getD_eq_getElem?_getD, h2]
theorem pick_step (s loud out : List Int) (bits : Int) (k : Nat) (hl : s.length = out.length) (hk : k < out.length) :
    (loud.getD k 0 = 0 → Ph.pick s loud bits out (k + 1) = Ph.pick s loud bits out k) ∧
    (out.getD k 0 = 8 → Ph.pick s loud bits out (k + 1) = Ph.pick s loud bits out k) ∧
    (bits < Ph.cost s out + (Ph.wid (s.getD k 0) (out.getD k 0 + 1) - Ph.wid (s.getD k 0) (out.getD k 0)) → Ph.pick s loud bits out (k + 1) = Ph.pick s loud bits out k) ∧
    (loud.getD k 0 ≠ 0 → out.getD k 0 ≠ 8 → Ph.cost s out + (Ph.wid (s.getD k 0) (out.getD k 0 + 1) - Ph.wid (s.getD k 0) (out.getD k 0)) ≤ bits →
      (Ph.pick s loud bits out k < 0 → Ph.pick s loud bits out (k + 1) = k) ∧
      (0 ≤ Ph.pick s loud bits out k → aheadB (loud.getD k 0) (out.getD k 0) (loud.getD (Ph.pick s loud bits out k).toNat 0) (out.getD (Ph.pick s loud bits out k).toNat 0) = true → Ph.pick s loud bits out (k + 1) = k) ∧
      (0 ≤ Ph.pick s loud bits out k → aheadB (loud.getD k 0) (out.getD k 0) (loud.getD (Ph.pick s loud bits out k).toNat 0) (out.getD (Ph.pick s loud bits out k).toNat 0) = false → Ph.pick s loud bits out (k + 1) = Ph.pick s loud bits out k)) := by
  have hc := Ph.costWith_eq (s := s) (out := out) (i := k) hl hk
  have ha : ∀ j, aheadB (loud.getD k 0) (out.getD k 0) (loud.getD j 0) (out.getD j 0) = Ph.ahead loud out k j := fun _ => rfl
  have hp : Ph.pick s loud bits out (k + 1) = if Ph.cand s loud bits out k = true then
      (if Ph.pick s loud bits out k < 0 then (k : Int) else if Ph.ahead loud out k (Ph.pick s loud bits out k).toNat = true then (k : Int) else Ph.pick s loud bits out k)
    else Ph.pick s loud bits out k := rfl
  refine ⟨fun h => ?_, fun h => ?_, fun h => ?_, fun h1 h2 h3 => ⟨fun h4 => ?_, fun h4 h5 => ?_, fun h4 h5 => ?_⟩⟩
  · rw [hp, if_neg (by simp only [Ph.cand, h]; simp)]
  · rw [hp, if_neg (by simp only [Ph.cand, h]; simp)]
  · rw [hp, if_neg (by simp only [Ph.cand, hc, Bool.and_eq_true, decide_eq_true_eq]; omega)]
  all_goals
    rw [hp, if_pos (by simp only [Ph.cand, hc, Bool.and_eq_true, Bool.not_eq_true', decide_eq_true_eq, decide_eq_false_iff_not]; exact ⟨⟨h1, h2⟩, h3⟩)]
  · rw [if_pos h4]
  · rw [if_neg (by omega), ← ha, if_pos h5]
  · rw [if_neg (by omega), ← ha, if_neg (by rw [h5]; simp)]
theorem keepAt {a : Addr} {v : Value} {w0 W w3 : World} (hb : Below W.heap.size W w3) (h : W.cell? a = some v ∧ Below w0.heap.size w0 W) (ha : a.block < w0.heap.size) : w3.cell? a = some v ∧ Below w0.heap.size w0 w3 :=
  ⟨(hb.cell (Nat.lt_of_lt_of_le ha h.2.size)).trans h.1, below_on h.2 hb⟩
set_option maxRecDepth 100000 in
set_option maxHeartbeats 4000000 in
theorem given_any (A1 : Option Addr) (n c1 : Nat) (s : List Int) (A2 : Option Addr) (c2 : Nat) (loud : List Int) (bits : Int) (w : World) (B : Nat) (h1 : RdI w B A1 n s) (h2 : RdI w B A2 n loud) (hB : B ≤ w.heap.size) (h0 : Ph.bandErr s = 0) (hlo : ∀ x ∈ loud, 0 ≤ x ∧ x ≤ 8000) (hb : 0 ≤ bits ∧ bits ≤ 400) :
    Calls Tryz.prog 89 #[.slice A1 n c1, .slice A2 n c2, .int .i64 bits] w (OwnI 3 (Ph.shareOf s loud bits) w) := by
  have hz := Ph.bandErr_zero.1 h0
  have hl1 := h1.len
  have hl2 := h2.len
  have hn : n ≤ 8 := by omega
  have hmk := make_ints n (by omega)
  have hown0 := Lib.hid (made_own w n (by omega))
  have HS := Lib.hid hz.2.2.1
  have HLO := Lib.hid hlo
  have HL1 := Lib.hid hl1
  have HL2 := Lib.hid hl2
  have H1 := Lib.hid h1
  have H2 := Lib.hid h2
  have HE0 : Hid (Ph.shareOf s loud bits = Ph.given s loud bits (List.replicate n 0)) := Lib.hid (by unfold Ph.shareOf; rw [hl1])
  obtain ⟨V, hV⟩ : ∃ V, V = Ph.shareOf s loud bits := ⟨_, rfl⟩
  rw [← hV] at HE0 ⊢
  have hVL : V.length = n := by rw [hV, (Ph.share_ok (s := s) (loud := loud) hb.1).1, hl1]
  have HVL := Lib.hid hVL
  have hb0 := hb.1
  have hb1 := hb.2
  clear h1 h2 hz hl1 hl2 hlo h0 hV hVL hb
  go_enter Tryz.func89, Tryz.ntmps89
  go_wp2_with fail
  go_loopw [] (fun wr => ∃ out : List Int, wr.ownsRow w.heap.size 3 1 (.slice (some ⟨w.heap.size, 0, none⟩) n n) n (ivals out) ∧ Hid (V = Ph.given s loud bits out ∧ Ph.pulsesOk out) ∧ Below w.heap.size w wr) (fun wr => Ph.space (cellsI wr w.heap.size n))
  case atStart => exact ⟨List.replicate n 0, hown0.out, Lib.hid ⟨HE0.out, Ph.pulsesOk_zeros n⟩, below_alloc0 _ _⟩
  case round =>
    obtain ⟨out, hown, HI, hbw⟩ := hrel
    have HO := Lib.hid hown
    have HBW := Lib.hid hbw
    have HOL : Hid (out.length = n) := Lib.hid (by have := own_len hown; rwa [ivals_length] at this)
    rename World => wo
    clear hown hbw hown0 HE0 hmk
    go_wp2_with fail
    go_loopw [8, 17] (fun p i wr => ∃ k : Nat, k ≤ n ∧ i = .int .i64 k ∧ p = .int .i64 (Ph.pick s loud bits out k) ∧ Below wo.heap.size wo wr) (fun _ i _ => n - (intOf i).toNat)
    case atStart => exact ⟨0, Nat.zero_le _, rfl, rfl, Below.refl _ _⟩
    case round =>
      obtain ⟨k, hk, rfl, rfl, hbr⟩ := hrel
      have HBR := Lib.hid hbr
      clear hbr
      have hpb := Ph.pick_bd s loud bits out k
      by_cases hlt : k < n
      · have hk1 : k < s.length := by rw [HL1.out]; exact hlt
        have hk2 : k < loud.length := by rw [HL2.out]; exact hlt
        have hk3 : k < out.length := by rw [HOL.out]; exact hlt
        have hst := pick_step s loud out bits k (by rw [HL1.out, HOL.out]) hk3
        have HBA := Lib.hid (below_on HBW.out HBR.out)
        obtain ⟨b1, o1, hA1, hbb1, hc1⟩ := (H1.out.below (HBA.out.mono hB)).at_ hlt
        obtain ⟨b2, o2, hA2, hbb2, hc2⟩ := (H2.out.below (HBA.out.mono hB)).at_ hlt
        have hc3 : wr.cell? ⟨w.heap.size, k, none⟩ = some (.int .i64 (out.getD k 0)) := by
          rw [HBR.out.cell (by have := (HO.out.lt w.heap.size rfl).2; show w.heap.size < _; omega), HO.out.cellAt k (by omega), ivals_get hk3]
        have hx := HS.out _ (Ph.getD_mem (l := s) (i := k) hk1)
        have hu := HLO.out _ (Ph.getD_mem (l := loud) (i := k) hk2)
        have hy := HI.out.2 _ (Ph.getD_mem (l := out) (i := k) hk3)
        have hcb := cost_bd s out HS.out HI.out.2
        have hsl : s.length ≤ 8 := by rw [HL1.out]; exact hn
        obtain ⟨P1, hP1⟩ : ∃ P1, P1 = Ph.pick s loud bits out (k + 1) := ⟨_, rfl⟩
        obtain ⟨P0, hP0⟩ : ∃ P0, P0 = Ph.pick s loud bits out k := ⟨_, rfl⟩
        have hq : P0 < 0 ∨ ∃ q : Nat, P0 = (q : Int) ∧ q < k := by
          rcases Int.lt_or_le P0 0 with h | h
          · exact .inl h
          · exact .inr ⟨P0.toNat, by omega, by rw [hP0] at h ⊢; omega⟩
        have hCQ : Hid (∀ q : Nat, q < n → (0 ≤ loud.getD q 0 ∧ loud.getD q 0 ≤ 8000) ∧ (0 ≤ out.getD q 0 ∧ out.getD q 0 ≤ 8) ∧ (b2 < wr.heap.size ∧ wr.cell? ⟨b2, o2 + q, none⟩ = some (.int .i64 (loud.getD q 0))) ∧ (w.heap.size < wr.heap.size ∧ wr.cell? ⟨w.heap.size, q, none⟩ = some (.int .i64 (out.getD q 0)))) := Lib.hid fun q hqn => by
          obtain ⟨b', o', hA', hb', hc'⟩ := (H2.out.below (HBA.out.mono hB)).at_ hqn
          rw [hA2] at hA'
          obtain ⟨rfl, rfl⟩ : b2 = b' ∧ o2 = o' := by simpa using hA'
          have hG := (HO.out.lt w.heap.size rfl).2
          refine ⟨HLO.out _ (Ph.getD_mem (by rw [HL2.out]; exact hqn)), HI.out.2 _ (Ph.getD_mem (by rw [HOL.out]; exact hqn)), ⟨by have := HBA.out.size; omega, hc'⟩, by have := HBR.out.size; omega, ?_⟩
          rw [HBR.out.cell (by show w.heap.size < _; omega), HO.out.cellAt q (by omega), ivals_get (by rw [HOL.out]; exact hqn)]
        obtain ⟨x, hxe⟩ : ∃ x, x = s.getD k 0 := ⟨_, rfl⟩
        obtain ⟨u, hue⟩ : ∃ u, u = loud.getD k 0 := ⟨_, rfl⟩
        obtain ⟨y, hye⟩ : ∃ y, y = out.getD k 0 := ⟨_, rfl⟩
        have hlt' : (k : Int) < (n : Int) := by omega
        have hkq := hCQ.out k hlt
        rw [← hP0, ← hP1, ← hxe, ← hue, ← hye] at hst
        rw [← hxe] at hc1 hx
        rw [← hue] at hkq
        rw [← hye] at hkq hy
        obtain ⟨M, hM⟩ : ∃ M, M = min 8 (y + 1) := ⟨_, rfl⟩
        have hm8 : 0 ≤ M ∧ M ≤ 8 := by omega
        have hcut : min 8 (y + 1) = M := hM.symm
        have HW1 := Lib.hid fun W => wid_any x M W (by omega) hm8
        have HW0 := Lib.hid fun W => wid_any x y W (by omega) hy
        have hw1 := wid_bd x M (by omega) hm8
        have hw0 := wid_bd x y (by omega) hy
        have HDD : Hid (y ≠ 8 → Ph.wid x M = Ph.wid x (y + 1)) := Lib.hid fun h => by rw [show M = y + 1 by omega]
        obtain ⟨D1, hD1⟩ : ∃ D1, D1 = Ph.wid x M := ⟨_, rfl⟩
        obtain ⟨D0, hD0⟩ : ∃ D0, D0 = Ph.wid x y := ⟨_, rfl⟩
        obtain ⟨C, hC⟩ : ∃ C, C = Ph.cost s out := ⟨_, rfl⟩
        rw [← hD1] at HW1 hw1 HDD
        rw [← hD0] at HW0 hw0 hst
        rw [← hC] at hst hcb
        rw [← hP0] at hpb ⊢
        have HST := Lib.hid hst
        have HCO : Hid (∀ W, Below wr.heap.size wr W → Calls Tryz.prog 121 #[.slice A1 n c1, .slice (some ⟨w.heap.size, 0, none⟩) n n] W fun e w' => e = .returned (.int .i64 C) ∧ Below W.heap.size W w') := Lib.hid fun W hW => by
          rw [hC]
          have hG := (HO.out.lt w.heap.size rfl).2
          have hb1 := below_on HBR.out hW
          refine cost_any A1 n c1 s _ n out W B wo.heap.size (H1.out.below ((below_on HBW.out hb1).mono hB)) ((RdI.own HO.out).below hb1) ?_ hb1.size hn HS.out HI.out.2
          have := (below_on HBW.out hb1).size; omega
        have HP1 := Lib.hid hP1
        have k1 : IntKind.i64.wrap (D1 - D0) = D1 - D0 := IntWalk.i64_in _ (by omega)
        have k2 : IntKind.i64.wrap (C + (D1 - D0)) = C + (D1 - D0) := IntWalk.i64_in _ (by omega)
        have k3 : IntKind.i64.wrap (y + 1) = y + 1 := IntWalk.i64_in _ (by omega)
        have hG : w.heap.size < wr.heap.size := hkq.2.2.2.1
        have KU := Lib.hid hkq.2.2.1
        have KY := Lib.hid hkq.2.2.2
        have hc3 := hkq.2.2.2.2
        have hu := hkq.1
        subst hA1
        subst hA2
        clear hP1 hP0 hst hkq hxe hue hye hD1 hD0 hC hk1 hk2 hk3 hm8 hM hcb hw1 hw0 hsl
        have HBX := Lib.hid (Below.refl wr.heap.size wr)
        go_upto_region 6 with (fail)
        go_cut [11] (fun s11 wx => s11 = .int .i64 (D1 - D0) ∧ Hid (Below wr.heap.size wr wx))
        case first =>
          go_region_held3 (fun w' => w'.cell? ⟨w.heap.size, k, none⟩ = some (.int .i64 y) ∧ Below wr.heap.size wr w') (first | exact ⟨hc3, (Below.refl wr.heap.size wr).drew⟩ | exact keepAt hb3 (by assumption) hG | exact keepAt hb4 (by assumption) hG) (first
            | (go_at_call_has 54 (Value.int .i64 M); refine (HW1.out _).mono ?_; rintro e w3 ⟨rfl, hb3⟩)
            | (go_at_call_has 54 (Value.int .i64 y); refine (HW0.out _).mono ?_; rintro e w4 ⟨rfl, hb4⟩))
          all_goals go_wp2_with fail
          all_goals go_meet
          all_goals exact ⟨rfl, Lib.hid (And.right (by assumption : _ ∧ Below wr.heap.size wr _))⟩
        case rest =>
          obtain ⟨rfl, HX⟩ := hcut
          rename World => wx
          have c2 := (HX.out.cell (p := ⟨b2, o2 + k, none⟩) KU.out.1).trans KU.out.2
          have c3 := (HX.out.cell (p := ⟨w.heap.size, k, none⟩) hG).trans hc3
          clear hc3 hc2 hc1
          by_cases hu0 : u = 0
          · have hpe := Lib.hid (HST.out.1 hu0)
            subst hu0
            go_wp2_with fail
            go_roundw
            case rel => exact ⟨k + 1, by omega, by go_num, by rw [← HP1.out, hpe.out], below_on HBR.out HX.out⟩
            case measure => simp [intOf]; omega
          · have hu1 : (u == 0) = false := by simpa using hu0
            by_cases hy8 : y = 8
            · have hpe := Lib.hid (HST.out.2.1 hy8)
              subst hy8
              clear hu0
              go_wp2_with fail
              go_roundw
              case rel => exact ⟨k + 1, by omega, by go_num, by rw [← HP1.out, hpe.out], below_on HBR.out HX.out⟩
              case measure => simp [intOf]; omega
            · have hy1 : (y == 8) = false := by simpa using hy8
              have HST2 := Lib.hid HST.out.2.2
              have HD : Hid (Ph.wid x (y + 1) = D1) := Lib.hid (HDD.out hy8).symm
              have HU0 := Lib.hid hu0
              have HY8 := Lib.hid hy8
              clear hu0 hy8 HST
              go_wp2_with fail
              refine (HCO.out _ HX.out).mono ?_
              rintro e w7 ⟨rfl, hb7⟩
              have HX7 := Lib.hid (below_on HX.out hb7)
              replace c2 := (hb7.cell (p := ⟨b2, o2 + k, none⟩) (Nat.lt_of_lt_of_le KU.out.1 HX.out.size)).trans c2
              replace c3 := (hb7.cell (p := ⟨w.heap.size, k, none⟩) (Nat.lt_of_lt_of_le hG HX.out.size)).trans c3
              clear hb7
              by_cases hbt : bits < C + (D1 - D0)
              · have hpe := Lib.hid (HST2.out.1 (by rw [HD.out]; exact hbt))
                go_wp2_with fail
                go_roundw
                case rel => exact ⟨k + 1, by omega, by go_num, by rw [← HP1.out, hpe.out], below_on HBR.out HX7.out⟩
                case measure => simp [intOf]; omega
              · have HS3 := Lib.hid (HST2.out.2 HU0.out HY8.out (by rw [HD.out]; omega))
                rcases hq with hneg | ⟨q, rfl, hqk⟩
                · have hpe := Lib.hid (HS3.out.1 hneg)
                  go_wp2_with fail
                  go_quiet (fail)
                  go_wp2_with fail
                  go_roundw
                  case rel => exact ⟨k + 1, by omega, by go_num, by rw [← HP1.out, hpe.out], below_drewN' (below_on HBR.out HX7.out) _⟩
                  case measure => simp [intOf]; omega
                · have hkq := hCQ.out q (by omega)
                  have e2 := (HX7.out.cell (p := ⟨b2, o2 + q, none⟩) hkq.2.2.1.1).trans hkq.2.2.1.2
                  have e3 := (HX7.out.cell (p := ⟨w.heap.size, q, none⟩) hkq.2.2.2.1).trans hkq.2.2.2.2
                  obtain ⟨u2, hu2⟩ : ∃ u2, u2 = loud.getD q 0 := ⟨_, rfl⟩
                  obtain ⟨y2, hy2⟩ : ∃ y2, y2 = out.getD q 0 := ⟨_, rfl⟩
                  rw [Int.toNat_natCast, ← hu2, ← hy2] at HS3
                  rw [← hu2] at e2 hkq
                  rw [← hy2] at e3 hkq
                  have HA : Hid (∀ W, Calls Tryz.prog 122 #[.int .i64 u, .int .i64 y, .int .i64 u2, .int .i64 y2] W fun e w' => e = .returned (.bool (aheadB u y u2 y2)) ∧ w' = W) := Lib.hid fun W => (ahead_any u y u2 y2 W hu hy hkq.1 hkq.2.1).mono fun e w' h => ⟨h.1, h.2.symm⟩
                  obtain ⟨a, ha⟩ : ∃ a, a = aheadB u y u2 y2 := ⟨_, rfl⟩
                  rw [← ha] at HA HS3
                  have hqn : (q : Int) < (n : Int) := by omega
                  clear hkq hu2 hy2 ha
                  cases a with
                  | true =>
                    have hpe := Lib.hid (HS3.out.2.1 (by omega) rfl)
                    go_wp2_with fail
                    go_quiet ((go_at_call 122; exact Calls.quiet_of_same (HA.out _)))
                    go_wp2_with fail
                    go_roundw
                    case rel => exact ⟨k + 1, by omega, by go_num, by rw [← HP1.out, hpe.out], below_drewN' (below_on HBR.out HX7.out) _⟩
                    case measure => simp [intOf]; omega
                  | false =>
                    have hpe := Lib.hid (HS3.out.2.2 (by omega) rfl)
                    go_wp2_with fail
                    go_quiet ((go_at_call 122; exact Calls.quiet_of_same (HA.out _)))
                    go_wp2_with fail
                    go_roundw
                    case rel => exact ⟨k + 1, by omega, by go_num, by rw [← HP1.out, hpe.out], below_drewN' (below_on HBR.out HX7.out) _⟩
                    case measure => simp [intOf]; omega
      · obtain rfl : k = n := by omega
        have hO2 := own_below' HO.out HBR.out
        have HO2 := Lib.hid hO2
        have HBA := Lib.hid (below_on HBW.out HBR.out)
        obtain ⟨P0, hP0⟩ : ∃ P0, P0 = Ph.pick s loud bits out k := ⟨_, rfl⟩
        rw [← hP0] at hpb ⊢
        by_cases hp : P0 < 0
        · have HV : Hid (V = out) := Lib.hid (by rw [HI.out.1, Ph.given_done (by rw [HL1.out, ← hP0]; exact hp)])
          clear hP0 hO2
          go_wp2_with fail
          go_ret
          exact ⟨some ⟨w.heap.size, 0, none⟩, k, by rw [HVL.out]; rfl, by rw [HVL.out, HV.out]; exact HO2.out, HBA.out⟩
        · obtain ⟨q, hq⟩ : ∃ q : Nat, P0 = q := ⟨P0.toNat, by omega⟩
          have hqk : q < k := by omega
          have hpos : 0 ≤ Ph.pick s loud bits out s.length := by rw [HL1.out, ← hP0]; omega
          have ht := Ph.turn_ok (s := s) (loud := loud) (bits := bits) (out := out) (by rw [HOL.out, HL1.out]) HI.out.2 hpos
          have hgt := Ph.given_turn (s := s) (loud := loud) (bits := bits) (out := out) (by rw [HOL.out, HL1.out]) HI.out.2 hpos
          rw [HL1.out, ← hP0, hq, Int.toNat_natCast] at ht
          rw [HL1.out, ← hP0, hq, Int.toNat_natCast] at hgt
          have c3 : wr.cell? ⟨w.heap.size, q, none⟩ = some (.int .i64 (out.getD q 0)) := by rw [hO2.cellAt q (by omega), ivals_get (by rw [HOL.out]; exact hqk)]
          have f3 : wr.frozen? ⟨w.heap.size, q, none⟩ = false := hO2.frozenAt q
          have hy := HI.out.2 _ (Ph.getD_mem (l := out) (i := q) (by rw [HOL.out]; exact hqk))
          have hbm : Hid (Ph.bump out q 1 = out.set q (out.getD q 0 + 1)) := Lib.hid rfl
          obtain ⟨y, hye⟩ : ∃ y, y = out.getD q 0 := ⟨_, rfl⟩
          rw [← hye] at c3 hy hbm
          have HT := Lib.hid ht
          have HGT := Lib.hid hgt
          have hqn : (q : Int) < (k : Int) := by omega
          have k3 : IntKind.i64.wrap (y + 1) = y + 1 := IntWalk.i64_in _ (by omega)
          subst hq
          clear hP0 hpos ht hgt hye hO2
          go_wp2_with fail
          have hst := (HO2.out.stored q (.int .i64 (y + 1))).1
          rw [ivals_set, ← hbm.out] at hst
          go_roundw
          case rel => exact ⟨Ph.bump out q 1, hst, Lib.hid ⟨HI.out.1.trans HGT.out, HT.out.2.1⟩, HBA.out.setCell (Nat.le_refl _) _⟩
          case measure =>
            have e1 := cellsI_own hst
            have e2 := cellsI_own HO.out
            have e3 := HT.out.2.2
            first
              | (rw [e1, e2]; omega)
              | (simp only [e1, e2]; omega)
end Go.Proofs.YtmohilfebgahoaaGreatDoor
/- Walks: pulses given, asked; bits left; what bands cost, asked (chapter 14). -/
namespace Go.Proofs.YtmohilfebgahoaaGreatDoor
open Go.RowKit

/-- A loudness that may not be. -/
def badLoud (x : Int) : Bool := decide (x < 0) || decide (8000 < x)
theorem loud_any_bad {s : List Int} : s.any badLoud = false ↔ ∀ x ∈ s, 0 ≤ x ∧ x ≤ 8000 := by
  rw [List.any_eq_false]
  unfold badLoud
  constructor
  · intro h x hx
    have := h x hx
    simp at this; omega
  · intro h x hx
    have := h x hx
    simp; omega
/-- May there be so many bits? -/
def bitsOk (n : Int) : Bool := decide (0 ≤ n) && decide (n ≤ 400)
theorem bitsOk_iff {n : Int} : bitsOk n = true ↔ 0 ≤ n ∧ n ≤ 400 := by unfold bitsOk; simp
theorem shbits_any (n : Int) (w : World) : Calls Tryz.prog 45 #[.int .i64 n] w fun e w' => e = .returned (.bool (bitsOk n)) ∧ w = w' := by
  unfold bitsOk
  by_cases h1 : 0 ≤ n <;> by_cases h2 : n ≤ 400
  all_goals go_enter Tryz.func45, Tryz.ntmps45
  all_goals go_wp2_with fail
  all_goals go_ret
  all_goals exact ⟨ret_bool (by simp [h1, h2]), rfl⟩
/-- What is wrong with bands, their loudness, and bits. -/
def shareErr (s loud : List Int) (bits : Int) : Int :=
  if Ph.bandErr s ≠ 0 then Ph.bandErr s else if loud.length ≠ s.length then 3 else if loud.any badLoud = true ∨ bitsOk bits = false then 1 else 0
theorem shareErr_zero {s loud : List Int} {bits : Int} : shareErr s loud bits = 0 ↔ Ph.bandErr s = 0 ∧ loud.length = s.length ∧ (∀ x ∈ loud, 0 ≤ x ∧ x ≤ 8000) ∧ 0 ≤ bits ∧ bits ≤ 400 := by
  unfold shareErr
  by_cases h1 : Ph.bandErr s = 0
  · rw [if_neg (by omega)]
    by_cases h2 : loud.length = s.length
    · rw [if_neg (by omega)]
      cases h3 : loud.any badLoud
      · cases h4 : bitsOk bits
        · rw [if_pos (by simp)]
          constructor
          · intro h; omega
          · intro h; rw [bitsOk_iff.2 h.2.2.2] at h4; cases h4
        · rw [if_neg (by simp)]
          exact ⟨fun _ => ⟨h1, h2, loud_any_bad.1 h3, bitsOk_iff.1 h4⟩, fun _ => rfl⟩
      · rw [if_pos (by simp)]
        constructor
        · intro h; omega
        · intro h; rw [loud_any_bad.2 h.2.2.1] at h3; cases h3
    · rw [if_pos h2]
      constructor
      · intro h; omega
      · intro h; exact absurd h.2.1 h2
  · rw [if_pos h1]
    constructor
    · intro h; exact absurd h h1
    · intro h; exact absurd h.1 h1
/-- So many pulses as may not be. -/
def badPulse (k : Int) : Bool := !(decide (0 ≤ k) && decide (k ≤ 8))
theorem pulse_any_bad {p : List Int} : p.any badPulse = false ↔ Ph.pulsesOk p := by
  rw [List.any_eq_false]
  unfold badPulse Ph.pulsesOk
  constructor
  · intro h x hx
    have := h x hx
    simp at this; omega
  · intro h x hx
    have := h x hx
    simp; omega
/-- What is wrong with bands, and their pulses. -/
def costErr (s p : List Int) : Int :=
  if Ph.bandErr s ≠ 0 then Ph.bandErr s else if p.length ≠ s.length then 3 else if p.any badPulse = true then 1 else 0
theorem costErr_zero {s p : List Int} : costErr s p = 0 ↔ Ph.bandErr s = 0 ∧ p.length = s.length ∧ Ph.pulsesOk p := by
  unfold costErr
  by_cases h1 : Ph.bandErr s = 0
  · rw [if_neg (by omega)]
    by_cases h2 : p.length = s.length
    · rw [if_neg (by omega)]
      cases h3 : p.any badPulse
      · rw [if_neg (by simp)]
        exact ⟨fun _ => ⟨h1, h2, pulse_any_bad.1 h3⟩, fun _ => rfl⟩
      · rw [if_pos rfl]
        constructor
        · intro h; omega
        · intro h; rw [pulse_any_bad.2 h.2.2] at h3; cases h3
    · rw [if_pos h2]
      constructor
      · intro h; omega
      · intro h; exact absurd h.2.1 h2
  · rw [if_pos h1]
    constructor
    · intro h; exact absurd h h1
    · intro h; exact absurd h.1 h1
end Go.Proofs.YtmohilfebgahoaaGreatDoor
