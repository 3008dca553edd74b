/- Walks: what bands cost, and who is more in need (chapter 14). -/
import Derived.Test.YtbllboajhdmnhaaDoorCount2
import Derived.Test.YtbllboajhdmnhaaDoorBand
import Derived.Test.YtbllboajhdmnhaaDoorTells
import Derived.Test.YtbllboajhdmnhaaDoorPhShare
namespace Go.Proofs.YtbllboajhdmnhaaDoor
open Go.RowKit

theorem wid_bd (n k : Int) (hn : 0 ≤ n ∧ n ≤ 6) (hk : 0 ≤ k ∧ k ≤ 8) : 0 ≤ Ph.wid n k ∧ Ph.wid n k ≤ 20 := by
  refine ⟨Ph.wid_nonneg n k, ?_⟩
  have := (Ph.bits_enough n.toNat k.toNat (by omega) (by omega)).1
  unfold Ph.wid; omega
theorem wid_any (n k : Int) (w : World) (hn : 0 ≤ n ∧ n ≤ 6) (hk : 0 ≤ k ∧ k ≤ 8) :
    Calls Tryd.prog 131 #[.int .i64 n, .int .i64 k] w fun e w' => e = .returned (.int .i64 (Ph.wid n k)) ∧ Below w.heap.size w w' := by
  obtain ⟨N, rfl⟩ := Int.eq_ofNat_of_zero_le hn.1
  obtain ⟨K, rfl⟩ := Int.eq_ofNat_of_zero_le hk.1
  exact width_any N K w (by omega) (by omega)
theorem cost_bd : ∀ (s p : List Int), (∀ x ∈ s, 1 ≤ x ∧ x ≤ 6) → Ph.pulsesOk p → 0 ≤ Ph.cost s p ∧ Ph.cost s p ≤ 20 * s.length
  | [], _, _, _ => by simp [Ph.cost]
  | _ :: s, [], _, _ => by simp [Ph.cost]; omega
  | x :: s, y :: p, hs, hp => by
    have h1 := cost_bd s p (fun z hz => hs z (by simp [hz])) (fun z hz => hp z (by simp [hz]))
    have h2 := hs x (by simp)
    have h3 := hp y (by simp)
    have h4 := wid_bd x y (by omega) h3
    simp only [Ph.cost, List.length_cons]
    omega
theorem pulsesOk_take {p : List Int} (h : Ph.pulsesOk p) (k : Nat) : Ph.pulsesOk (p.take k) := fun x hx => h x (List.mem_of_mem_take hx)
set_option maxHeartbeats 1000000 in
theorem cost_any (A1 : Option Addr) (n c1 : Nat) (s : List Int) (A2 : Option Addr) (c2 : Nat) (p : List Int) (w : World) (B1 B2 : Nat) (h1 : RdI w B1 A1 n s) (h2 : RdI w B2 A2 n p) (hB1 : B1 ≤ w.heap.size) (hB2 : B2 ≤ w.heap.size) (hn : n ≤ 8) (hs : ∀ x ∈ s, 1 ≤ x ∧ x ≤ 6) (hp : Ph.pulsesOk p) :
    Calls Tryd.prog 97 #[.slice A1 n c1, .slice A2 n c2] w fun e w' => e = .returned (.int .i64 (Ph.cost s p)) ∧ Below w.heap.size w w' := by
  have HL1 := Lib.hid h1.len
  have HL2 := Lib.hid h2.len
  have H1 := Lib.hid h1
  have H2 := Lib.hid h2
  have HS := Lib.hid hs
  have HP := Lib.hid hp
  clear h1 h2 hs hp
  go_enter Tryd.func97, Tryd.ntmps97
  go_wp2_with fail
  go_loopw [5, 10] (fun t i wr => ∃ k : Nat, k ≤ n ∧ i = .int .i64 k ∧ t = .int .i64 (Ph.cost (s.take k) (p.take k)) ∧ Below w.heap.size w wr) (fun _ i _ => n - (intOf i).toNat)
  case atStart => exact ⟨0, Nat.zero_le _, rfl, rfl, Below.refl _ _⟩
  case round =>
    obtain ⟨k, hk, rfl, rfl, hbw⟩ := hrel
    have HBW := Lib.hid hbw
    clear hbw
    by_cases hlt : k < n
    · obtain ⟨b1, o1, rfl, _, hc1⟩ := (H1.out.below (HBW.out.mono hB1)).at_ hlt
      obtain ⟨b2, o2, rfl, _, hc2⟩ := (H2.out.below (HBW.out.mono hB2)).at_ hlt
      have hk1 : k < s.length := by rw [HL1.out]; exact hlt
      have hk2 : k < p.length := by rw [HL2.out]; exact hlt
      have hx := HS.out _ (Ph.getD_mem (l := s) (i := k) hk1)
      have hy := HP.out _ (Ph.getD_mem (l := p) (i := k) hk2)
      have hct := Ph.cost_take s p k hk1 hk2
      have hcb := cost_bd (s.take k) (p.take k) (fun x hx => HS.out x (List.mem_of_mem_take hx)) (pulsesOk_take HP.out k)
      have hln : (s.take k).length ≤ 8 := by rw [List.length_take]; omega
      obtain ⟨x, hxe⟩ : ∃ x, x = s.getD k 0 := ⟨_, rfl⟩
      obtain ⟨y, hye⟩ : ∃ y, y = p.getD k 0 := ⟨_, rfl⟩
      rw [← hxe] at hc1 hx hct
      rw [← hye] at hc2 hy hct
      have hwb := wid_bd x y (by omega) hy
      have HW := Lib.hid fun W => wid_any x y W (by omega) hy
      obtain ⟨C, hC⟩ : ∃ C, C = Ph.cost (s.take k) (p.take k) := ⟨_, rfl⟩
      obtain ⟨D, hD⟩ : ∃ D, D = Ph.wid x y := ⟨_, rfl⟩
      rw [← hC] at hct hcb ⊢
      rw [← hD] at hct hwb HW
      have HCT := Lib.hid hct
      have k1 : IntKind.i64.wrap (C + D) = C + D := IntWalk.i64_in _ (by omega)
      clear hxe hye hct hC hD hk1 hk2
      go_wp2_with fail
      refine (HW.out _).mono ?_
      rintro e w3 ⟨rfl, hb3⟩
      have HB3 := Lib.hid (below_on HBW.out hb3)
      clear hb3
      go_wp2_with fail
      go_roundw
      case rel => exact ⟨k + 1, by omega, by go_num, by rw [HCT.out], HB3.out⟩
      case measure => simp [intOf]; omega
    · obtain rfl : k = n := by omega
      have e1 : s.take k = s := List.take_of_length_le (by rw [HL1.out]; omega)
      have e2 : p.take k = p := List.take_of_length_le (by rw [HL2.out]; omega)
      rw [e1, e2]
      go_wp2_with fail
      go_ret
      exact ⟨rfl, HBW.out⟩
/-- Is one more in need? -/
def aheadB (a k b m : Int) : Bool := decide (b * (k + 1) * (k + 1) < a * (m + 1) * (m + 1))
theorem need_bd {a m : Int} (ha : 0 ≤ a ∧ a ≤ 8000) (hm : 0 ≤ m ∧ m ≤ 8) : (0 ≤ a * (m + 1) ∧ a * (m + 1) ≤ 72000) ∧ 0 ≤ a * (m + 1) * (m + 1) ∧ a * (m + 1) * (m + 1) ≤ 648000 := by
  have h0 : 0 ≤ a * (m + 1) := Int.mul_nonneg ha.1 (by omega)
  have h1 : a * (m + 1) ≤ 8000 * 9 := Int.mul_le_mul ha.2 (by omega) (by omega) (by omega)
  have h2 : 0 ≤ a * (m + 1) * (m + 1) := Int.mul_nonneg h0 (by omega)
  have h3 : a * (m + 1) * (m + 1) ≤ 72000 * 9 := Int.mul_le_mul (by omega) (by omega) (by omega) (by omega)
  omega
theorem ahead_any (a k b m : Int) (w : World) (ha : 0 ≤ a ∧ a ≤ 8000) (hk : 0 ≤ k ∧ k ≤ 8) (hb : 0 ≤ b ∧ b ≤ 8000) (hm : 0 ≤ m ∧ m ≤ 8) :
    Calls Tryd.prog 132 #[.int .i64 a, .int .i64 k, .int .i64 b, .int .i64 m] w fun e w' => e = .returned (.bool (aheadB a k b m)) ∧ w = w' := by
  have n1 := need_bd ha hm
  have n2 := need_bd hb hk
  unfold aheadB
  have k1 : IntKind.i64.wrap (m + 1) = m + 1 := IntWalk.i64_in _ (by omega)
  have k2 : IntKind.i64.wrap (k + 1) = k + 1 := IntWalk.i64_in _ (by omega)
  obtain ⟨P, hP⟩ : ∃ P, P = a * (m + 1) := ⟨_, rfl⟩
  obtain ⟨Q, hQ⟩ : ∃ Q, Q = b * (k + 1) := ⟨_, rfl⟩
  rw [← hP] at n1 ⊢
  rw [← hQ] at n2 ⊢
  obtain ⟨R, hR⟩ : ∃ R, R = P * (m + 1) := ⟨_, rfl⟩
  obtain ⟨S, hS⟩ : ∃ S, S = Q * (k + 1) := ⟨_, rfl⟩
  rw [← hR] at n1 ⊢
  rw [← hS] at n2 ⊢
  have q1 : IntKind.i64.wrap (a * (m + 1)) = P := by rw [← hP]; exact IntWalk.i64_in _ (by omega)
  have q2 : IntKind.i64.wrap (b * (k + 1)) = Q := by rw [← hQ]; exact IntWalk.i64_in _ (by omega)
  have q3 : IntKind.i64.wrap (P * (m + 1)) = R := by rw [← hR]; exact IntWalk.i64_in _ (by omega)
  have q4 : IntKind.i64.wrap (Q * (k + 1)) = S := by rw [← hS]; exact IntWalk.i64_in _ (by omega)
  clear hP hQ hR hS n1 n2
  go_enter Tryd.func132, Tryd.ntmps132
  go_wp2_with fail
  go_ret
  exact ⟨rfl, rfl⟩
end Go.Proofs.YtbllboajhdmnhaaDoor
