/- hornsame.Ints at two lists that are the same: it only reads. -/
import Derived.Test.YtlilommhdjdblaaDoorSound
import Derived.Test.YtlilommhdjdblaaDoorParts
import Derived.Deep.QuietTactic
namespace Go.Proofs.YtlilommhdjdblaaDoor
open Go.RowKit

theorem ints_quiet (A1 A2 : Option Addr) (n c1 c2 : Nat) (l : List Int) (w : World) (B1 B2 : Nat) (h1 : RdI w B1 A1 n l) (h2 : RdI w B2 A2 n l) (hn : n ≤ 100000000000000) :
    Calls Tryd.prog 10 #[.slice A1 n c1, .slice A2 n c2] w fun e w' => e = .returned (.bool true) ∧ ∃ q, w' = w.drewN q := by
  have H1 := Lib.hid h1
  have H2 := Lib.hid h2
  clear h1 h2
  go_enter Tryd.func10, Tryd.ntmps10
  go_wp2_with fail
  go_loopw [5] (fun i wr => ∃ k : Nat, k ≤ n ∧ i = .int .i64 k ∧ Hid (∃ d, wr = w.drewN d)) (fun i _ => n - (intOf i).toNat)
  case atStart => exact ⟨0, Nat.zero_le _, rfl, Lib.hid ⟨0, rfl⟩⟩
  case round =>
    obtain ⟨k, hk, rfl, HD⟩ := hrel
    have HA : Hid (RdI wr B1 A1 n l ∧ RdI wr B2 A2 n l) := Lib.hid (by obtain ⟨d, rfl⟩ := HD.out; exact ⟨H1.out.drewN d, H2.out.drewN d⟩)
    by_cases hlt : k < n
    · obtain ⟨b1, o1, rfl, _, d1⟩ := HA.out.1.at_ hlt
      obtain ⟨b2, o2, hA2, _, d2⟩ := HA.out.2.at_ hlt
      subst hA2
      obtain ⟨x, hx⟩ : ∃ x, x = l.getD k 0 := ⟨_, rfl⟩
      rw [← hx] at d1 d2
      have hq : (x != x) = false := by simp
      have hlt' : (k : Int) < (n : Int) := by omega
      clear hx
      go_wp2_with fail
      go_quiet (fail)
      go_wp2
      go_roundw
      case rel => exact ⟨k + 1, by omega, by go_num, Lib.hid (by obtain ⟨d, rfl⟩ := HD.out; exact ⟨d + nq, World.drewN_drewN _ _ _⟩)⟩
      case measure => simp [intOf]; omega
    · go_wp2
      go_ret
      exact ⟨rfl, HD.out⟩
end Go.Proofs.YtlilommhdjdblaaDoor
/- hornsame.Parts at two frames that are the same: it only reads. -/
namespace Go.Proofs.YtlilommhdjdblaaDoor
open Go.RowKit

theorem RdP.drewN {w : World} {B n : Nat} {A : Option Addr} {ps : List Ph.Part} (h : RdP w B A n ps) (q : Nat) : RdP (w.drewN q) B A n ps := h.below ⟨rfl, rfl, rfl, Nat.le_refl _, fun _ _ => rfl⟩
theorem parts_same (A1 A2 : Option Addr) (n c1 c2 : Nat) (ps : List Ph.Part) (w : World) (B1 B2 : Nat) (h1 : RdP w B1 A1 n ps) (h2 : RdP w B2 A2 n ps) (hn : n ≤ 100000000000000) (hp : ∀ p ∈ ps, p.pulses.length ≤ 100000000000000) :
    Calls Tryd.prog 20 #[.slice A1 n c1, .slice A2 n c2] w fun e w' => e = .returned (.bool true) ∧ ∃ q, w' = w.drewN q := by
  have H1 := Lib.hid h1
  have H2 := Lib.hid h2
  have HL := Lib.hid h1.len
  have HPB := Lib.hid hp
  clear h1 h2 hp
  go_enter Tryd.func20, Tryd.ntmps20
  go_wp2_with fail
  go_loopw [5] (fun i wr => ∃ k : Nat, k ≤ n ∧ i = .int .i64 k ∧ Hid (∃ d, wr = w.drewN d)) (fun i _ => n - (intOf i).toNat)
  case atStart => exact ⟨0, Nat.zero_le _, rfl, Lib.hid ⟨0, rfl⟩⟩
  case round =>
    obtain ⟨k, hk, rfl, HD⟩ := hrel
    have HA : Hid (RdP wr B1 A1 n ps ∧ RdP wr B2 A2 n ps) := Lib.hid (by obtain ⟨d, rfl⟩ := HD.out; exact ⟨H1.out.drewN d, H2.out.drewN d⟩)
    by_cases hlt : k < n
    · obtain ⟨b1, o1, A3, c3, rfl, _, d1, d2, _, r1⟩ := HA.out.1.at_ hlt
      obtain ⟨b2, o2, A4, c4, hA2, _, d3, d4, _, r2⟩ := HA.out.2.at_ hlt
      subst hA2
      have hpl := HPB.out _ (show ps.getD k ⟨0, []⟩ ∈ ps from by
        have hkl : k < ps.length := by rw [HL.out]; exact hlt
        rw [List.getD_eq_getElem?_getD, List.getElem?_eq_getElem hkl]; exact List.getElem_mem hkl)
      obtain ⟨p, hpe⟩ : ∃ p, p = ps.getD k ⟨0, []⟩ := ⟨_, rfl⟩
      rw [← hpe] at d1 d2 d3 d4 r1 r2 hpl
      obtain ⟨g, v⟩ := p
      simp only at d1 d2 d3 d4 r1 r2 hpl
      obtain ⟨P, hP⟩ : ∃ P, P = v.length := ⟨_, rfl⟩
      rw [← hP] at d2 d4 r1 r2 hpl
      have HIQ := Lib.hid fun q => ints_quiet A3 A4 P c3 c4 v (wr.drewN q) _ _ (r1.drewN q) (r2.drewN q) hpl
      have hq : (g != g) = false := by simp
      have hlt' : (k : Int) < (n : Int) := by omega
      clear hpe hP r1 r2 hpl
      go_wp2_with fail
      go_quiet ((go_at_call 10; exact Calls.quiet_of (HIQ.out _)))
      go_wp2
      go_roundw
      case rel => exact ⟨k + 1, by omega, by go_num, Lib.hid (by obtain ⟨d, rfl⟩ := HD.out; exact ⟨d + nq, World.drewN_drewN _ _ _⟩)⟩
      case measure => simp [intOf]; omega
    · go_wp2
      go_ret
      exact ⟨rfl, HD.out⟩
end Go.Proofs.YtlilommhdjdblaaDoor
