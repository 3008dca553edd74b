/- hornsame.Ints at two lists that are the same: it only reads. -/
import Derived.Test.YtmohilfebgahoaaGreatDoorSound
import Derived.Test.YtmohilfebgahoaaGreatDoorParts
import Derived.Deep.QuietTactic
namespace Go.Proofs.YtmohilfebgahoaaGreatDoor
open Go.RowKit

theorem ints_quiet (A1 A2 : Option Addr) (n c1 c2 : Nat) (l : List Int) (w : World) (B1 B2 : Nat) (h1 : RdI w B1 A1 n l) (h2 : RdI w B2 A2 n l) (hn : n ≤ 100000000000000) :
    Calls Tryz.prog 25 #[.slice A1 n c1, .slice A2 n c2] w fun e w' => e = .returned (.bool true) ∧ ∃ q, w' = w.drewN q := by
  have H1 := Lib.hid h1
  have H2 := Lib.hid h2
  clear h1 h2
  go_enter Tryz.func25, Tryz.ntmps25
  go_wp2_with fail
  go_loopw [5] (fun i wr => ∃ k : Nat, k ≤ n ∧ i = .int .i64 k ∧ Hid (∃ d, wr = w.drewN d)) (fun i _ => n - (intOf i).toNat)
  case atStart => exact ⟨0, Nat.zero_le _, rfl, Lib.hid ⟨0, rfl⟩⟩
  case round =>
    obtain ⟨k, hk, rfl, HD⟩ := hrel
    have HA : Hid (RdI wr B1 A1 n l ∧ RdI wr B2 A2 n l) := Lib.hid (by obtain ⟨d, rfl⟩ := HD.out; exact ⟨H1.out.drewN d, H2.out.drewN d⟩)
    by_cases hlt : k < n
    · obtain ⟨b1, o1, rfl, _, d1⟩ := HA.out.1.at_ hlt
      obtain ⟨b2, o2, hA2, _, d2⟩ := HA.out.2.at_ hlt
      subst hA2
      obtain ⟨x, hx⟩ : ∃ x, x = l.getD k 0 := ⟨_, rfl⟩
      rw [← hx] at d1 d2
      have hq : (x != x) = false := by simp
      have hlt' : (k : Int) < (n : Int) := by omega
      clear hx
      go_wp2_with fail
      go_quiet (fail)
      go_wp2
      go_roundw
      case rel => exact ⟨k + 1, by omega, by go_num, Lib.hid (by obtain ⟨d, rfl⟩ := HD.out; exact ⟨d + nq, World.drewN_drewN _ _ _⟩)⟩
      case measure => simp [intOf]; omega
    · go_wp2
      go_ret
      exact ⟨rfl, HD.out⟩
end Go.Proofs.YtmohilfebgahoaaGreatDoor
/- hornsame.Parts at two frames that are the same: it only reads. -/
namespace Go.Proofs.YtmohilfebgahoaaGreatDoor
open Go.RowKit

theorem RdP.drewN {w : World} {B n : Nat} {A : Option Addr} {ps : List Ph.Part} (h : RdP w B A n ps) (q : Nat) : RdP (w.drewN q) B A n ps := h.below ⟨rfl, rfl, rfl, Nat.le_refl _, fun _ _ => rfl⟩
end Go.Proofs.YtmohilfebgahoaaGreatDoor
