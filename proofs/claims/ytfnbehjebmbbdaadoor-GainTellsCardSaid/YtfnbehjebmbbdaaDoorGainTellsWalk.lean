/- The walk of the law GainTells. -/
import Derived.Test.YtfnbehjebmbbdaaDoorRefGain
import Derived.Test.YtfnbehjebmbbdaaDoorTold
import Derived.Test.YtfnbehjebmbbdaaDoorOpen
import Derived.Deep.DeepCutAuto
import Derived.Deep.Cut
namespace Go.Proofs.YtfnbehjebmbbdaaDoor
open Go.RowKit

def gErr (n : Int) : Int := if 0 ≤ n ∧ n ≤ 8000 then 0 else 1
def gVal (n : Int) : Int := if 0 ≤ n ∧ n ≤ 8000 then (Ph.step n.toNat : Nat) else 0
theorem index_told (n : Int) (w : World) : Calls Tryd.prog 36 #[.int .i64 n] w fun e w' => e = .returned (.tuple #[.int .i64 (gVal n), errV (gErr n)]) ∧ w = w' := by
  unfold gVal gErr
  by_cases h : 0 ≤ n ∧ n ≤ 8000
  · rw [if_pos h, if_pos h]
    obtain ⟨n, rfl⟩ := Int.eq_ofNat_of_zero_le h.1
    exact index_ok n w (by omega)
  · rw [if_neg h, if_neg h]; exact index_no n w (by omega)
def vErr (g : Int) : Int := if valB g = true then 0 else 1
theorem value_told (g : Int) (w : World) : Calls Tryd.prog 38 #[.int .i64 g] w fun e w' => e = .returned (.tuple #[.int .i64 (valV g), errV (vErr g)]) ∧ Below w.heap.size w w' := by
  by_cases h : 0 ≤ g ∧ g ≤ 53
  · obtain ⟨g, rfl⟩ := Int.eq_ofNat_of_zero_le h.1
    have hb : valB g = Ph.valued g := by unfold valB; rw [Int.toNat_natCast]; simp; omega
    unfold vErr valV
    rw [hb, Int.toNat_natCast]
    cases hv : Ph.valued g
    · refine (value_no g w (by omega) hv).mono ?_
      rintro e w' ⟨rfl, q, rfl⟩
      exact ⟨rfl, below_drewN' (Below.refl _ _) _⟩
    · refine (value_ok g w hv).mono ?_
      rintro e w' ⟨rfl, q, rfl⟩
      exact ⟨rfl, below_drewN' (Below.refl _ _) _⟩
  · have hb : valB g = false := by unfold valB; simp; omega
    unfold vErr valV
    rw [hb]
    refine (value_no0 g w (by omega)).mono ?_
    rintro e w' ⟨rfl, rfl⟩
    exact ⟨rfl, Below.refl _ _⟩
theorem rvalue_told (g : Int) (w : World) : Calls Tryd.prog 37 #[.int .i64 g] w fun e w' => e = .returned (.tuple #[.int .i64 (valV g), .bool (valB g)]) ∧ w = w' := by
  by_cases h : 0 ≤ g ∧ g ≤ 53
  · obtain ⟨g, rfl⟩ := Int.eq_ofNat_of_zero_le h.1
    exact rvalue_in g w (by omega)
  · exact rvalue_no g w (by omega)
set_option maxHeartbeats 2000000 in
set_option maxRecDepth 100000 in
theorem gainTells_walk (w : World) (n g : Int) (hg : Laid w) :
    Calls Tryd.prog 9 #[.int .i64 n, .int .i64 g] w fun e w' => e = .returned (.bool true) ∧ Below w.heap.size w w' := by
  have HG := Lib.hid hg
  have HE1 : Hid (-100 ≤ gErr n ∧ gErr n ≤ 100) := Lib.hid (by unfold gErr; split <;> omega)
  have HE2 : Hid (-100 ≤ vErr g ∧ vErr g ≤ 100) := Lib.hid (by unfold vErr; split <;> omega)
  clear hg
  go_enter Tryd.func9, Tryd.ntmps9
  go_upto_region 3 with (fail)
  go_cut [19] (fun s19 wx => ∃ B : Bool, s19 = .bool B ∧ Hid ((B = false ↔ 0 ≤ n ∧ n ≤ 8000) ∧ Below w.heap.size w wx))
  case first =>
    rcases (show n < 0 ∨ (¬ n < 0 ∧ 8000 < n) ∨ (¬ n < 0 ∧ ¬ 8000 < n) by omega) with h1 | ⟨h1, h2⟩ | ⟨h1, h2⟩
    · go_wp2_with fail
      go_meet
      case rel => exact ⟨true, rfl, Lib.hid ⟨⟨fun h => (by cases h), fun h => absurd h.1 (by omega)⟩, Below.refl _ _⟩⟩
    · go_wp2_with fail
      go_meet
      case rel => exact ⟨true, rfl, Lib.hid ⟨⟨fun h => (by cases h), fun h => absurd h.2 (by omega)⟩, Below.refl _ _⟩⟩
    · go_wp2_with fail
      go_meet
      case rel => exact ⟨false, rfl, Lib.hid ⟨⟨fun _ => by omega, fun _ => rfl⟩, Below.refl _ _⟩⟩
  case rest =>
    obtain ⟨B, rfl, HB⟩ := hcut
    rename World => wc
    go_upto_if 19 with (fail)
    go_cut [5, 6] (fun s5 s6 wx => s5 = .int .i64 (gErr n) ∧ s6 = .int .i64 (gVal n) ∧ Hid (Below w.heap.size w wx))
    case first =>
      cases B
      · have hin := HB.out.1.1 rfl
        obtain ⟨N, hN⟩ : ∃ N : Nat, n = N := ⟨n.toNat, by omega⟩
        have HN := Lib.hid hN
        have HI := Lib.hid hin
        have HR : Hid (∀ W, Calls Tryd.prog 35 #[.int .i64 n] W fun e w' => e = .returned (.int .i64 (gVal n)) ∧ W = w') := Lib.hid fun W => by
          have := rgain_any N W (by omega)
          unfold gVal
          rw [if_pos hin]
          rw [hN, Int.toNat_natCast]
          exact this
        clear hin hN
        go_wp2_with fail
        refine (HR.out _).mono ?_
        rintro e w1 ⟨rfl, rfl⟩
        go_wp2_with fail
        go_meet
        case rel => exact ⟨by unfold gErr; rw [if_pos HI.out], rfl, Lib.hid HB.out.2⟩
      · have hin : ¬ (0 ≤ n ∧ n ≤ 8000) := fun h => by have := HB.out.1.2 h; cases this
        have HI := Lib.hid hin
        clear hin
        go_wp2_with fail
        go_meet
        case rel => exact ⟨by unfold gErr; rw [if_neg HI.out], by unfold gVal; rw [if_neg HI.out], Lib.hid HB.out.2⟩
    case rest =>
      obtain ⟨rfl, rfl, HB1⟩ := hcut
      clear HB
      rename World => w1
      go_wp2_with fail
      refine (index_told n _).mono ?_
      rintro e w2 ⟨rfl, rfl⟩
      go_wp2_with fail
      refine (herr_yes (gErr n) _ (HG.out.below HB1.out) HE1.out).mono ?_
      rintro e w2 ⟨rfl, hb2⟩
      have HB2 := Lib.hid (below_on HB1.out hb2)
      clear hb2 HB1
      go_wp2_with fail
      refine (rvalue_told g _).mono ?_
      rintro e w3 ⟨rfl, rfl⟩
      go_upto_if 41 with (fail)
      go_cut [5, 11] (fun s5 _ wx => s5 = .int .i64 (vErr g) ∧ Hid (Below w.heap.size w wx))
      case first =>
        cases hv : valB g
        · have hve : vErr g = 1 := by unfold vErr; rw [hv]; rfl
          have HVE := Lib.hid hve
          clear hve hv
          go_wp2_with fail
          go_meet
          case rel => exact ⟨by rw [HVE.out], HB2⟩
        · have hve : vErr g = 0 := by unfold vErr; rw [hv]; rfl
          have HVE := Lib.hid hve
          clear hve hv
          go_wp2_with fail
          go_meet
          case rel => exact ⟨by rw [HVE.out], HB2⟩
      case rest =>
        obtain ⟨rfl, HB3⟩ := hcut
        clear HB2
        rename World => w4
        go_wp2_with fail
        refine (value_told g _).mono ?_
        rintro e w5 ⟨rfl, hb5⟩
        have HB5 := Lib.hid (below_on HB3.out hb5)
        clear hb5 HB3
        go_wp2_with fail
        refine (herr_yes (vErr g) _ (HG.out.below HB5.out) HE2.out).mono ?_
        rintro e w6 ⟨rfl, hb6⟩
        have HB6 := Lib.hid (below_on HB5.out hb6)
        clear hb6 HB5
        go_wp2_with fail
        go_ret
        exact ⟨ret_true (by simp), HB6.out⟩
end Go.Proofs.YtfnbehjebmbbdaaDoor
