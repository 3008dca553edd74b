/- The walk of the law HideFirst. -/
import Derived.Test.YtapjnfhbjmeniaaLose
import Derived.Test.YtapjnfhbjmeniaaOpen
namespace Go.Proofs.Ytapjnfhbjmeniaa
open Go.RowKit

set_option maxHeartbeats 4000000 in
set_option maxRecDepth 1000000 in
theorem hideFirst_walk (w : World) (A0 : Option Addr) (n0 c0 : Nat) (s : List Int) (h0 : RdI w w.heap.size A0 n0 s) (hb0 : n0 ≤ c0 ∧ c0 ≤ 17592186044415) (_ : ∀ x ∈ s, Is64 x) (bits many : Int) :
    Calls Try.prog 5 #[.slice A0 n0 c0, .int .i64 bits, .int .i64 many] w fun e w' => e = .returned (.bool true) ∧ Below w.heap.size w w' := by
  have hn0 : n0 ≤ 100000000000000 := by omega
  by_cases hE : newErr s bits = 0
  · have hz := newErr_zero.1 hE
    have hb8 := Ph.bandErr_zero.1 hz.1
    have HNEW := Lib.hid (hnew_ok A0 n0 c0 s bits w w.heap.size h0 (Nat.le_refl _) hE)
    have HBC := Lib.hid fun W (hW : RdI W w.heap.size A0 n0 s) => bandCheck_ok A0 n0 c0 s W w.heap.size hW hz.1
    have H0 := Lib.hid h0
    have htp : 0 ≤ Ph.total s := Ph.total_nonneg fun x hx => by have := hb8.2.2.1 x hx; omega
    have htl : Ph.total s ≤ 32 := hb8.2.2.2
    obtain ⟨T, hT⟩ := Int.eq_ofNat_of_zero_le htp
    rw [hT] at HNEW HBC htl
    have hT32 : T ≤ 32 := by omega
    have HMK := make_ints T (by omega)
    clear h0 hE hz hb8 htp hT htl
    go_enter Try.func5, Try.ntmps5
    go_wp2_with fail
    refine HNEW.out.mono ?_
    rintro e w1 ⟨X, As, cs, rfl, hp, hb⟩
    have HP1 := Lib.hid hp
    have HB1 := Lib.hid hb
    clear hp hb
    go_wp2_with fail
    refine (HBC.out _ (H0.out.below HB1.out)).mono ?_
    rintro e w' ⟨rfl, rfl⟩
    go_wp2_with fail
    go_loopw [11, 12] (fun i _ wr => ∃ k : Nat, k ≤ 29 ∧ i = .int .i64 ((k : Int) + 1) ∧ Hid (PlayerAt wr w.heap.size X As n0 cs s bits T none 0 0 [] k) ∧ Hid (Below w.heap.size w wr)) (fun i _ _ => 30 - (intOf i).toNat)
    case atStart => exact ⟨0, by omega, rfl, HP1, HB1⟩
    case round =>
      obtain ⟨k, hk, rfl, HP, HBW⟩ := hrel
      have HLO := Lib.hid (lose_any wr w.heap.size X As n0 cs s bits T none 0 0 [] k HP.out HBW.out.size (by simp) (by omega) ⟨by omega, by omega⟩ ⟨by omega, by omega⟩)
      have HLT := Lib.hid fun W hW => lost_any W w.heap.size X As n0 cs s bits T none 0 0 [] ((k : Int) + 1) hW
      rw [heard_none, Int.toNat_natCast] at HLO
      by_cases hc1 : (k : Int) + 1 ≤ many
      · by_cases hc2 : k < 29
        · have hc3 : (k : Int) + 1 < 30 := by omega
          go_wp2_with fail
          refine HLO.out.mono ?_
          rintro e w3 ⟨A3, n3, c3, rfl, hn3, hr, hp, hkb⟩
          have HR3 := Lib.hid hr
          have HP3 := Lib.hid hp
          have HB3 : Hid (Below w.heap.size w w3) := Lib.hid (HBW.out.trans (hkb.below HBW.out.size (fun q hq => by
            rcases hq with rfl | hq
            · exact HP.out.1
            · simp [Value.ownBlock] at hq)))
          clear hr hp hkb HLO
          obtain ⟨W4, hW4⟩ : ∃ W4, W4 = w3.alloc (.cells (madeCells #[.int .i64 0] T) 3) := ⟨_, rfl⟩
          have hbe : Below w3.heap.size w3 W4 := by rw [hW4]; exact below_alloc0 _ _
          have HR4 := Lib.hid (HR3.out.on hbe)
          have HP4 := Lib.hid (HP3.out.below' hbe)
          have HB4 := Lib.hid (below_on HB3.out hbe)
          have HZ4 : Hid (RdI W4 W4.heap.size (some ⟨w3.heap.size, 0, none⟩) T (List.replicate T 0)) := Lib.hid (by rw [hW4]; exact RdI.own (made_own w3 T (by omega)))
          have HIN := Lib.hid (ints_any A3 (some ⟨w3.heap.size, 0, none⟩) n3 c3 T T _ _ W4 _ _ HR4.out HZ4.out (Nat.le_refl _) (Nat.le_refl _) (by omega))
          rw [sameI_true.2 rfl] at HIN
          have HW4 := Lib.hid hW4
          clear hbe hW4
          go_wp2_with fail
          rw [← HW4.out]
          refine HIN.out.mono ?_
          rintro e w5 ⟨rfl, hb⟩
          have HP5 := Lib.hid (HP4.out.below' hb)
          have HB5 := Lib.hid (below_on HB4.out hb)
          have hne : (((k : Int) + 1) != ((k : Int) + 1)) = false := by simp
          clear hb HW4 HIN HR4 HZ4 HP4 HB4
          go_wp2_with fail
          refine (HLT.out _ HP5.out).mono ?_
          rintro e w6 ⟨rfl, rfl⟩
          go_wp2_with fail
          go_roundw
          case rel => exact ⟨k + 1, by omega, by go_num, Lib.hid (by have := HP5.out; exact_mod_cast this), HB5⟩
          case measure => simp [intOf]; omega
        · obtain rfl : k = 29 := by omega
          clear HLO HLT
          go_wp2_with fail
          go_ret
          exact ⟨ret_true (by simp), HBW.out⟩
      · clear HLO HLT
        go_wp2_with fail
        go_ret
        exact ⟨ret_true (by simp), HBW.out⟩
  · have HNEW := Lib.hid (hnew_no A0 n0 c0 s bits w w.heap.size h0 hn0 hE)
    have H0 := Lib.hid h0
    obtain ⟨E, hEE⟩ : ∃ E, E = newErr s bits := ⟨_, rfl⟩
    have hEd : E = if Ph.bandErr s ≠ 0 then Ph.bandErr s else if bits < 0 ∨ 400 < bits then 1 else if Ph.total s % 2 ≠ 0 then 3 else 0 := hEE
    rw [← hEE] at HNEW hE
    rw [errV_ne hE] at HNEW
    by_cases hb : Ph.bandErr s = 0
    · have HBC := Lib.hid (bandCheck_ok A0 n0 c0 s w w.heap.size h0 hb)
      rw [if_neg (by omega)] at hEd
      have htp : 0 ≤ Ph.total s := Ph.total_nonneg fun x hx => by have := (Ph.bandErr_zero.1 hb).2.2.1 x hx; omega
      obtain ⟨T, hT⟩ : ∃ T, T = Ph.total s := ⟨_, rfl⟩
      rw [← hT] at HBC hEd htp
      have k1 : T.tmod 2 = T % 2 := Int.tmod_eq_emod_of_nonneg htp
      clear hEE h0 hb hT htp
      by_cases ht : T % 2 = 0
      · have k2 : (T % 2 != 0) = false := by simp; omega
        have hbi : bits < 0 ∨ (¬ bits < 0 ∧ 400 < bits) := by
          by_cases h1 : bits < 0 ∨ 400 < bits
          · omega
          · rw [if_neg h1, if_neg (by omega)] at hEd
            exact absurd hEd hE
        clear hEd ht hE
        rcases hbi with q1 | ⟨q1, q2⟩
        all_goals
          go_enter Try.func5, Try.ntmps5
          go_wp2_with fail
          refine HNEW.out.mono ?_
          rintro e w1 ⟨rfl, rfl⟩
          go_wp2_with fail
          refine HBC.out.mono ?_
          rintro e w' ⟨rfl, rfl⟩
          go_wp2_with fail
          go_ret
          exact ⟨ret_true (by simp), Below.refl _ _⟩
      · have k2 : (T % 2 != 0) = true := by simp; omega
        clear hEd ht hE
        go_enter Try.func5, Try.ntmps5
        go_wp2_with fail
        refine HNEW.out.mono ?_
        rintro e w1 ⟨rfl, rfl⟩
        go_wp2_with fail
        refine HBC.out.mono ?_
        rintro e w' ⟨rfl, rfl⟩
        go_wp2_with fail
        go_ret
        exact ⟨ret_true (by simp), Below.refl _ _⟩
    · have HBC := Lib.hid (bandCheck_no A0 n0 c0 s w w.heap.size h0 hn0 hb)
      rw [errV_ne hb] at HBC
      obtain ⟨E2, hE2⟩ : ∃ E, E = Ph.bandErr s := ⟨_, rfl⟩
      rw [← hE2] at HBC
      clear hEd hEE h0 hb hE2 hE
      go_enter Try.func5, Try.ntmps5
      go_wp2_with fail
      refine HNEW.out.mono ?_
      rintro e w1 ⟨rfl, rfl⟩
      go_wp2_with fail
      refine HBC.out.mono ?_
      rintro e w' ⟨rfl, rfl⟩
      go_wp2_with fail
      go_ret
      exact ⟨ret_true (by simp), Below.refl _ _⟩
end Go.Proofs.Ytapjnfhbjmeniaa
