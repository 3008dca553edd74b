/- The walk of the law LapTells. -/
import Derived.Test.YtfnbehjebmbbdaaDoorTold
import Derived.Test.YtfnbehjebmbbdaaDoorRefUnlap
import Derived.Test.YtfnbehjebmbbdaaDoorOpen
namespace Go.Proofs.YtfnbehjebmbbdaaDoor
open Go.RowKit

set_option maxRecDepth 100000 in
set_option maxHeartbeats 4000000 in
theorem lapTells_walk (w : World) (A : Option Addr) (n c : Nat) (l : List Int) (h : RdI w w.heap.size A n l) (hb : n ≤ c ∧ c ≤ 17592186044415) (_ : ∀ x ∈ l, Is64 x) (hg : Laid w) :
    Calls Tryd.prog 11 #[.slice A n c] w fun e w' => e = .returned (.bool true) ∧ Below w.heap.size w w' := by
  have HG := Lib.hid hg
  have HL := Lib.hid h.len
  have H := Lib.hid h
  have hnc := hb.1
  have hn := hb.2
  have HA1 := Lib.hid fun W hW => rall_any A n c l 1000 W w.heap.size hW (by omega) (by omega)
  have HA4 := Lib.hid fun W hW => rall_any A n c l 4000 W w.heap.size hW (by omega) (by omega)
  have HR := Lib.hid fun W hW hBW h0 => rlap_any A n c l W w.heap.size hW hBW h0
  have HU := Lib.hid fun W hW hBW h0 => runlap_any A n c l W w.heap.size hW hBW h0
  have HF := Lib.hid fun W hW hBW h0 => lapF_ok A n c l W w.heap.size hW hBW h0
  have HFN := Lib.hid fun W hW hBW h0 => lapF_no A n c l W w.heap.size hW hBW (by omega) h0
  have HI := Lib.hid fun W hW hBW h0 => lapI_ok A n c l W w.heap.size hW hBW hnc h0
  have HIN := Lib.hid fun W hW hBW h0 => lapI_no A n c l W w.heap.size hW hBW (by omega) h0
  have hlF : Hid (n % 2 = 0 → (Ph.lapF l).length = n) := Lib.hid fun h2 => by rw [Ph.lapF_length l (by rw [HL.out]; exact h2), HL.out]
  have hlI : Hid (n % 2 = 0 → (Ph.lapI l).length = n) := Lib.hid fun h2 => by rw [Ph.lapI_length l, HL.out]; omega
  have hE1 : Hid (Ph.lapErr l 1000 = if 32 < n then 4 else if n % 2 ≠ 0 then 3 else if Ph.allIn l 1000 = true then 0 else 1) := Lib.hid (by unfold Ph.lapErr; rw [HL.out])
  have hE4 : Hid (Ph.lapErr l 4000 = if 32 < n then 4 else if n % 2 ≠ 0 then 3 else if Ph.allIn l 4000 = true then 0 else 1) := Lib.hid (by unfold Ph.lapErr; rw [HL.out])
  have h14 : Hid (Ph.allIn l 1000 = true → Ph.allIn l 4000 = true) := Lib.hid fun h1 => Ph.allIn_mono h1 (by omega)
  obtain ⟨E, hE⟩ : ∃ E, E = Ph.lapErr l 1000 := ⟨_, rfl⟩
  obtain ⟨F, hF⟩ : ∃ F, F = Ph.lapErr l 4000 := ⟨_, rfl⟩
  obtain ⟨a1, ha1⟩ : ∃ a, a = Ph.allIn l 1000 := ⟨_, rfl⟩
  obtain ⟨a4, ha4⟩ : ∃ a, a = Ph.allIn l 4000 := ⟨_, rfl⟩
  rw [← hE] at HR HF HFN hE1
  rw [← hF] at HU HI HIN hE4
  rw [← ha1] at HA1 hE1 h14
  rw [← ha4] at HA4 hE4 h14
  clear h hb hg hE hF ha1 ha4
  by_cases hbig : 32 < n
  · have e1 := hE1.out
    have e4 := hE4.out
    rw [if_pos hbig] at e1 e4
    subst e1
    subst e4
    clear hE1 hE4
    have HE4 := Lib.hid fun W (hW : Laid W) => herr_yes 4 W hW (by omega)
    have hv4 : errV 4 = .iface 72 (.int .i64 4) := errV_ne (by omega)
    rw [hv4] at HE4
    clear hv4
    cases a1 <;> cases a4
    all_goals
      go_enter Tryd.func11, Tryd.ntmps11
      go_wp2_with fail
      refine (HA1.out _ H.out).mono ?_
      rintro e wk ⟨rfl, rfl⟩
      go_wp2_with fail
      refine (HFN.out _ H.out (Nat.le_refl _) (by omega)).mono ?_
      rintro e w1 ⟨rfl, hb1⟩
      have HB1 := Lib.hid hb1
      clear hb1
      rw [errV_ne (by omega)]
      go_wp2_with fail
      refine (HE4.out _ (HG.out.below HB1.out)).mono ?_
      rintro e w2 ⟨rfl, hb2⟩
      have HB2 := Lib.hid (below_on HB1.out hb2)
      clear hb2
      go_wp2_with fail
      refine (ints_any none none 0 0 0 0 [] [] _ 0 0 RdI.nil RdI.nil (Nat.zero_le _) (Nat.zero_le _) (by omega)).mono ?_
      rintro e w3 ⟨rfl, hb3⟩
      have HB3 := Lib.hid (below_on HB2.out hb3)
      clear hb3
      rw [sameI_true.2 (rfl : ([] : List Int) = [])]
      go_wp2_with fail
      refine (HA4.out _ (H.out.below HB3.out)).mono ?_
      rintro e wk ⟨rfl, rfl⟩
      go_wp2_with fail
      refine (HIN.out _ (H.out.below HB3.out) HB3.out.size (by omega)).mono ?_
      rintro e w5 ⟨rfl, hb5⟩
      have HB5 := Lib.hid (below_on HB3.out hb5)
      clear hb5
      rw [errV_ne (by omega)]
      go_wp2_with fail
      refine (HE4.out _ (HG.out.below HB5.out)).mono ?_
      rintro e w6 ⟨rfl, hb6⟩
      have HB6 := Lib.hid (below_on HB5.out hb6)
      clear hb6
      go_wp2_with fail
      refine (ints_any none none 0 0 0 0 [] [] _ 0 0 RdI.nil RdI.nil (Nat.zero_le _) (Nat.zero_le _) (by omega)).mono ?_
      rintro e w7 ⟨rfl, hb7⟩
      have HB7 := Lib.hid (below_on HB6.out hb7)
      clear hb7
      rw [sameI_true.2 (rfl : ([] : List Int) = [])]
      go_wp2_with fail
      go_ret
      exact ⟨ret_true (by simp), HB7.out⟩
  · by_cases hp : n % 2 = 0
    · have e1 := hE1.out
      have e4 := hE4.out
      rw [if_neg hbig, if_neg (by omega)] at e1 e4
      have hb3 : ((n : Int) % 2 != 0) = false := by simp; omega
      cases a1 with
      | true =>
        have h4 := h14.out rfl
        subst h4
        rw [if_pos rfl] at e1 e4
        subst e1
        subst e4
        clear hE1 hE4 h14
        have HE0 := Lib.hid fun W (hW : Laid W) => herr_yes 0 W hW (by omega)
        have hv0 : errV 0 = .nilIface := rfl
        rw [hv0] at HE0
        clear hv0
        go_enter Tryd.func11, Tryd.ntmps11
        go_wp2_with fail
        refine (HA1.out _ H.out).mono ?_
        rintro e wk ⟨rfl, rfl⟩
        go_wp2_with fail
        refine (HR.out _ H.out (Nat.le_refl _) (by simp)).mono ?_
        rintro e w1 ⟨A1, c1, rfl, hr1, hb1⟩
        have HR1 := Lib.hid hr1
        clear hr1
        have HB1 := Lib.hid hb1
        clear hb1
        go_wp2_with fail
        refine (HF.out _ (H.out.below HB1.out) HB1.out.size (by simp)).mono ?_
        rintro e w2 ⟨A2, c2, rfl, ho2, hb2⟩
        have HO2 := Lib.hid ho2
        have HR2 := Lib.hid (HR1.out.on hb2)
        clear ho2 HR1
        have HB2 := Lib.hid (below_on HB1.out hb2)
        clear hb2
        rw [hlF.out hp] at HO2 ⊢
        go_wp2_with fail
        refine (HE0.out _ (HG.out.below HB2.out)).mono ?_
        rintro e w3 ⟨rfl, hb3⟩
        have HO3 := Lib.hid (own_below' HO2.out hb3)
        have HR3 := Lib.hid (HR2.out.on hb3)
        clear HO2 HR2
        have HB3 := Lib.hid (below_on HB2.out hb3)
        clear hb3
        go_wp2_with fail
        refine (ints_any A2 A1 n c2 n c1 (Ph.lapF l) (Ph.lapF l) _ _ _ (RdI.own HO3.out) HR3.out (Nat.le_refl _) (Nat.le_refl _) (by omega)).mono ?_
        rintro e w4 ⟨rfl, hb4⟩
        have HB4 := Lib.hid (below_on HB3.out hb4)
        clear hb4
        rw [sameI_true.2 (rfl : Ph.lapF l = Ph.lapF l)]
        clear HO3 HR3
        go_wp2_with fail
        refine (HA4.out _ (H.out.below HB4.out)).mono ?_
        rintro e wk ⟨rfl, rfl⟩
        go_wp2_with fail
        refine (HU.out _ (H.out.below HB4.out) HB4.out.size (by simp)).mono ?_
        rintro e w5 ⟨A5, c5, rfl, hr5, hb5⟩
        have HR5 := Lib.hid hr5
        clear hr5
        have HB5 := Lib.hid (below_on HB4.out hb5)
        clear hb5
        go_wp2_with fail
        refine (HI.out _ (H.out.below HB5.out) HB5.out.size (by simp)).mono ?_
        rintro e w6 ⟨A6, c6, rfl, ho6, hb6⟩
        have HO6 := Lib.hid ho6
        have HR6 := Lib.hid (HR5.out.on hb6)
        clear ho6 HR5
        have HB6 := Lib.hid (below_on HB5.out hb6)
        clear hb6
        rw [hlI.out hp] at HO6 ⊢
        go_wp2_with fail
        refine (HE0.out _ (HG.out.below HB6.out)).mono ?_
        rintro e w7 ⟨rfl, hb7⟩
        have HO7 := Lib.hid (own_below' HO6.out hb7)
        have HR7 := Lib.hid (HR6.out.on hb7)
        clear HO6 HR6
        have HB7 := Lib.hid (below_on HB6.out hb7)
        clear hb7
        go_wp2_with fail
        refine (ints_any A6 A5 n c6 n c5 (Ph.lapI l) (Ph.lapI l) _ _ _ (RdI.own HO7.out) HR7.out (Nat.le_refl _) (Nat.le_refl _) (by omega)).mono ?_
        rintro e w8 ⟨rfl, hb8⟩
        have HB8 := Lib.hid (below_on HB7.out hb8)
        clear hb8
        rw [sameI_true.2 (rfl : Ph.lapI l = Ph.lapI l)]
        go_wp2_with fail
        go_ret
        exact ⟨ret_true (by simp), HB8.out⟩
      | false =>
        rw [if_neg (by simp)] at e1
        subst e1
        cases a4 with
        | true =>
          rw [if_pos rfl] at e4
          subst e4
          clear hE1 hE4 h14
          have HE0 := Lib.hid fun W (hW : Laid W) => herr_yes 0 W hW (by omega)
          have hv0 : errV 0 = .nilIface := rfl
          rw [hv0] at HE0
          clear hv0
          have HE1 := Lib.hid fun W (hW : Laid W) => herr_yes 1 W hW (by omega)
          have hv1 : errV 1 = .iface 72 (.int .i64 1) := errV_ne (by omega)
          rw [hv1] at HE1
          clear hv1
          go_enter Tryd.func11, Tryd.ntmps11
          go_wp2_with fail
          refine (HA1.out _ H.out).mono ?_
          rintro e wk ⟨rfl, rfl⟩
          go_wp2_with fail
          refine (HFN.out _ H.out (Nat.le_refl _) (by omega)).mono ?_
          rintro e w1 ⟨rfl, hb1⟩
          have HB1 := Lib.hid hb1
          clear hb1
          rw [errV_ne (by omega)]
          go_wp2_with fail
          refine (HE1.out _ (HG.out.below HB1.out)).mono ?_
          rintro e w2 ⟨rfl, hb2⟩
          have HB2 := Lib.hid (below_on HB1.out hb2)
          clear hb2
          go_wp2_with fail
          refine (ints_any none none 0 0 0 0 [] [] _ 0 0 RdI.nil RdI.nil (Nat.zero_le _) (Nat.zero_le _) (by omega)).mono ?_
          rintro e w3 ⟨rfl, hb3⟩
          have HB3 := Lib.hid (below_on HB2.out hb3)
          clear hb3
          rw [sameI_true.2 (rfl : ([] : List Int) = [])]
          go_wp2_with fail
          refine (HA4.out _ (H.out.below HB3.out)).mono ?_
          rintro e wk ⟨rfl, rfl⟩
          go_wp2_with fail
          refine (HU.out _ (H.out.below HB3.out) HB3.out.size (by simp)).mono ?_
          rintro e w5 ⟨A5, c5, rfl, hr5, hb5⟩
          have HR5 := Lib.hid hr5
          clear hr5
          have HB5 := Lib.hid (below_on HB3.out hb5)
          clear hb5
          go_wp2_with fail
          refine (HI.out _ (H.out.below HB5.out) HB5.out.size (by simp)).mono ?_
          rintro e w6 ⟨A6, c6, rfl, ho6, hb6⟩
          have HO6 := Lib.hid ho6
          have HR6 := Lib.hid (HR5.out.on hb6)
          clear ho6 HR5
          have HB6 := Lib.hid (below_on HB5.out hb6)
          clear hb6
          rw [hlI.out hp] at HO6 ⊢
          go_wp2_with fail
          refine (HE0.out _ (HG.out.below HB6.out)).mono ?_
          rintro e w7 ⟨rfl, hb7⟩
          have HO7 := Lib.hid (own_below' HO6.out hb7)
          have HR7 := Lib.hid (HR6.out.on hb7)
          clear HO6 HR6
          have HB7 := Lib.hid (below_on HB6.out hb7)
          clear hb7
          go_wp2_with fail
          refine (ints_any A6 A5 n c6 n c5 (Ph.lapI l) (Ph.lapI l) _ _ _ (RdI.own HO7.out) HR7.out (Nat.le_refl _) (Nat.le_refl _) (by omega)).mono ?_
          rintro e w8 ⟨rfl, hb8⟩
          have HB8 := Lib.hid (below_on HB7.out hb8)
          clear hb8
          rw [sameI_true.2 (rfl : Ph.lapI l = Ph.lapI l)]
          go_wp2_with fail
          go_ret
          exact ⟨ret_true (by simp), HB8.out⟩
        | false =>
          rw [if_neg (by simp)] at e4
          subst e4
          clear hE1 hE4 h14
          have HE1 := Lib.hid fun W (hW : Laid W) => herr_yes 1 W hW (by omega)
          have hv1 : errV 1 = .iface 72 (.int .i64 1) := errV_ne (by omega)
          rw [hv1] at HE1
          clear hv1
          go_enter Tryd.func11, Tryd.ntmps11
          go_wp2_with fail
          refine (HA1.out _ H.out).mono ?_
          rintro e wk ⟨rfl, rfl⟩
          go_wp2_with fail
          refine (HFN.out _ H.out (Nat.le_refl _) (by omega)).mono ?_
          rintro e w1 ⟨rfl, hb1⟩
          have HB1 := Lib.hid hb1
          clear hb1
          rw [errV_ne (by omega)]
          go_wp2_with fail
          refine (HE1.out _ (HG.out.below HB1.out)).mono ?_
          rintro e w2 ⟨rfl, hb2⟩
          have HB2 := Lib.hid (below_on HB1.out hb2)
          clear hb2
          go_wp2_with fail
          refine (ints_any none none 0 0 0 0 [] [] _ 0 0 RdI.nil RdI.nil (Nat.zero_le _) (Nat.zero_le _) (by omega)).mono ?_
          rintro e w3 ⟨rfl, hb3⟩
          have HB3 := Lib.hid (below_on HB2.out hb3)
          clear hb3
          rw [sameI_true.2 (rfl : ([] : List Int) = [])]
          go_wp2_with fail
          refine (HA4.out _ (H.out.below HB3.out)).mono ?_
          rintro e wk ⟨rfl, rfl⟩
          go_wp2_with fail
          refine (HIN.out _ (H.out.below HB3.out) HB3.out.size (by omega)).mono ?_
          rintro e w5 ⟨rfl, hb5⟩
          have HB5 := Lib.hid (below_on HB3.out hb5)
          clear hb5
          rw [errV_ne (by omega)]
          go_wp2_with fail
          refine (HE1.out _ (HG.out.below HB5.out)).mono ?_
          rintro e w6 ⟨rfl, hb6⟩
          have HB6 := Lib.hid (below_on HB5.out hb6)
          clear hb6
          go_wp2_with fail
          refine (ints_any none none 0 0 0 0 [] [] _ 0 0 RdI.nil RdI.nil (Nat.zero_le _) (Nat.zero_le _) (by omega)).mono ?_
          rintro e w7 ⟨rfl, hb7⟩
          have HB7 := Lib.hid (below_on HB6.out hb7)
          clear hb7
          rw [sameI_true.2 (rfl : ([] : List Int) = [])]
          go_wp2_with fail
          go_ret
          exact ⟨ret_true (by simp), HB7.out⟩
    · have e1 := hE1.out
      have e4 := hE4.out
      rw [if_neg hbig, if_pos (by omega)] at e1 e4
      have hb3 : ((n : Int) % 2 != 0) = true := by simp; omega
      subst e1
      subst e4
      clear hE1 hE4
      have HE3 := Lib.hid fun W (hW : Laid W) => herr_yes 3 W hW (by omega)
      have hv3 : errV 3 = .iface 72 (.int .i64 3) := errV_ne (by omega)
      rw [hv3] at HE3
      clear hv3
      cases a1 <;> cases a4
      all_goals
        go_enter Tryd.func11, Tryd.ntmps11
        go_wp2_with fail
        refine (HA1.out _ H.out).mono ?_
        rintro e wk ⟨rfl, rfl⟩
        go_wp2_with fail
        refine (HFN.out _ H.out (Nat.le_refl _) (by omega)).mono ?_
        rintro e w1 ⟨rfl, hb1⟩
        have HB1 := Lib.hid hb1
        clear hb1
        rw [errV_ne (by omega)]
        go_wp2_with fail
        refine (HE3.out _ (HG.out.below HB1.out)).mono ?_
        rintro e w2 ⟨rfl, hb2⟩
        have HB2 := Lib.hid (below_on HB1.out hb2)
        clear hb2
        go_wp2_with fail
        refine (ints_any none none 0 0 0 0 [] [] _ 0 0 RdI.nil RdI.nil (Nat.zero_le _) (Nat.zero_le _) (by omega)).mono ?_
        rintro e w3 ⟨rfl, hb3⟩
        have HB3 := Lib.hid (below_on HB2.out hb3)
        clear hb3
        rw [sameI_true.2 (rfl : ([] : List Int) = [])]
        go_wp2_with fail
        refine (HA4.out _ (H.out.below HB3.out)).mono ?_
        rintro e wk ⟨rfl, rfl⟩
        go_wp2_with fail
        refine (HIN.out _ (H.out.below HB3.out) HB3.out.size (by omega)).mono ?_
        rintro e w5 ⟨rfl, hb5⟩
        have HB5 := Lib.hid (below_on HB3.out hb5)
        clear hb5
        rw [errV_ne (by omega)]
        go_wp2_with fail
        refine (HE3.out _ (HG.out.below HB5.out)).mono ?_
        rintro e w6 ⟨rfl, hb6⟩
        have HB6 := Lib.hid (below_on HB5.out hb6)
        clear hb6
        go_wp2_with fail
        refine (ints_any none none 0 0 0 0 [] [] _ 0 0 RdI.nil RdI.nil (Nat.zero_le _) (Nat.zero_le _) (by omega)).mono ?_
        rintro e w7 ⟨rfl, hb7⟩
        have HB7 := Lib.hid (below_on HB6.out hb7)
        clear hb7
        rw [sameI_true.2 (rfl : ([] : List Int) = [])]
        go_wp2_with fail
        go_ret
        exact ⟨ret_true (by simp), HB7.out⟩
end Go.Proofs.YtfnbehjebmbbdaaDoor
