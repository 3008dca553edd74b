/- The walk of the law SoundWay. -/
import Derived.Test.YthfkhijfhjagkaaSound2
import Derived.Test.YthfkhijfhjagkaaOpen
import Derived.Outline
namespace Go.Proofs.Ythfkhijfhjagkaa
open Go.RowKit

set_option maxHeartbeats 2000000 in
theorem soundWay_walk (w : World) (A1 : Option Addr) (n1 c1 : Nat) (a : List Int) (h1 : RdI w w.heap.size A1 n1 a) (hb1 : n1 ≤ c1 ∧ c1 ≤ 17592186044415) (_ : ∀ x ∈ a, Is64 x) (A2 : Option Addr) (n2 c2 : Nat) (b : List Int) (h2 : RdI w w.heap.size A2 n2 b) (hb2 : n2 ≤ c2 ∧ c2 ≤ 17592186044415) (_ : ∀ x ∈ b, Is64 x) (A3 : Option Addr) (n3 c3 : Nat) (c : List Int) (h3 : RdI w w.heap.size A3 n3 c) (hb3 : n3 ≤ c3 ∧ c3 ≤ 17592186044415) (_ : ∀ x ∈ c, Is64 x) :
    Calls Try.prog 6 #[.slice A1 n1 c1, .slice A2 n2 c2, .slice A3 n3 c3] w fun e w' => e = .returned (.bool true) ∧ Below w.heap.size w w' := by
  have hz : errV 0 = .nilIface := rfl
  have H1 := Lib.hid (((h1.onAlloc (.cells #[.int .i64 900, .int .i64 (-3)] 3))).onAlloc (.cells #[.int .i64 300, .int .i64 1] 3))
  have H2 := Lib.hid (((h2.onAlloc (.cells #[.int .i64 900, .int .i64 (-3)] 3))).onAlloc (.cells #[.int .i64 300, .int .i64 1] 3))
  have H3 := Lib.hid (((h3.onAlloc (.cells #[.int .i64 900, .int .i64 (-3)] 3))).onAlloc (.cells #[.int .i64 300, .int .i64 1] 3))
  have HB := Lib.hid (below_onAlloc (below_alloc0 w (.cells #[.int .i64 900, .int .i64 (-3)] 3)) (.cells #[.int .i64 300, .int .i64 1] 3))
  have HR1 := Lib.hid ((RdI.lit' w [900, -3] 3 #[.int .i64 900, .int .i64 (-3)] rfl).onAlloc (.cells #[.int .i64 300, .int .i64 1] 3))
  have HR2 := Lib.hid (RdI.litAt (w.alloc (.cells #[.int .i64 900, .int .i64 (-3)] 3)) (w.heap.size + 1) (by simp) [300, 1] 3 #[.int .i64 300, .int .i64 1] rfl)
  have HM : Hid (Ph.mix [900, -3] [300, 1] = [1000, -2]) := by unfold Hid; decide
  have HL1 := Lib.hid h1.len
  clear h1 h2 h3
  go_enter Try.func6, Try.ntmps6
  go_wp2_with fail
  have hm := mix_ok _ _ 2 2 2 2 [900, -3] [300, 1] _ _ HR1.out HR2.out (Nat.le_refl _) (by omega) (by decide)
  rw [HM.out] at hm
  refine hm.mono ?_
  rintro e w1 ⟨A0, c0, rfl, hown, hbw⟩
  clear hm HR1 HR2 HM
  obtain ⟨g, rfl, hg0, hg1⟩ := own_form hown (by decide)
  have q0 := hown.cellAt 0 (by decide)
  have q1 := hown.cellAt 1 (by decide)
  have f0 : w1.cell? ⟨g, 0, none⟩ = some (.int .i64 1000) := q0
  have f1 : w1.cell? ⟨g, 1, none⟩ = some (.int .i64 (-2)) := q1
  have H1' := Lib.hid (H1.out.on hbw)
  have H2' := Lib.hid (H2.out.on hbw)
  have H3' := Lib.hid (H3.out.on hbw)
  have HB' := Lib.hid (below_on HB.out hbw)
  clear hown hbw q0 q1 H1 H2 H3 HB hg0 hg1
  go_wp2_with fail
  by_cases h0 : Ph.soundErr a = 0
  · have hs := Ph.soundErr_zero.1 h0
    have hna : a.length = n1 := HL1.out
    have e1 := Ph.energy_le_loud a
    have e2 := Ph.loud_sq_le a
    rw [hna] at e2
    have e3 := Ph.energy_nonneg a
    have e4 := Ph.loud_nonneg a
    have e5 := Ph.energy_le hs.2
    have e6 := Ph.loud_le hs.2
    have e7 := Ph.sq_le (x := Ph.loud a) (m := 32000) (by omega) (by omega)
    have e8 : Ph.energy a * (n1 : Int) ≤ 1000000000 * 32 := Int.mul_le_mul (by omega) (by omega) (by omega) (by omega)
    have e9 : 0 ≤ Ph.energy a * (n1 : Int) := Int.mul_nonneg e3 (by omega)
    have e10 : 0 ≤ Ph.loud a * Ph.loud a := Int.mul_nonneg e4 e4
    clear hna hs
    refine (energy_any A1 n1 c1 a _ _ H1'.out (Nat.le_refl _) (by omega)).mono ?_
    rintro e w2 ⟨rfl, hbx⟩
    have K1 := Lib.hid (H1'.out.on hbx)
    have K2 := Lib.hid (H2'.out.on hbx)
    have K3 := Lib.hid (H3'.out.on hbx)
    have HB2 := Lib.hid (below_on HB'.out hbx)
    clear hbx H1' H2' H3' HB'
    go_wp2_with fail
    refine (loud_any A1 n1 c1 a _ _ K1.out (Nat.le_refl _) (by omega)).mono ?_
    rintro e w3 ⟨rfl, hbx⟩
    have L1 := Lib.hid (K1.out.on hbx)
    have L2 := Lib.hid (K2.out.on hbx)
    have L3 := Lib.hid (K3.out.on hbx)
    have HB3 := Lib.hid (below_on HB2.out hbx)
    clear hbx K1 K2 K3 HB2
    by_cases h2 : Ph.twoErr a b = 0
    · have T0 := Lib.hid h2
      have T1 : Hid (Ph.twoErr b a = 0) := Ph.twoErr_zero.2 ⟨(Ph.twoErr_zero.1 h2).2.1, (Ph.twoErr_zero.1 h2).1, (Ph.twoErr_zero.1 h2).2.2.symm⟩
      have hsm : Ph.soundErr (Ph.mix a b) = 0 := by
        have hl := (Ph.twoErr_zero.1 h2).2.2
        have h32 := (Ph.soundErr_zero.1 h0).1
        exact Ph.soundErr_zero.2 ⟨by rw [Ph.mix_length hl]; exact h32, Ph.mix_allIn a b⟩
      have HMl : Hid ((Ph.mix a b).length ≤ 32) := (Ph.soundErr_zero.1 hsm).1
      have hq : sameI (Ph.mix a b) (Ph.mix a b) = true := sameI_true.2 rfl
      have HC := Lib.hid (Ph.mix_comm b a)
      have habd : 0 ≤ Ph.apart a b ∧ Ph.apart a b ≤ 2000 := ⟨Ph.apart_nonneg a b, Ph.apart_le (Ph.soundErr_zero.1 h0).2 (Ph.soundErr_zero.1 (Ph.twoErr_zero.1 h2).2.1).2⟩
      go_wp2_with fail
      refine (apart_any A1 A2 n1 c1 n2 c2 a b _ _ L1.out L2.out (Nat.le_refl _) (by omega) (by omega)).mono ?_
      rintro e w4 ⟨rfl, hbx⟩
      have M1 := Lib.hid (L1.out.on hbx)
      have M2 := Lib.hid (L2.out.on hbx)
      have M3 := Lib.hid (L3.out.on hbx)
      have HB4 := Lib.hid (below_on HB3.out hbx)
      clear hbx L1 L2 L3 HB3
      go_wp2_with fail
      refine (mix_ok A1 A2 n1 c1 n2 c2 a b _ _ M1.out M2.out (Nat.le_refl _) (by omega) T0.out).mono ?_
      rintro e w5 ⟨AY, cy, rfl, hy, hbx⟩
      have Y5 := Lib.hid (RdI.own hy)
      clear hy
      have N1 := Lib.hid (M1.out.on hbx)
      have N2 := Lib.hid (M2.out.on hbx)
      have N3 := Lib.hid (M3.out.on hbx)
      have HB5 := Lib.hid (below_on HB4.out hbx)
      clear hbx M1 M2 M3 HB4
      go_wp2_with fail
      have hm := mix_ok A2 A1 n2 c2 n1 c1 b a _ _ N2.out N1.out (Nat.le_refl _) (by omega) T1.out
      rw [HC.out] at hm
      refine hm.mono ?_
      rintro e w6 ⟨AZ, cz, rfl, hz6, hbx⟩
      have Z6 := Lib.hid (RdI.own hz6)
      clear hz6 hm
      have O1 := Lib.hid (N1.out.on hbx)
      have O2 := Lib.hid (N2.out.on hbx)
      have O3 := Lib.hid (N3.out.on hbx)
      have Y6 := Lib.hid (Y5.out.on hbx)
      have HB6 := Lib.hid (below_on HB5.out hbx)
      clear hbx N1 N2 N3 Y5 HB5
      go_wp2_with fail
      refine (ints_any AY AZ _ cy _ cz (Ph.mix a b) (Ph.mix a b) _ _ _ Y6.out Z6.out (Nat.le_refl _) (Nat.le_refl _) (by have := HMl.out; omega)).mono ?_
      rintro e w7 ⟨rfl, hbx⟩
      have P1 := Lib.hid (O1.out.on hbx)
      have P2 := Lib.hid (O2.out.on hbx)
      have P3 := Lib.hid (O3.out.on hbx)
      have Y7 := Lib.hid (Y6.out.on hbx)
      have HB7 := Lib.hid (below_on HB6.out hbx)
      clear hbx O1 O2 O3 Y6 HB6
      go_wp2_with fail
      refine (check_any AY _ cy (Ph.mix a b) _ _ Y7.out (Nat.le_refl _) (by have := HMl.out; omega)).mono ?_
      rintro e w8 ⟨rfl, hbx⟩
      have Q1 := Lib.hid (P1.out.on hbx)
      have Q2 := Lib.hid (P2.out.on hbx)
      have Q3 := Lib.hid (P3.out.on hbx)
      have HB8 := Lib.hid (below_on HB7.out hbx)
      clear hbx P1 P2 P3 HB7
      have HAB : Hid ((sameI a b = true ∧ Ph.apart a b = 0) ∨ (sameI a b = false ∧ 1 ≤ Ph.apart a b)) := by
        have hz := Ph.apart_eq_zero (a := a) (b := b) (Ph.twoErr_zero.1 T0.out).2.2
        by_cases he : a = b
        · left; exact ⟨sameI_true.2 he, hz.2 he⟩
        · right
          refine ⟨by rw [← Bool.not_eq_true, sameI_true]; exact he, ?_⟩
          have : Ph.apart a b ≠ 0 := fun h => he (hz.1 h)
          omega
      go_wp2_with fail
      refine (ints_any A1 A2 n1 c1 n2 c2 a b _ _ _ Q1.out Q2.out (Nat.le_refl _) (Nat.le_refl _) (by omega)).mono ?_
      rintro e w9 ⟨rfl, hbx⟩
      have R1 := Lib.hid (Q1.out.on hbx)
      have R2 := Lib.hid (Q2.out.on hbx)
      have R3 := Lib.hid (Q3.out.on hbx)
      have HB9 := Lib.hid (below_on HB8.out hbx)
      clear hbx Q1 Q2 Q3 HB8
      have HT : Hid (Ph.twoErr a c = 0 → Ph.twoErr c b = 0 → Ph.apart a b ≤ Ph.apart a c + Ph.apart c b ∧ 0 ≤ Ph.apart a c ∧ Ph.apart a c ≤ 2000 ∧ 0 ≤ Ph.apart c b ∧ Ph.apart c b ≤ 2000) := by
        intro q1 q2
        have q3 := Ph.twoErr_zero.1 q1
        have q4 := Ph.twoErr_zero.1 q2
        exact ⟨Ph.apart_tri a b c q3.2.2 q4.2.2, Ph.apart_nonneg _ _, Ph.apart_le (Ph.soundErr_zero.1 q3.1).2 (Ph.soundErr_zero.1 q3.2.1).2, Ph.apart_nonneg _ _, Ph.apart_le (Ph.soundErr_zero.1 q4.1).2 (Ph.soundErr_zero.1 q4.2.1).2⟩
      rcases HAB.out with ⟨hX, hX'⟩ | ⟨hX, hX'⟩
      · have hX2 : (0 : Int) ≤ 0 := Int.le_refl 0
        by_cases t1 : Ph.twoErr a c = 0
        · by_cases t2 : Ph.twoErr c b = 0
          · have HTT := HT.out t1 t2
            go_wp2_with fail
            refine (apart_any A1 A3 n1 c1 n3 c3 a c _ _ R1.out R3.out (Nat.le_refl _) (by omega) (by omega)).mono ?_
            rintro e w10 ⟨rfl, hbx⟩
            have S2 := Lib.hid (R2.out.on hbx)
            have S3 := Lib.hid (R3.out.on hbx)
            have HB10 := Lib.hid (below_on HB9.out hbx)
            clear hbx R1 R2 R3 HB9
            go_wp2_with fail
            refine (apart_any A3 A2 n3 c3 n2 c2 c b _ _ S3.out S2.out (Nat.le_refl _) (by omega) (by omega)).mono ?_
            rintro e w11 ⟨rfl, hbx⟩
            have HB11 := Lib.hid (below_on HB10.out hbx)
            clear hbx
            go_wp2
            go_ret
            first
            | exact ⟨rfl, HB11.out⟩
            | exact ⟨ret_true (by simp; omega), HB11.out⟩
          · have t2' := errV_ne t2
            go_wp2_with fail
            refine (apart_any A1 A3 n1 c1 n3 c3 a c _ _ R1.out R3.out (Nat.le_refl _) (by omega) (by omega)).mono ?_
            rintro e w10 ⟨rfl, hbx⟩
            have S2 := Lib.hid (R2.out.on hbx)
            have S3 := Lib.hid (R3.out.on hbx)
            have HB10 := Lib.hid (below_on HB9.out hbx)
            clear hbx R1 R2 R3 HB9
            go_wp2_with fail
            refine (apart_any A3 A2 n3 c3 n2 c2 c b _ _ S3.out S2.out (Nat.le_refl _) (by omega) (by omega)).mono ?_
            rintro e w11 ⟨rfl, hbx⟩
            have HB11 := Lib.hid (below_on HB10.out hbx)
            clear hbx
            go_wp2
            go_ret
            first
            | exact ⟨rfl, HB11.out⟩
            | exact ⟨ret_true (by simp; omega), HB11.out⟩
        · have t1' := errV_ne t1
          by_cases t2 : Ph.twoErr c b = 0
          · have t2' := errV_of t2
            go_wp2_with fail
            refine (apart_any A1 A3 n1 c1 n3 c3 a c _ _ R1.out R3.out (Nat.le_refl _) (by omega) (by omega)).mono ?_
            rintro e w10 ⟨rfl, hbx⟩
            have S2 := Lib.hid (R2.out.on hbx)
            have S3 := Lib.hid (R3.out.on hbx)
            have HB10 := Lib.hid (below_on HB9.out hbx)
            clear hbx R1 R2 R3 HB9
            go_wp2_with fail
            refine (apart_any A3 A2 n3 c3 n2 c2 c b _ _ S3.out S2.out (Nat.le_refl _) (by omega) (by omega)).mono ?_
            rintro e w11 ⟨rfl, hbx⟩
            have HB11 := Lib.hid (below_on HB10.out hbx)
            clear hbx
            go_wp2
            go_ret
            first
            | exact ⟨rfl, HB11.out⟩
            | exact ⟨ret_true (by simp; omega), HB11.out⟩
          · have t2' := errV_ne t2
            go_wp2_with fail
            refine (apart_any A1 A3 n1 c1 n3 c3 a c _ _ R1.out R3.out (Nat.le_refl _) (by omega) (by omega)).mono ?_
            rintro e w10 ⟨rfl, hbx⟩
            have S2 := Lib.hid (R2.out.on hbx)
            have S3 := Lib.hid (R3.out.on hbx)
            have HB10 := Lib.hid (below_on HB9.out hbx)
            clear hbx R1 R2 R3 HB9
            go_wp2_with fail
            refine (apart_any A3 A2 n3 c3 n2 c2 c b _ _ S3.out S2.out (Nat.le_refl _) (by omega) (by omega)).mono ?_
            rintro e w11 ⟨rfl, hbx⟩
            have HB11 := Lib.hid (below_on HB10.out hbx)
            clear hbx
            go_wp2
            go_ret
            first
            | exact ⟨rfl, HB11.out⟩
            | exact ⟨ret_true (by simp; omega), HB11.out⟩
      · have hX2 : (Ph.apart a b == 0) = false := by simp; omega
        by_cases t1 : Ph.twoErr a c = 0
        · by_cases t2 : Ph.twoErr c b = 0
          · have HTT := HT.out t1 t2
            go_wp2_with fail
            refine (apart_any A1 A3 n1 c1 n3 c3 a c _ _ R1.out R3.out (Nat.le_refl _) (by omega) (by omega)).mono ?_
            rintro e w10 ⟨rfl, hbx⟩
            have S2 := Lib.hid (R2.out.on hbx)
            have S3 := Lib.hid (R3.out.on hbx)
            have HB10 := Lib.hid (below_on HB9.out hbx)
            clear hbx R1 R2 R3 HB9
            go_wp2_with fail
            refine (apart_any A3 A2 n3 c3 n2 c2 c b _ _ S3.out S2.out (Nat.le_refl _) (by omega) (by omega)).mono ?_
            rintro e w11 ⟨rfl, hbx⟩
            have HB11 := Lib.hid (below_on HB10.out hbx)
            clear hbx
            go_wp2
            go_ret
            first
            | exact ⟨rfl, HB11.out⟩
            | exact ⟨ret_true (by simp; omega), HB11.out⟩
          · have t2' := errV_ne t2
            go_wp2_with fail
            refine (apart_any A1 A3 n1 c1 n3 c3 a c _ _ R1.out R3.out (Nat.le_refl _) (by omega) (by omega)).mono ?_
            rintro e w10 ⟨rfl, hbx⟩
            have S2 := Lib.hid (R2.out.on hbx)
            have S3 := Lib.hid (R3.out.on hbx)
            have HB10 := Lib.hid (below_on HB9.out hbx)
            clear hbx R1 R2 R3 HB9
            go_wp2_with fail
            refine (apart_any A3 A2 n3 c3 n2 c2 c b _ _ S3.out S2.out (Nat.le_refl _) (by omega) (by omega)).mono ?_
            rintro e w11 ⟨rfl, hbx⟩
            have HB11 := Lib.hid (below_on HB10.out hbx)
            clear hbx
            go_wp2
            go_ret
            first
            | exact ⟨rfl, HB11.out⟩
            | exact ⟨ret_true (by simp; omega), HB11.out⟩
        · have t1' := errV_ne t1
          by_cases t2 : Ph.twoErr c b = 0
          · have t2' := errV_of t2
            go_wp2_with fail
            refine (apart_any A1 A3 n1 c1 n3 c3 a c _ _ R1.out R3.out (Nat.le_refl _) (by omega) (by omega)).mono ?_
            rintro e w10 ⟨rfl, hbx⟩
            have S2 := Lib.hid (R2.out.on hbx)
            have S3 := Lib.hid (R3.out.on hbx)
            have HB10 := Lib.hid (below_on HB9.out hbx)
            clear hbx R1 R2 R3 HB9
            go_wp2_with fail
            refine (apart_any A3 A2 n3 c3 n2 c2 c b _ _ S3.out S2.out (Nat.le_refl _) (by omega) (by omega)).mono ?_
            rintro e w11 ⟨rfl, hbx⟩
            have HB11 := Lib.hid (below_on HB10.out hbx)
            clear hbx
            go_wp2
            go_ret
            first
            | exact ⟨rfl, HB11.out⟩
            | exact ⟨ret_true (by simp; omega), HB11.out⟩
          · have t2' := errV_ne t2
            go_wp2_with fail
            refine (apart_any A1 A3 n1 c1 n3 c3 a c _ _ R1.out R3.out (Nat.le_refl _) (by omega) (by omega)).mono ?_
            rintro e w10 ⟨rfl, hbx⟩
            have S2 := Lib.hid (R2.out.on hbx)
            have S3 := Lib.hid (R3.out.on hbx)
            have HB10 := Lib.hid (below_on HB9.out hbx)
            clear hbx R1 R2 R3 HB9
            go_wp2_with fail
            refine (apart_any A3 A2 n3 c3 n2 c2 c b _ _ S3.out S2.out (Nat.le_refl _) (by omega) (by omega)).mono ?_
            rintro e w11 ⟨rfl, hbx⟩
            have HB11 := Lib.hid (below_on HB10.out hbx)
            clear hbx
            go_wp2
            go_ret
            first
            | exact ⟨rfl, HB11.out⟩
            | exact ⟨ret_true (by simp; omega), HB11.out⟩
    · have h2n := errV_ne h2
      go_wp2_with fail
      refine (apart_any A1 A2 n1 c1 n2 c2 a b _ _ L1.out L2.out (Nat.le_refl _) (by omega) (by omega)).mono ?_
      rintro e w4 ⟨rfl, hbx⟩
      have M1 := Lib.hid (L1.out.on hbx)
      have M2 := Lib.hid (L2.out.on hbx)
      have M3 := Lib.hid (L3.out.on hbx)
      have HB4 := Lib.hid (below_on HB3.out hbx)
      clear hbx L1 L2 L3 HB3
      go_wp2
      go_ret
      exact ⟨rfl, HB4.out⟩
  · have hn := errV_ne h0
    refine (energy_any A1 n1 c1 a _ _ H1'.out (Nat.le_refl _) (by omega)).mono ?_
    rintro e w2 ⟨rfl, hbx⟩
    have K1 := Lib.hid (H1'.out.on hbx)
    have K2 := Lib.hid (H2'.out.on hbx)
    have K3 := Lib.hid (H3'.out.on hbx)
    have HB2 := Lib.hid (below_on HB'.out hbx)
    clear hbx H1' H2' H3' HB'
    go_wp2_with fail
    refine (loud_any A1 n1 c1 a _ _ K1.out (Nat.le_refl _) (by omega)).mono ?_
    rintro e w3 ⟨rfl, hbx⟩
    have L1 := Lib.hid (K1.out.on hbx)
    have L2 := Lib.hid (K2.out.on hbx)
    have L3 := Lib.hid (K3.out.on hbx)
    have HB3 := Lib.hid (below_on HB2.out hbx)
    clear hbx K1 K2 K3 HB2
    go_wp2
    go_ret
    exact ⟨rfl, HB3.out⟩
end Go.Proofs.Ythfkhijfhjagkaa
