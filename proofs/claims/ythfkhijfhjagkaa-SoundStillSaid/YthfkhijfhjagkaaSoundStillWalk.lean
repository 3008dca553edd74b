/- The walk of the law SoundStill. -/
import Derived.Test.YthfkhijfhjagkaaSound2
import Derived.Test.YthfkhijfhjagkaaOpen
namespace Go.Proofs.Ythfkhijfhjagkaa
open Go.RowKit

theorem zeros_rd (w : World) (n : Nat) : RdI (w.alloc (.cells (madeCells #[.int .i64 0] n) 3)) (w.alloc (.cells (madeCells #[.int .i64 0] n) 3)).heap.size (some ⟨w.heap.size, 0, none⟩) n (List.replicate n 0) := by
  have h := RdI.lit' w (List.replicate n 0) 3 (madeCells #[.int .i64 0] n) (by rw [toList_madeCells_one]; simp [ivals])
  rw [List.length_replicate] at h
  exact h
theorem zeros_ok {n : Nat} (hn : n ≤ 32) : Ph.soundErr (List.replicate n 0) = 0 := by
  refine Ph.soundErr_zero.2 ⟨by rw [List.length_replicate]; exact hn, Ph.allIn_iff.2 fun x hx => ?_⟩
  rw [List.eq_of_mem_replicate hx]; omega
set_option maxHeartbeats 1000000 in
theorem soundStill_walk (w : World) (A : Option Addr) (n c : Nat) (l : List Int) (h : RdI w w.heap.size A n l) (hb : n ≤ c ∧ c ≤ 17592186044415) (_ : ∀ x ∈ l, Is64 x) :
    Calls Try.prog 5 #[.slice A n c] w fun e w' => e = .returned (.bool true) ∧ Below w.heap.size w w' := by
  have HL := Lib.hid h.len
  have hmk := make_ints n (by omega)
  have hf : Ph.soundErr [3, -4] = 0 := by decide
  have hE : Ph.energy [3, -4] = 25 := by decide
  have hz : errV 0 = .nilIface := rfl
  have H := Lib.hid (h.onAlloc (.cells #[.int .i64 3, .int .i64 (-4)] 3))
  have HB0 := Lib.hid (below_alloc0 w (.cells #[.int .i64 3, .int .i64 (-4)] 3))
  have HR := Lib.hid (RdI.lit' w [3, -4] 3 #[.int .i64 3, .int .i64 (-4)] rfl)
  by_cases h0 : Ph.soundErr l = 0
  · have hs := Ph.soundErr_zero.1 h0
    have h2 : Ph.twoErr l (List.replicate n 0) = 0 := Ph.twoErr_zero.2 ⟨h0, zeros_ok (by have := h.len; omega), by rw [List.length_replicate]; exact h.len⟩
    have h3 : Ph.twoErr l l = 0 := Ph.twoErr_zero.2 ⟨h0, h0, rfl⟩
    have hap := Ph.apart_self l
    have HM : Hid (Ph.mix l (List.replicate n 0) = l) := by have := Ph.mix_zero hs.2; rw [h.len] at this; exact this
    have H2 := Lib.hid h2
    have hsame : sameI l l = true := sameI_true.2 rfl
    have hlen := Lib.hid h.len
    clear h h0 hs h2
    go_enter Try.func5, Try.ntmps5
    go_wp2_with fail
    refine (energy_any _ 2 2 [3, -4] _ _ HR.out (Nat.le_refl _) (by omega)).mono ?_
    rintro e w1 ⟨rfl, hb1⟩
    clear HR
    have H1 := Lib.hid ((H.out.on hb1).onAlloc (.cells (madeCells #[.int .i64 0] n) 3))
    have HB1 := Lib.hid (below_onAlloc (below_on HB0.out hb1) (.cells (madeCells #[.int .i64 0] n) 3))
    clear hb1
    go_wp2_with fail
    have hm := mix_ok A _ n c n n l (List.replicate n 0) _ _ H1.out (zeros_rd w1 n) (Nat.le_refl _) (by omega) H2.out
    rw [HM.out] at hm
    refine hm.mono ?_
    rintro e w2 ⟨A2, c2, rfl, hown, hb2⟩
    clear hm
    have HO := Lib.hid hown
    clear hown
    have H3 := Lib.hid (H1.out.on hb2)
    have HB2 := Lib.hid (below_on HB1.out hb2)
    clear hb2
    go_wp2_with fail
    refine (apart_any A A n c n c l l _ _ H3.out H3.out (Nat.le_refl _) (by omega) (by omega)).mono ?_
    rintro e w3 ⟨rfl, hb3⟩
    have H4 := Lib.hid (H3.out.on hb3)
    have HO4 := Lib.hid ((RdI.own HO.out).on hb3)
    have HB3 := Lib.hid (below_on HB2.out hb3)
    clear hb3
    go_wp2_with fail
    refine (ints_any A2 A l.length c2 n c l l _ _ _ HO4.out H4.out (Nat.le_refl _) (Nat.le_refl _) (by rw [hlen.out]; omega)).mono ?_
    rintro e w4 ⟨rfl, hb4⟩
    go_wp2
    go_ret
    exact ⟨rfl, below_on HB3.out hb4⟩
  · have h3 : Ph.twoErr l (List.replicate n 0) ≠ 0 := fun h => h0 (Ph.twoErr_zero.1 h).1
    have h4 : Ph.twoErr l l ≠ 0 := fun h => h0 (Ph.twoErr_zero.1 h).1
    have e3 := errV_ne h3
    have e4 := errV_ne h4
    have H3 := Lib.hid h3
    clear h h0 h3
    go_enter Try.func5, Try.ntmps5
    go_wp2_with fail
    refine (energy_any _ 2 2 [3, -4] _ _ HR.out (Nat.le_refl _) (by omega)).mono ?_
    rintro e w1 ⟨rfl, hb1⟩
    clear HR
    have H1 := Lib.hid ((H.out.on hb1).onAlloc (.cells (madeCells #[.int .i64 0] n) 3))
    have HB1 := Lib.hid (below_onAlloc (below_on HB0.out hb1) (.cells (madeCells #[.int .i64 0] n) 3))
    clear hb1
    go_wp2_with fail
    refine (mix_no A _ n c n n l (List.replicate n 0) _ _ H1.out (zeros_rd w1 n) (Nat.le_refl _) (by omega) (by omega) H3.out).mono ?_
    rintro e w2 ⟨rfl, hb2⟩
    have H4 := Lib.hid (H1.out.on hb2)
    have HB2 := Lib.hid (below_on HB1.out hb2)
    clear hb2
    go_wp2_with fail
    refine (apart_any A A n c n c l l _ _ H4.out H4.out (Nat.le_refl _) (by omega) (by omega)).mono ?_
    rintro e w3 ⟨rfl, hb3⟩
    have HB3 := Lib.hid (below_on HB2.out hb3)
    clear hb3
    go_wp2
    go_ret
    exact ⟨rfl, HB3.out⟩
end Go.Proofs.Ythfkhijfhjagkaa
