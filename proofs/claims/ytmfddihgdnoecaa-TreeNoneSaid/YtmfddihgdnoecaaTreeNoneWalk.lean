/- The walk of the law TreeNone. -/
import Derived.Test.YtmfddihgdnoecaaTree2
import Derived.Test.YtmfddihgdnoecaaOpen
namespace Go.Proofs.Ytmfddihgdnoecaa
open Go.RowKit

theorem tree0_ok (A : Option Addr) (n c : Nat) (l : List Int) (w : World) (B : Nat) (h : RdI w B A n l) (hB : B ≤ w.heap.size) (h0 : treeErr l 0 1000 = 0) :
    Calls Try.prog 19 #[.slice A n c, .int .i64 0] w (FreshI 3 l w) := by
  have hs := treeErr_zero.1 h0
  have hl := h.len
  have HK := Lib.hid fun W hW hBW => tcheck_any A n c l 0 1000 W B hW hBW (by omega) (by omega)
  rw [h0, errV_zero] at HK
  have HC := Lib.hid fun W hW => clone_any A n c l W B hW (by omega)
  have H := Lib.hid h
  have HL := Lib.hid hl
  clear h hs h0 hl
  go_enter Try.func19, Try.ntmps19
  go_wp2_with fail
  refine (HK.out _ H.out hB).mono ?_
  rintro e w1 ⟨rfl, hb1⟩
  have H1 := Lib.hid (H.out.below (hb1.mono hB))
  have HB1 := Lib.hid hb1
  clear hb1
  go_wp2_with fail
  refine (HC.out _ H1.out).mono ?_
  rintro e w2 ⟨A', c', rfl, ho, hb2⟩
  have HO := Lib.hid ho
  have HB2 := Lib.hid (below_on HB1.out hb2)
  clear ho hb2
  go_wp2_with fail
  refine wp_loop_rounds 1 ?_
  rw [rounds_succ]
  go_wp2_with fail
  go_ret2
  exact ⟨A', c', by rw [HL.out]; rfl, by rw [HL.out]; exact own_more HO.out HB1.out.size, HB2.out⟩
theorem tree0_no (A : Option Addr) (n c : Nat) (l : List Int) (v : Int) (w : World) (B : Nat) (h : RdI w B A n l) (hB : B ≤ w.heap.size) (hn : n ≤ 100000000000000) (h0 : treeErr l v 1000 ≠ 0) :
    Calls Try.prog 19 #[.slice A n c, .int .i64 v] w fun e w' => e = .returned (.tuple #[.slice none 0 0, errV (treeErr l v 1000)]) ∧ Below w.heap.size w w' := by
  have HK := Lib.hid fun W hW hBW => tcheck_any A n c l v 1000 W B hW hBW hn (by omega)
  have he := errV_ne h0
  have H := Lib.hid h
  clear h h0
  go_enter Try.func19, Try.ntmps19
  go_wp2_with fail
  refine (HK.out _ H.out hB).mono ?_
  rintro e w1 ⟨rfl, hb1⟩
  go_wp2_with fail
  go_ret2
  exact ⟨ret_two rfl he.symm, hb1⟩
theorem inv5 (w : World) : Calls Try.prog 20 #[.slice none 0 0, .int .i64 5] w fun e w' => ∃ A c, e = .returned (.tuple #[.slice A 0 c, .nilIface]) ∧ Below w.heap.size w w' := by
  have h := tinv_ok none 0 0 5 [] w 0 RdI.nil (Nat.zero_le _) (by decide)
  have hn : Ph.treeI 5 [] = some [] := by decide
  rw [hn] at h
  refine h.mono ?_
  rintro e w' ⟨A, c, rfl, _, hb⟩
  exact ⟨A, c, rfl, hb⟩
theorem treeNone_walk (w : World) (A : Option Addr) (n c : Nat) (l : List Int) (h : RdI w w.heap.size A n l) (hb : n ≤ c ∧ c ≤ 17592186044415) (_ : ∀ x ∈ l, Is64 x) :
    Calls Try.prog 4 #[.slice A n c] w fun e w' => e = .returned (.bool true) ∧ Below w.heap.size w w' := by
  have HL := Lib.hid h.len
  by_cases h0 : treeErr l 0 1000 = 0
  · have HF := Lib.hid (tree0_ok A n c l w _ h (Nat.le_refl _) h0)
    have hn : n ≤ 32 := by have := (treeErr_zero.1 h0).1; rw [h.len] at this; exact this
    have H := Lib.hid h
    clear h h0
    go_enter Try.func4, Try.ntmps4
    go_wp2_with fail
    refine HF.out.mono ?_
    rintro e w1 ⟨A1, c1, rfl, hown, hb1⟩
    have H1 := Lib.hid (H.out.on hb1)
    have HO := Lib.hid (RdI.own hown)
    have HB1 := Lib.hid hb1
    clear hown hb1 HF
    go_wp2_with fail
    refine (inv5 _).mono ?_
    rintro e w2 ⟨A2, c2, rfl, hb2⟩
    have H2 := Lib.hid (H1.out.on hb2)
    have HO2 := Lib.hid (HO.out.on hb2)
    have HB2 := Lib.hid (below_on HB1.out hb2)
    clear hb2 H1 HO
    go_wp2_with fail
    have hl := HL.out
    refine (ints_any A1 A _ c1 n c l l _ _ _ HO2.out H2.out (Nat.le_refl _) (Nat.le_refl _) (by omega)).mono ?_
    rintro e w3 ⟨rfl, hb3⟩
    rw [sameI_true.2 (rfl : l = l)]
    have HB3 := Lib.hid (below_on HB2.out hb3)
    clear hb3 hl
    go_wp2_with fail
    go_ret
    exact ⟨rfl, HB3.out⟩
  · have HF := Lib.hid (tree0_no A n c l 0 w _ h (Nat.le_refl _) (by omega) h0)
    rw [errV_ne h0] at HF
    clear h h0
    go_enter Try.func4, Try.ntmps4
    go_wp2_with fail
    refine HF.out.mono ?_
    rintro e w1 ⟨rfl, hb1⟩
    have HB1 := Lib.hid hb1
    clear hb1 HF
    go_wp2_with fail
    refine (inv5 _).mono ?_
    rintro e w2 ⟨A2, c2, rfl, hb2⟩
    have HB2 := Lib.hid (below_on HB1.out hb2)
    clear hb2
    go_wp2_with fail
    go_ret
    exact ⟨rfl, HB2.out⟩
end Go.Proofs.Ytmfddihgdnoecaa
