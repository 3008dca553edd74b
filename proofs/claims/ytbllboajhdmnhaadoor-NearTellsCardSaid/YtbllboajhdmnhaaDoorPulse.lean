/- Walks: pulses, and their numbers (chapter 6). -/
import Derived.Test.YtbllboajhdmnhaaDoorCount2
namespace Go.Proofs.YtbllboajhdmnhaaDoor
open Go.RowKit

theorem pCheck_any (A : Option Addr) (n c : Nat) (v : List Int) (w : World) (B : Nat) (h : RdI w B A n v) (hB : B ≤ w.heap.size) (hn : n ≤ 100000000000000) :
    Calls Tryd.prog 16 #[.slice A n c] w fun e w' => e = .returned (.tuple #[.int .i64 (if Ph.pulsesErr v = 0 then Ph.loud v else 0), errV (Ph.pulsesErr v)]) ∧ Below w.heap.size w w' := by
  have hl := h.len
  have H := Lib.hid h
  clear h
  by_cases h6 : 6 < n
  · have e : Ph.pulsesErr v = 4 := by unfold Ph.pulsesErr; rw [if_pos (by omega)]
    rw [e, errV_ne (by omega), if_neg (by omega)]
    clear hl e
    go_enter Tryd.func16, Tryd.ntmps16
    go_wp2
    go_ret2
    exact ⟨rfl, Below.refl _ _⟩
  · cases ha : Ph.allIn v 8
    · have e : Ph.pulsesErr v = 1 := by unfold Ph.pulsesErr; rw [if_neg (by omega), if_neg (by simp [ha])]
      rw [e, errV_ne (by omega), if_neg (by omega)]
      have HA : Hid (∀ W, RdI W B A n v → B ≤ W.heap.size → Calls Tryd.prog 75 #[.slice A n c, .int .i64 8] W fun e w' => e = .returned (.bool false) ∧ Below W.heap.size W w') := Lib.hid fun W hW hBW => by rw [← ha]; exact all_any A n c v W B hW hBW 8 hn (by omega)
      clear hl e ha
      go_enter Tryd.func16, Tryd.ntmps16
      go_wp2_with fail
      refine (HA.out _ H.out hB).mono ?_
      rintro e w1 ⟨rfl, hb1⟩
      have HB1 := Lib.hid hb1
      clear hb1 HA
      go_wp2_with fail
      go_ret2
      exact ⟨rfl, HB1.out⟩
    · have HA : Hid (∀ W, RdI W B A n v → B ≤ W.heap.size → Calls Tryd.prog 75 #[.slice A n c, .int .i64 8] W fun e w' => e = .returned (.bool true) ∧ Below W.heap.size W w') := Lib.hid fun W hW hBW => by rw [← ha]; exact all_any A n c v W B hW hBW 8 hn (by omega)
      have hb := Ph.loud_le ha
      have h0 := Ph.loud_nonneg v
      have HS : Hid (∀ W, RdI W B A n v → Calls Tryd.prog 76 #[.slice A n c] W fun e w' => e = .returned (.int .i64 (Ph.loud v)) ∧ W = w') := Lib.hid fun W hW => sum_any A n c v W B hW (Ph.allIn_mono ha (by omega)) (by omega)
      have he : Ph.pulsesErr v = if 8 < Ph.loud v then 4 else 0 := by unfold Ph.pulsesErr; rw [if_neg (by omega), if_pos ha]
      rw [he]
      obtain ⟨L, hL⟩ : ∃ L, L = Ph.loud v := ⟨_, rfl⟩
      rw [← hL] at hb h0 HS ⊢
      rw [hl] at hb
      clear he hL ha hl
      by_cases h8 : 8 < L
      · rw [if_pos h8, errV_ne (by omega), if_neg (by omega)]
        go_enter Tryd.func16, Tryd.ntmps16
        go_wp2_with fail
        refine (HA.out _ H.out hB).mono ?_
        rintro e w1 ⟨rfl, hb1⟩
        have H1 := Lib.hid (H.out.below (hb1.mono hB))
        have HB1 := Lib.hid hb1
        clear hb1 HA
        go_wp2_with fail
        refine (HS.out _ H1.out).mono ?_
        rintro e w2 ⟨rfl, rfl⟩
        clear HS
        go_wp2_with fail
        go_ret2
        exact ⟨rfl, HB1.out⟩
      · rw [if_neg h8, errV_zero, if_pos rfl]
        go_enter Tryd.func16, Tryd.ntmps16
        go_wp2_with fail
        refine (HA.out _ H.out hB).mono ?_
        rintro e w1 ⟨rfl, hb1⟩
        have H1 := Lib.hid (H.out.below (hb1.mono hB))
        have HB1 := Lib.hid hb1
        clear hb1 HA
        go_wp2_with fail
        refine (HS.out _ H1.out).mono ?_
        rintro e w2 ⟨rfl, rfl⟩
        clear HS
        go_wp2_with fail
        go_ret2
        exact ⟨rfl, HB1.out⟩
end Go.Proofs.YtbllboajhdmnhaaDoor
