/- The document's answers, walked (chapter 1): all within a bound; what is wrong with samples, and with two. -/
import Derived.Test.YtjdpgakkphdjlaaGreatDoorSound
import Derived.Outline
namespace Go.Proofs.YtjdpgakkphdjlaaGreatDoor
open Go.RowKit

theorem all_fails (l : List Int) (k : Nat) (m : Int) (hk : k < l.length) (h : Ph.within (l.getD k 0) m = false) : Ph.allIn l m = false := by
  cases ha : Ph.allIn l m
  · rfl
  · have h1 := Ph.allIn_iff.1 ha _ (Ph.getD_mem hk)
    rw [Ph.within_iff.2 h1] at h; cases h
theorem rall_any (A : Option Addr) (n c : Nat) (l : List Int) (m : Int) (w : World) (B : Nat) (h : RdI w B A n l) (hn : n ≤ 100000000000000) (hm : 0 ≤ m ∧ m ≤ 1000000) :
    Calls Tryz.prog 37 #[.slice A n c, .int .i64 m] w fun e w' => e = .returned (.bool (Ph.allIn l m)) ∧ w = w' := by
  have HL := Lib.hid h.len
  have H := Lib.hid h
  clear h
  go_enter Tryz.func37, Tryz.ntmps37
  go_wp2_with fail
  go_loop [5] (fun i => ∃ k : Nat, k ≤ n ∧ i = .int .i64 k ∧ Hid (Ph.allIn (l.take k) m = true)) (fun i => n - (intOf i).toNat)
  case atStart => exact ⟨0, Nat.zero_le _, rfl, Lib.hid rfl⟩
  case round =>
    obtain ⟨k, hk, rfl, HA⟩ := hrel
    by_cases hlt : k < n
    · obtain ⟨b, off, rfl, _, hc⟩ := H.out.at_ hlt
      obtain ⟨x, hx⟩ : ∃ x, x = l.getD k 0 := ⟨_, rfl⟩
      rw [← hx] at hc
      have HX := Lib.hid hx
      clear hx
      have hs : Hid (Ph.allIn (l.take (k + 1)) m = Ph.within x m) := Lib.hid (by
        rw [Ph.take_snoc l k (by rw [HL.out]; exact hlt), Ph.allIn_append, HA.out, ← HX.out]
        simp [Ph.allIn])
      have hlt' : (k : Int) < (n : Int) := by omega
      rcases Decidable.em (x < -m) with h1 | h1
      · have hf : Hid (Ph.allIn l m = false) := Lib.hid (all_fails l k m (by rw [HL.out]; exact hlt) (by rw [← HX.out]; exact Ph.within_false.2 (.inl h1)))
        go_wp2_with fail
        go_ret
        exact ⟨ret_bool hf.out.symm, rfl⟩
      · rcases Decidable.em (m < x) with h2 | h2
        · have hf : Hid (Ph.allIn l m = false) := Lib.hid (all_fails l k m (by rw [HL.out]; exact hlt) (by rw [← HX.out]; exact Ph.within_false.2 (.inr h2)))
          go_wp2_with fail
          go_ret
          exact ⟨ret_bool hf.out.symm, rfl⟩
        · go_wp2_with fail
          go_round
          case rel => exact ⟨k + 1, by omega, by go_num, Lib.hid (by rw [hs.out]; exact Ph.within_iff.2 (by omega))⟩
          case measure => simp [intOf]; omega
    · have hall : Hid (Ph.allIn l m = true) := Lib.hid (by have := HA.out; rwa [List.take_of_length_le (by rw [HL.out]; omega)] at this)
      go_wp2_with fail
      go_ret
      exact ⟨ret_bool hall.out.symm, rfl⟩
theorem rsound_any (A : Option Addr) (n c : Nat) (l : List Int) (w : World) (B : Nat) (h : RdI w B A n l) (hn : n ≤ 100000000000000) :
    Calls Tryz.prog 22 #[.slice A n c] w fun e w' => e = .returned (.int .i64 (Ph.soundErr l)) ∧ w = w' := by
  have hl := h.len
  unfold Ph.soundErr
  by_cases h32 : 32 < n
  · rw [if_pos (by omega)]
    clear hl h
    go_enter Tryz.func22, Tryz.ntmps22
    go_wp2_with fail
    go_ret
    exact ⟨rfl, rfl⟩
  · rw [if_neg (by omega)]
    have HA := Lib.hid (rall_any A n c l 1000 w B h hn (by omega))
    clear hl h
    cases ha : Ph.allIn l 1000
    all_goals
      rw [ha] at HA
      clear ha
      go_enter Tryz.func22, Tryz.ntmps22
      go_wp2_with fail
      refine HA.out.mono ?_
      rintro e w1 ⟨rfl, rfl⟩
      go_wp2_with fail
      go_ret
      exact ⟨rfl, rfl⟩
end Go.Proofs.YtjdpgakkphdjlaaGreatDoor
