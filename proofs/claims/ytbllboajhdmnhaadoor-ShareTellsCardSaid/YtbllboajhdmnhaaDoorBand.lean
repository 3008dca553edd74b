/- Walks: bands (chapter 9). -/
import Derived.Test.YtbllboajhdmnhaaDoorSound
import Derived.Test.YtbllboajhdmnhaaDoorPush
import Derived.Test.YtbllboajhdmnhaaDoorPhScale
import Derived.Test.YtbllboajhdmnhaaDoorShelf
import Derived.Outline
namespace Go.Proofs.YtbllboajhdmnhaaDoor
open Go.RowKit

/-- A size that may not be. -/
def badSize (x : Int) : Bool := decide (x < 1) || decide (6 < x)
theorem bcheck1_any (n : Int) (w : World) : Calls Tryd.prog 119 #[.int .i64 n] w fun e w' => e = .returned (.bool (badSize n)) ∧ w = w' := by
  unfold badSize
  by_cases h1 : n < 1 <;> by_cases h2 : 6 < n
  all_goals go_enter Tryd.func119, Tryd.ntmps119
  all_goals go_wp2_with fail
  all_goals go_ret
  all_goals exact ⟨ret_bool (by simp [h1, h2]), rfl⟩
theorem enters_bcheck1 : ∀ args W, (callFunc 119 args).run Tryd.prog W = .ok (.enter 119 args) W :=
  fun args W => enters_of Tryd.func119 (by kernel_rfl) rfl args W
theorem sizes_any_bad (s : List Int) : s.any badSize = false ↔ ∀ x ∈ s, 1 ≤ x ∧ x ≤ 6 := by
  rw [List.any_eq_false]
  unfold badSize
  constructor
  · intro h x hx
    have := h x hx
    simp at this; omega
  · intro h x hx
    have := h x hx
    simp; omega
theorem bandCheck_no (A : Option Addr) (n c : Nat) (s : List Int) (w : World) (B : Nat) (h : RdI w B A n s) (hn : n ≤ 100000000000000) (h0 : Ph.bandErr s ≠ 0) :
    Calls Tryd.prog 70 #[.slice A n c] w fun e w' => e = .returned (.tuple #[.int .i64 0, errV (Ph.bandErr s)]) ∧ w = w' := by
  have hl := h.len
  by_cases hz : n = 0
  · have e : Ph.bandErr s = 5 := by unfold Ph.bandErr; rw [if_pos (by omega)]
    rw [e, errV_ne (by omega)]
    subst hz
    clear hl e h h0
    go_enter Tryd.func70, Tryd.ntmps70
    go_wp2_with fail
    go_ret2
    exact ⟨rfl, rfl⟩
  · have hnn : ((n : Int) == 0) = false := by simp; omega
    by_cases h8 : 8 < n
    · have e : Ph.bandErr s = 4 := by unfold Ph.bandErr; rw [if_neg (by omega), if_pos (by omega)]
      rw [e, errV_ne (by omega)]
      clear hl e h h0
      go_enter Tryd.func70, Tryd.ntmps70
      go_wp2_with fail
      go_ret2
      exact ⟨rfl, rfl⟩
    · have HC : Hid (∀ W, RdI W B A n s → Calls Tryd.prog 95 #[.slice A n c, .func (.func 119) #[] #[]] W fun e w' => e = .returned (.bool (s.any badSize)) ∧ W = w') := Lib.hid fun W hW => any_any A n c 119 #[] s badSize W B hW (by omega) enters_bcheck1 (fun x _ => bcheck1_any x W)
      have H := Lib.hid h
      cases hany : s.any badSize
      · have hall := (sizes_any_bad s).1 hany
        have e : Ph.bandErr s = 4 := by
          rcases Int.lt_or_le 32 (Ph.total s) with ht | ht
          · unfold Ph.bandErr
            rw [if_neg (by omega), if_neg (by omega), if_pos (by
              rw [List.all_eq_true]; intro x hx; have := hall x hx; simp; omega), if_pos ht]
          · exact absurd (Ph.bandErr_zero.2 ⟨by omega, by omega, hall, ht⟩) h0
        have h32 : 32 < Ph.total s := by
          rcases Int.lt_or_le 32 (Ph.total s) with ht | ht
          · exact ht
          · exact absurd (Ph.bandErr_zero.2 ⟨by omega, by omega, hall, ht⟩) h0
        have h48 : Ph.total s ≤ 48 := by
          have := Ph.total_le (l := s) (m := 6) fun x hx => (hall x hx).2
          omega
        rw [e, errV_ne (by omega)]
        rw [hany] at HC
        have HS := Lib.hid hall
        have HL := Lib.hid hl
        clear hl e h h0 hany hall hz
        go_enter Tryd.func70, Tryd.ntmps70
        go_wp2_with fail
        refine (HC.out _ H.out).mono ?_
        rintro e w1 ⟨rfl, rfl⟩
        clear HC
        go_wp2_with fail
        go_loop [4, 23] (fun t i => ∃ k : Nat, k ≤ n ∧ i = .int .i64 k ∧ t = .int .i64 (Ph.total (s.take k))) (fun _ i => n - (intOf i).toNat)
        case atStart => exact ⟨0, Nat.zero_le _, rfl, rfl⟩
        case round =>
          obtain ⟨k, hk, rfl, rfl⟩ := hrel
          have hnn0 : ∀ x ∈ s, 0 ≤ x := fun x hx => by have := HS.out x hx; omega
          have ht0 := Ph.total_nonneg (l := s.take k) fun x hx => hnn0 x (List.mem_of_mem_take hx)
          have ht1 := Ph.total_take_le hnn0 k
          clear hnn0
          by_cases hlt : k < n
          · obtain ⟨b, off, rfl, _, hc⟩ := H.out.at_ hlt
            have hx := HS.out _ (Ph.getD_mem (l := s) (i := k) (by rw [HL.out]; exact hlt))
            simp only [List.getD_eq_getElem?_getD] at hx
            go_wp2_with fail
            go_round
            case rel => exact ⟨k + 1, by omega, by go_num, by rw [Ph.take_snoc s k (by rw [HL.out]; exact hlt), Ph.total_snoc, List.getD_eq_getElem?_getD]⟩
            case measure => simp [intOf]; omega
          · have hall : Hid (s.take k = s) := Lib.hid (List.take_of_length_le (by rw [HL.out]; omega))
            rw [hall.out]
            rw [hall.out] at ht0 ht1
            go_wp2_with fail
            go_ret2
            exact ⟨rfl, rfl⟩
      · have e : Ph.bandErr s = 1 := by
          unfold Ph.bandErr
          rw [if_neg (by omega), if_neg (by omega), if_neg (by
            intro hall
            rw [List.all_eq_true] at hall
            have : s.any badSize = false := (sizes_any_bad s).2 fun x hx => by have := hall x hx; simp at this; omega
            rw [this] at hany; cases hany)]
        rw [e, errV_ne (by omega)]
        rw [hany] at HC
        clear hl e h h0 hany hz
        go_enter Tryd.func70, Tryd.ntmps70
        go_wp2_with fail
        refine (HC.out _ H.out).mono ?_
        rintro e w1 ⟨rfl, rfl⟩
        clear HC
        go_wp2_with fail
        go_ret2
        exact ⟨rfl, rfl⟩
theorem bandCheck_ok (A : Option Addr) (n c : Nat) (s : List Int) (w : World) (B : Nat) (h : RdI w B A n s) (h0 : Ph.bandErr s = 0) :
    Calls Tryd.prog 70 #[.slice A n c] w fun e w' => e = .returned (.tuple #[.int .i64 (Ph.total s), .nilIface]) ∧ w = w' := by
  have hs := Ph.bandErr_zero.1 h0
  have hl := h.len
  have hn : n ≤ 8 := by omega
  have hn0 : 0 < n := by omega
  have hany : s.any badSize = false := (sizes_any_bad s).2 hs.2.2.1
  have HC : Hid (∀ W, RdI W B A n s → Calls Tryd.prog 95 #[.slice A n c, .func (.func 119) #[] #[]] W fun e w' => e = .returned (.bool false) ∧ W = w') := Lib.hid fun W hW => by
    have := any_any A n c 119 #[] s badSize W B hW (by omega) enters_bcheck1 (fun x _ => bcheck1_any x W)
    rw [hany] at this
    exact this
  have H := Lib.hid h
  have HL := Lib.hid hl
  have HS := Lib.hid hs
  have h32 : Ph.total s ≤ 32 := hs.2.2.2
  have hnn : ((n : Int) == 0) = false := by simp; omega
  clear h hl hs hany h0
  go_enter Tryd.func70, Tryd.ntmps70
  go_wp2_with fail
  refine (HC.out _ H.out).mono ?_
  rintro e w1 ⟨rfl, rfl⟩
  clear HC
  go_wp2_with fail
  go_loop [4, 23] (fun t i => ∃ k : Nat, k ≤ n ∧ i = .int .i64 k ∧ t = .int .i64 (Ph.total (s.take k))) (fun _ i => n - (intOf i).toNat)
  case atStart => exact ⟨0, Nat.zero_le _, rfl, rfl⟩
  case round =>
    obtain ⟨k, hk, rfl, rfl⟩ := hrel
    have hnn0 : ∀ x ∈ s, 0 ≤ x := fun x hx => by have := HS.out.2.2.1 x hx; omega
    have ht0 := Ph.total_nonneg (l := s.take k) fun x hx => hnn0 x (List.mem_of_mem_take hx)
    have ht1 := Ph.total_take_le hnn0 k
    clear hnn0
    by_cases hlt : k < n
    · obtain ⟨b, off, rfl, _, hc⟩ := H.out.at_ hlt
      have hx := HS.out.2.2.1 _ (Ph.getD_mem (l := s) (i := k) (by rw [HL.out]; exact hlt))
      simp only [List.getD_eq_getElem?_getD] at hx
      go_wp2_with fail
      go_round
      case rel => exact ⟨k + 1, by omega, by go_num, by rw [Ph.take_snoc s k (by rw [HL.out]; exact hlt), Ph.total_snoc, List.getD_eq_getElem?_getD]⟩
      case measure => simp [intOf]; omega
    · have hall : Hid (s.take k = s) := Lib.hid (List.take_of_length_le (by rw [HL.out]; omega))
      rw [hall.out]
      rw [hall.out] at ht0 ht1
      go_wp2_with fail
      go_ret2
      exact ⟨rfl, rfl⟩
end Go.Proofs.YtbllboajhdmnhaaDoor
