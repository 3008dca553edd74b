/- Walks: level by level (chapter 3): what is wrong. -/
import Derived.Test.YtbllboajhdmnhaaDoorSound2
import Derived.Test.YtbllboajhdmnhaaDoorPush
import Derived.Test.YtbllboajhdmnhaaDoorShelf
import Derived.Outline
namespace Go.Proofs.YtbllboajhdmnhaaDoor
open Go.RowKit

/-- What is wrong with numbers, and so many levels. -/
def treeErr (l : List Int) (levels bound : Int) : Int :=
  if 32 < l.length then 4 else if levels < 0 ∨ 5 < levels then 1 else if l.length % 2 ^ levels.toNat ≠ 0 then 3 else if Ph.allIn l bound = true then 0 else 1
theorem treeErr_zero {l : List Int} {levels bound : Int} : treeErr l levels bound = 0 ↔ l.length ≤ 32 ∧ 0 ≤ levels ∧ levels ≤ 5 ∧ l.length % 2 ^ levels.toNat = 0 ∧ Ph.allIn l bound = true := by
  unfold treeErr
  by_cases h1 : 32 < l.length
  · rw [if_pos h1]; constructor
    · intro h; omega
    · intro h; omega
  · rw [if_neg h1]
    by_cases h2 : levels < 0 ∨ 5 < levels
    · rw [if_pos h2]; constructor
      · intro h; omega
      · intro h; omega
    · rw [if_neg h2]
      by_cases h3 : l.length % 2 ^ levels.toNat ≠ 0
      · rw [if_pos h3]; constructor
        · intro h; omega
        · intro h; exact absurd h.2.2.2.1 h3
      · rw [if_neg h3]
        by_cases h4 : Ph.allIn l bound = true
        · rw [if_pos h4]; constructor
          · intro _; exact ⟨by omega, by omega, by omega, by omega, h4⟩
          · intro _; rfl
        · rw [if_neg h4]; constructor
          · intro h; omega
          · intro h; exact absurd h.2.2.2.2 h4
theorem tcheck_any (A : Option Addr) (n c : Nat) (l : List Int) (v m : Int) (w : World) (B : Nat) (h : RdI w B A n l) (hB : B ≤ w.heap.size) (hn : n ≤ 100000000000000) (hm : 0 ≤ m ∧ m ≤ 1000000) :
    Calls Tryd.prog 84 #[.slice A n c, .int .i64 v, .int .i64 m] w fun e w' => e = .returned (errV (treeErr l v m)) ∧ Below w.heap.size w w' := by
  have hl := h.len
  have H := Lib.hid h
  clear h
  by_cases h32 : 32 < n
  · have e : treeErr l v m = 4 := by unfold treeErr; rw [if_pos (by omega)]
    rw [e, errV_ne (by omega)]
    clear hl e
    go_enter Tryd.func84, Tryd.ntmps84
    go_wp2
    go_ret
    exact ⟨rfl, Below.refl _ _⟩
  · rcases Int.lt_or_le v 0 with h0 | h0
    · have e : treeErr l v m = 1 := by unfold treeErr; rw [if_neg (by omega), if_pos (by omega)]
      rw [e, errV_ne (by omega)]
      clear hl e
      go_enter Tryd.func84, Tryd.ntmps84
      go_wp2
      go_ret
      exact ⟨rfl, Below.refl _ _⟩
    · rcases Int.lt_or_le 5 v with h5 | h5
      · have e : treeErr l v m = 1 := by unfold treeErr; rw [if_neg (by omega), if_pos (by omega)]
        rw [e, errV_ne (by omega)]
        clear hl e
        go_enter Tryd.func84, Tryd.ntmps84
        go_wp2
        go_ret
        exact ⟨rfl, Below.refl _ _⟩
      · have hv : v = 0 ∨ v = 1 ∨ v = 2 ∨ v = 3 ∨ v = 4 ∨ v = 5 := by omega
        have e0 : treeErr l v m = if n % 2 ^ v.toNat ≠ 0 then 3 else if Ph.allIn l m = true then 0 else 1 := by unfold treeErr; rw [if_neg (by omega), if_neg (by omega), hl]
        rw [e0]
        clear e0 hl h0 h5
        have HC : Hid (∀ W, RdI W B A n l → B ≤ W.heap.size → Calls Tryd.prog 75 #[.slice A n c, .int .i64 m] W fun e w' => e = .returned (.bool (Ph.allIn l m)) ∧ Below W.heap.size W w') := Lib.hid fun W hW hBW => all_any A n c l W B hW hBW m hn hm
        rcases hv with rfl | rfl | rfl | rfl | rfl | rfl
        · simp only [Int.reduceToNat, Nat.reducePow]
          by_cases h2 : n % 1 = 0
          · have hp : ((n : Int) % 1 != 0) = false := by simp; try omega
            rw [if_neg (by omega)]
            obtain ⟨q, hq⟩ : ∃ q, q = Ph.allIn l m := ⟨_, rfl⟩
            rw [← hq] at HC ⊢
            clear h2 hq
            cases q
            all_goals
              go_enter Tryd.func84, Tryd.ntmps84
              go_wp2_with (go_at_call 75; refine (HC.out _ H.out hB).mono ?_; rintro e w1 ⟨rfl, hb1⟩)
              go_ret
              exact ⟨rfl, hb1⟩
          · exfalso; omega
        · simp only [Int.reduceToNat, Nat.reducePow]
          by_cases h2 : n % 2 = 0
          · have hp : ((n : Int) % 2 != 0) = false := by simp; try omega
            rw [if_neg (by omega)]
            obtain ⟨q, hq⟩ : ∃ q, q = Ph.allIn l m := ⟨_, rfl⟩
            rw [← hq] at HC ⊢
            clear h2 hq
            cases q
            all_goals
              go_enter Tryd.func84, Tryd.ntmps84
              go_wp2_with (go_at_call 75; refine (HC.out _ H.out hB).mono ?_; rintro e w1 ⟨rfl, hb1⟩)
              go_ret
              exact ⟨rfl, hb1⟩
          · have hp : ((n : Int) % 2 != 0) = true := by simp; omega
            rw [if_pos h2, errV_ne (by omega)]
            clear h2
            go_enter Tryd.func84, Tryd.ntmps84
            go_wp2_with fail
            go_ret
            exact ⟨rfl, Below.refl _ _⟩
        · simp only [Int.reduceToNat, Nat.reducePow]
          by_cases h2 : n % 4 = 0
          · have hp : ((n : Int) % 4 != 0) = false := by simp; try omega
            rw [if_neg (by omega)]
            obtain ⟨q, hq⟩ : ∃ q, q = Ph.allIn l m := ⟨_, rfl⟩
            rw [← hq] at HC ⊢
            clear h2 hq
            cases q
            all_goals
              go_enter Tryd.func84, Tryd.ntmps84
              go_wp2_with (go_at_call 75; refine (HC.out _ H.out hB).mono ?_; rintro e w1 ⟨rfl, hb1⟩)
              go_ret
              exact ⟨rfl, hb1⟩
          · have hp : ((n : Int) % 4 != 0) = true := by simp; omega
            rw [if_pos h2, errV_ne (by omega)]
            clear h2
            go_enter Tryd.func84, Tryd.ntmps84
            go_wp2_with fail
            go_ret
            exact ⟨rfl, Below.refl _ _⟩
        · simp only [Int.reduceToNat, Nat.reducePow]
          by_cases h2 : n % 8 = 0
          · have hp : ((n : Int) % 8 != 0) = false := by simp; try omega
            rw [if_neg (by omega)]
            obtain ⟨q, hq⟩ : ∃ q, q = Ph.allIn l m := ⟨_, rfl⟩
            rw [← hq] at HC ⊢
            clear h2 hq
            cases q
            all_goals
              go_enter Tryd.func84, Tryd.ntmps84
              go_wp2_with (go_at_call 75; refine (HC.out _ H.out hB).mono ?_; rintro e w1 ⟨rfl, hb1⟩)
              go_ret
              exact ⟨rfl, hb1⟩
          · have hp : ((n : Int) % 8 != 0) = true := by simp; omega
            rw [if_pos h2, errV_ne (by omega)]
            clear h2
            go_enter Tryd.func84, Tryd.ntmps84
            go_wp2_with fail
            go_ret
            exact ⟨rfl, Below.refl _ _⟩
        · simp only [Int.reduceToNat, Nat.reducePow]
          by_cases h2 : n % 16 = 0
          · have hp : ((n : Int) % 16 != 0) = false := by simp; try omega
            rw [if_neg (by omega)]
            obtain ⟨q, hq⟩ : ∃ q, q = Ph.allIn l m := ⟨_, rfl⟩
            rw [← hq] at HC ⊢
            clear h2 hq
            cases q
            all_goals
              go_enter Tryd.func84, Tryd.ntmps84
              go_wp2_with (go_at_call 75; refine (HC.out _ H.out hB).mono ?_; rintro e w1 ⟨rfl, hb1⟩)
              go_ret
              exact ⟨rfl, hb1⟩
          · have hp : ((n : Int) % 16 != 0) = true := by simp; omega
            rw [if_pos h2, errV_ne (by omega)]
            clear h2
            go_enter Tryd.func84, Tryd.ntmps84
            go_wp2_with fail
            go_ret
            exact ⟨rfl, Below.refl _ _⟩
        · simp only [Int.reduceToNat, Nat.reducePow]
          by_cases h2 : n % 32 = 0
          · have hp : ((n : Int) % 32 != 0) = false := by simp; try omega
            rw [if_neg (by omega)]
            obtain ⟨q, hq⟩ : ∃ q, q = Ph.allIn l m := ⟨_, rfl⟩
            rw [← hq] at HC ⊢
            clear h2 hq
            cases q
            all_goals
              go_enter Tryd.func84, Tryd.ntmps84
              go_wp2_with (go_at_call 75; refine (HC.out _ H.out hB).mono ?_; rintro e w1 ⟨rfl, hb1⟩)
              go_ret
              exact ⟨rfl, hb1⟩
          · have hp : ((n : Int) % 32 != 0) = true := by simp; omega
            rw [if_pos h2, errV_ne (by omega)]
            clear h2
            go_enter Tryd.func84, Tryd.ntmps84
            go_wp2_with fail
            go_ret
            exact ⟨rfl, Below.refl _ _⟩
end Go.Proofs.YtbllboajhdmnhaaDoor
