/- Walks: over the edges (chapter 4). -/
import Derived.Test.YtgadgpkhkncnnaaSound2
import Derived.Outline
namespace Go.Proofs.Ytgadgpkhkncnnaa
open Go.RowKit

theorem lapcheck_any (A : Option Addr) (n c : Nat) (l : List Int) (m : Int) (w : World) (B : Nat) (h : RdI w B A n l) (hB : B ≤ w.heap.size) (hn : n ≤ 100000000000000) (hm : 0 ≤ m ∧ m ≤ 1000000) :
    Calls Try.prog 58 #[.slice A n c, .int .i64 m] w fun e w' => e = .returned (errV (Ph.lapErr l m)) ∧ Below w.heap.size w w' := by
  have hl := h.len
  have H := Lib.hid h
  clear h
  by_cases h32 : 32 < n
  · have e : Ph.lapErr l m = 4 := by unfold Ph.lapErr; rw [if_pos (by omega)]
    rw [e, errV_ne (by omega)]
    clear hl e
    go_enter Try.func58, Try.ntmps58
    go_wp2
    go_ret
    exact ⟨rfl, Below.refl _ _⟩
  · by_cases h2 : n % 2 = 0
    · have hp : ((n : Int) % 2 != 0) = false := by simp; omega
      cases ha : Ph.allIn l m
      · have e : Ph.lapErr l m = 1 := by unfold Ph.lapErr; rw [if_neg (by omega), if_neg (by omega), if_neg (by simp [ha])]
        rw [e, errV_ne (by omega)]
        clear hl e
        go_enter Try.func58, Try.ntmps58
        go_wp2_with (go_at_call 55; refine (all_any A n c l _ B H.out hB m hn hm).mono ?_; rintro e w1 ⟨rfl, hb1⟩)
        go_ret
        exact ⟨rfl, hb1⟩
      · have e : Ph.lapErr l m = 0 := by unfold Ph.lapErr; rw [if_neg (by omega), if_neg (by omega), if_pos ha]
        rw [e, errV_zero]
        clear hl e
        go_enter Try.func58, Try.ntmps58
        go_wp2_with (go_at_call 55; refine (all_any A n c l _ B H.out hB m hn hm).mono ?_; rintro e w1 ⟨rfl, hb1⟩)
        go_ret
        exact ⟨rfl, hb1⟩
    · have hp : ((n : Int) % 2 != 0) = true := by simp; omega
      have e : Ph.lapErr l m = 3 := by unfold Ph.lapErr; rw [if_neg (by omega), if_pos (by omega)]
      rw [e, errV_ne (by omega)]
      clear hl e h2
      go_enter Try.func58, Try.ntmps58
      go_wp2
      go_ret
      exact ⟨rfl, Below.refl _ _⟩
theorem halve_any (n : Int) (w : World) : Calls Try.prog 101 #[.int .i64 n] w fun e w' => e = .returned (.int .i64 (n / 2)) ∧ w' = w := by
  go_enter Try.func101, Try.ntmps101
  go_wp2
  go_ret
  exact ⟨rfl, rfl⟩
/-- The guess of an odd one: half of the even ones beside it. -/
theorem guess_any (A : Option Addr) (n c i : Nat) (l : List Int) (w : World) (B : Nat) (h : RdI w B A n l) (hi : i < n) (hn : n ≤ 32) (hb : ∀ j, -10000 ≤ l.getD j 0 ∧ l.getD j 0 ≤ 10000) :
    Calls Try.prog 59 #[.slice A n c, .int .i64 i] w fun e w' => e = .returned (.int .i64 ((l.getD i 0 + l.getD (Ph.nxt n i) 0) / 2)) ∧ ∃ q, w' = w.drewN q := by
  have b1 := hb i
  have b2 := hb (Ph.nxt n i)
  obtain ⟨b, off, rfl, _, hc1⟩ := h.at_ hi
  obtain ⟨b', off', hA, _, hc2⟩ := h.at_ (k := Ph.nxt n i) (Ph.nxt_lt hi)
  obtain ⟨rfl, rfl⟩ : b = b' ∧ off = off' := by simpa using hA
  clear h hb hA
  have i0 : (0 : Int) ≤ (i : Int) := by omega
  have i1 : (i : Int) < (n : Int) := by omega
  have i2 : (n : Int) ≤ 32 := by omega
  by_cases hlt : i + 1 < n
  · have e : Ph.nxt n i = i + 1 := by unfold Ph.nxt; rw [if_pos hlt]
    rw [e] at hc2 b2 ⊢
    simp only [List.getD_eq_getElem?_getD] at b1 b2
    clear e
    have k1 : (i : Int) + 1 < (n : Int) := by omega
    have k2 : ¬ ((n : Int) - 1 < (i : Int) + 1) := by omega
    have k4 : (0 : Int) ≤ (i : Int) + 1 := by omega
    have k5 : IntKind.i64.wrap ((i : Int) + 1) = (i : Int) + 1 := IntWalk.i64_in _ (by omega)
    have k6 : IntKind.i64.wrap ((n : Int) - 1) = (n : Int) - 1 := IntWalk.i64_in _ (by omega)
    have k7 : ((i : Int) + 1).toNat = i + 1 := by omega
    have k8 : IntKind.i64.wrap (l[i]?.getD 0 + l[i + 1]?.getD 0) = l[i]?.getD 0 + l[i + 1]?.getD 0 := IntWalk.i64_in _ (by omega)
    go_enter Try.func59, Try.ntmps59
    go_wp2_with fail
    go_quiet ((go_at_call 101; exact Calls.quiet_of_same (halve_any _ _)))
    go_wp2
    go_ret
    exact ⟨rfl, _, rfl⟩
  · have e : Ph.nxt n i = n - 1 := by unfold Ph.nxt; rw [if_neg hlt]
    rw [e] at hc2 b2 ⊢
    simp only [List.getD_eq_getElem?_getD] at b1 b2
    clear e
    have k2 : ((n : Int) - 1 < (i : Int) + 1) := by omega
    have k3 : (0 : Int) ≤ (n : Int) - 1 := by omega
    have k1 : (n : Int) - 1 < (n : Int) := by omega
    have k5 : IntKind.i64.wrap ((i : Int) + 1) = (i : Int) + 1 := IntWalk.i64_in _ (by omega)
    have k6 : IntKind.i64.wrap ((n : Int) - 1) = (n : Int) - 1 := IntWalk.i64_in _ (by omega)
    have k7 : ((n : Int) - 1).toNat = n - 1 := by omega
    have k8 : IntKind.i64.wrap (l[i]?.getD 0 + l[n - 1]?.getD 0) = l[i]?.getD 0 + l[n - 1]?.getD 0 := IntWalk.i64_in _ (by omega)
    go_enter Try.func59, Try.ntmps59
    go_wp2_with fail
    go_quiet ((go_at_call 101; exact Calls.quiet_of_same (halve_any _ _)))
    go_wp2
    go_ret
    exact ⟨rfl, _, rfl⟩
theorem lift_any (A : Option Addr) (n c i : Nat) (l : List Int) (w : World) (B : Nat) (h : RdI w B A n l) (hi : i < n) (hn : n ≤ 32) (hb : ∀ j, -10000 ≤ l.getD j 0 ∧ l.getD j 0 ≤ 10000) :
    Calls Try.prog 60 #[.slice A n c, .int .i64 i] w fun e w' => e = .returned (.int .i64 ((l.getD (i - 1) 0 + l.getD i 0 + 2) / 4)) ∧ ∃ q, w' = w.drewN q := by
  have b1 := hb i
  have b2 := hb (i - 1)
  obtain ⟨b, off, rfl, _, hc1⟩ := h.at_ hi
  obtain ⟨b', off', hA, _, hc2⟩ := h.at_ (k := i - 1) (by omega)
  obtain ⟨rfl, rfl⟩ : b = b' ∧ off = off' := by simpa using hA
  clear h hb hA
  have i0 : (0 : Int) ≤ (i : Int) := by omega
  have i1 : (i : Int) < (n : Int) := by omega
  have i2 : (n : Int) ≤ 32 := by omega
  simp only [List.getD_eq_getElem?_getD] at b1 b2
  by_cases h2 : 2 ≤ i
  · have k1 : (0 : Int) < (i : Int) - 1 := by omega
    have k2 : (i : Int) - 1 < (n : Int) := by omega
    have k3 : (0 : Int) ≤ (i : Int) - 1 := by omega
    have k6 : IntKind.i64.wrap ((i : Int) - 1) = (i : Int) - 1 := IntWalk.i64_in _ (by omega)
    have k7 : ((i : Int) - 1).toNat = i - 1 := by omega
    have k8 : IntKind.i64.wrap (l[i - 1]?.getD 0 + l[i]?.getD 0) = l[i - 1]?.getD 0 + l[i]?.getD 0 := IntWalk.i64_in _ (by omega)
    have k9 : IntKind.i64.wrap (l[i - 1]?.getD 0 + l[i]?.getD 0 + 2) = l[i - 1]?.getD 0 + l[i]?.getD 0 + 2 := IntWalk.i64_in _ (by omega)
    go_enter Try.func60, Try.ntmps60
    go_wp2_with fail
    go_quiet (fail)
    go_wp2
    go_ret
    exact ⟨rfl, _, rfl⟩
  · have h3 : i = 0 ∨ i = 1 := by omega
    rcases h3 with rfl | rfl
    · have k8 : IntKind.i64.wrap (l[0]?.getD 0 + l[0]?.getD 0) = l[0]?.getD 0 + l[0]?.getD 0 := IntWalk.i64_in _ (by omega)
      have k9 : IntKind.i64.wrap (l[0]?.getD 0 + l[0]?.getD 0 + 2) = l[0]?.getD 0 + l[0]?.getD 0 + 2 := IntWalk.i64_in _ (by omega)
      simp only [Nat.add_zero] at hc1
      clear hc2
      go_enter Try.func60, Try.ntmps60
      go_wp2_with fail
      go_quiet (fail)
      go_wp2
      go_ret
      exact ⟨rfl, _, rfl⟩
    · simp only [Nat.add_zero, Nat.sub_self] at hc2 b2
      have k8 : IntKind.i64.wrap (l[0]?.getD 0 + l[1]?.getD 0) = l[0]?.getD 0 + l[1]?.getD 0 := IntWalk.i64_in _ (by omega)
      have k9 : IntKind.i64.wrap (l[0]?.getD 0 + l[1]?.getD 0 + 2) = l[0]?.getD 0 + l[1]?.getD 0 + 2 := IntWalk.i64_in _ (by omega)
      go_enter Try.func60, Try.ntmps60
      go_wp2_with fail
      go_quiet (fail)
      go_wp2
      go_ret
      exact ⟨rfl, _, rfl⟩
end Go.Proofs.Ytgadgpkhkncnnaa
