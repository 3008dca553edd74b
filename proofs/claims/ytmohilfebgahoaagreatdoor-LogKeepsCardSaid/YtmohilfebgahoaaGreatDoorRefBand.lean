/- The document's answers, walked (chapter 9): how many numbers bands have, and numbers cut. -/
import Derived.Test.YtmohilfebgahoaaGreatDoorJoin
namespace Go.Proofs.YtmohilfebgahoaaGreatDoor
open Go.RowKit

/-- How many numbers bands have, if they are right. -/
def bandN (s : List Int) : Int := if Ph.bandErr s = 0 then Ph.total s else 0
theorem bandErr_bad {s : List Int} {k : Nat} (h0 : s.length ≠ 0) (h8 : s.length ≤ 8) (hk : k < s.length) (hx : ¬ (1 ≤ s.getD k 0 ∧ s.getD k 0 ≤ 6)) : Ph.bandErr s = 1 := by
  unfold Ph.bandErr
  rw [if_neg h0, if_neg (by omega), if_neg]
  intro h
  rw [List.all_eq_true] at h
  have := h _ (Ph.getD_mem hk)
  simp at this
  exact hx (by simpa using this)
theorem bandErr_ok {s : List Int} (h0 : s.length ≠ 0) (h8 : s.length ≤ 8) (hx : ∀ k, k < s.length → 1 ≤ s.getD k 0 ∧ s.getD k 0 ≤ 6) : Ph.bandErr s = if 32 < Ph.total s then 4 else 0 := by
  unfold Ph.bandErr
  rw [if_neg h0, if_neg (by omega), if_pos]
  rw [List.all_eq_true]
  intro x hm
  obtain ⟨i, hi, rfl⟩ := List.mem_iff_getElem.1 hm
  have := hx i hi
  rw [List.getD_eq_getElem?_getD, List.getElem?_eq_getElem hi] at this
  simpa using this
set_option maxHeartbeats 1000000 in
theorem rbands_any (A : Option Addr) (n c : Nat) (s : List Int) (w : World) (B : Nat) (h : RdI w B A n s) (hn : n ≤ 100000000000000) :
    Calls Tryz.prog 33 #[.slice A n c] w fun e w' => e = .returned (.tuple #[.int .i64 (bandN s), .int .i64 (Ph.bandErr s)]) ∧ w = w' := by
  have hl := h.len
  by_cases hz : n = 0
  · have e : Ph.bandErr s = 5 := by unfold Ph.bandErr; rw [if_pos (by omega)]
    have e2 : bandN s = 0 := by unfold bandN; rw [e, if_neg (by omega)]
    rw [e, e2]
    subst hz
    clear hl e e2 h
    go_enter Tryz.func33, Tryz.ntmps33
    go_wp2_with fail
    go_ret2
    exact ⟨rfl, rfl⟩
  · have hnn : ((n : Int) == 0) = false := by simp; omega
    by_cases h8 : 8 < n
    · have e : Ph.bandErr s = 4 := by unfold Ph.bandErr; rw [if_neg (by omega), if_pos (by omega)]
      have e2 : bandN s = 0 := by unfold bandN; rw [e, if_neg (by omega)]
      rw [e, e2]
      clear hl e e2 h
      go_enter Tryz.func33, Tryz.ntmps33
      go_wp2_with fail
      go_ret2
      exact ⟨rfl, rfl⟩
    · have HB := Lib.hid fun k (hk : k < n) hx => bandErr_bad (s := s) (k := k) (by omega) (by omega) (by omega) hx
      have HK := Lib.hid fun hx => bandErr_ok (s := s) (by omega) (by omega) hx
      have HN : Hid (bandN s = if Ph.bandErr s = 0 then Ph.total s else 0) := Lib.hid rfl
      have H := Lib.hid h
      have HL := Lib.hid hl
      obtain ⟨E, hE⟩ : ∃ E, E = Ph.bandErr s := ⟨_, rfl⟩
      obtain ⟨N, hN⟩ : ∃ N, N = bandN s := ⟨_, rfl⟩
      rw [← hE] at HB HK HN ⊢
      rw [← hN] at HN ⊢
      clear hE hN hl h hz
      go_enter Tryz.func33, Tryz.ntmps33
      go_wp2_with fail
      go_loop [4, 5] (fun t i => ∃ k : Nat, k ≤ n ∧ i = .int .i64 k ∧ t = .int .i64 (Ph.total (s.take k)) ∧ Hid (∀ j, j < k → 1 ≤ s.getD j 0 ∧ s.getD j 0 ≤ 6) ∧ (0 ≤ Ph.total (s.take k) ∧ Ph.total (s.take k) ≤ 6 * k)) (fun _ i => n - (intOf i).toNat)
      case atStart => exact ⟨0, Nat.zero_le _, rfl, rfl, Lib.hid fun j hj => absurd hj (by omega), by simp [Ph.total]⟩
      case round =>
        obtain ⟨k, hk, rfl, rfl, HJ, htb⟩ := hrel
        by_cases hlt : k < n
        · obtain ⟨b, off, rfl, _, hc⟩ := H.out.at_ hlt
          have hts : Hid (Ph.total (s.take (k + 1)) = Ph.total (s.take k) + s.getD k 0) := Lib.hid (by rw [Ph.take_snoc s k (by rw [HL.out]; exact hlt), Ph.total_snoc])
          have hbad := HB.out k hlt
          have hext : 1 ≤ s.getD k 0 ∧ s.getD k 0 ≤ 6 → ∀ j, j < k + 1 → 1 ≤ s.getD j 0 ∧ s.getD j 0 ≤ 6 := fun hx j hj => by
            by_cases e : j < k
            · exact HJ.out j e
            · obtain rfl : j = k := by omega
              exact hx
          have HXT := Lib.hid hext
          obtain ⟨x, hx⟩ : ∃ x, x = s.getD k 0 := ⟨_, rfl⟩
          rw [← hx] at hc hts hbad HXT
          obtain ⟨T, hT⟩ : ∃ T, T = Ph.total (s.take k) := ⟨_, rfl⟩
          rw [← hT] at hts htb ⊢
          clear hx hT hext
          have hlt' : (k : Int) < (n : Int) := by omega
          by_cases hx1 : x < 1
          · have hE1 : E = 1 := hbad (by omega)
            have hN0 : N = 0 := by rw [HN.out, hE1, if_neg (by omega)]
            subst hE1
            subst hN0
            clear hbad
            go_wp2_with fail
            go_ret2
            exact ⟨rfl, rfl⟩
          · by_cases hx6 : 6 < x
            · have hE1 : E = 1 := hbad (by omega)
              have hN0 : N = 0 := by rw [HN.out, hE1, if_neg (by omega)]
              subst hE1
              subst hN0
              clear hbad
              go_wp2_with fail
              go_ret2
              exact ⟨rfl, rfl⟩
            · have HT2 := Lib.hid hts
              have HJ2 := Lib.hid (HXT.out (by omega))
              have hxb : 1 ≤ x ∧ x ≤ 6 := by omega
              clear hbad hts
              go_wp2_with fail
              go_round
              case rel => exact ⟨k + 1, by omega, by go_num, by rw [HT2.out.out], HJ2, by rw [HT2.out.out]; omega⟩
              case measure => simp [intOf]; omega
        · obtain rfl : k = n := by omega
          have hall : Hid (s.take k = s) := Lib.hid (List.take_of_length_le (by rw [HL.out]; omega))
          have hE := HK.out fun j hj => HJ.out j (by rw [HL.out] at hj; exact hj)
          have hN := HN.out
          rw [hall.out] at htb ⊢
          obtain ⟨T, hT⟩ : ∃ T, T = Ph.total s := ⟨_, rfl⟩
          rw [← hT] at hE hN htb ⊢
          clear hT hlt
          by_cases h32 : 32 < T
          · rw [if_pos h32] at hE
            rw [hE, if_neg (by omega)] at hN
            subst hE
            subst hN
            go_wp2_with fail
            go_ret2
            exact ⟨rfl, rfl⟩
          · rw [if_neg h32] at hE
            rw [hE, if_pos rfl] at hN
            subst hE
            subst hN
            go_wp2_with fail
            go_ret2
            exact ⟨rfl, rfl⟩
end Go.Proofs.YtmohilfebgahoaaGreatDoor
