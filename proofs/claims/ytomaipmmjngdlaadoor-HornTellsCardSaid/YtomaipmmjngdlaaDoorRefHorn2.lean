/- The document's answers, walked (chapter 12): how many bits a row needs. -/
import Derived.Test.YtomaipmmjngdlaaDoorRefHorn
namespace Go.Proofs.YtomaipmmjngdlaaDoor
open Go.RowKit

/-- A sign's own bits are enough, and no fewer. -/
theorem need_step {F j : Nat} (h1 : 1 ≤ F) (h2 : F ≤ 256) (hj : j ≤ Ph.need F) : (F * 2 ^ j < 256 ↔ j < Ph.need F) ∧ F * 2 ^ j ≤ 65536 := by
  have hs := Ph.need_spec h1
  constructor
  · constructor
    · intro h
      rcases Nat.lt_or_ge j (Ph.need F) with q | q
      · exact q
      · obtain rfl : j = Ph.need F := by omega
        omega
    · intro h; exact hs.2 j h
  · rcases Nat.eq_zero_or_pos j with q | q
    · subst q; simp; omega
    · have := hs.2 (j - 1) (by omega)
      obtain ⟨i, rfl⟩ : ∃ i, j = i + 1 := ⟨j - 1, by omega⟩
      rw [Nat.pow_succ]
      simp only [Nat.add_sub_cancel] at this
      have e : F * (2 ^ i * 2) = F * 2 ^ i * 2 := by rw [Nat.mul_assoc]
      omega
theorem needs_le (f : List Int) : ∀ l : List Int, Ph.needs f l ≤ 8 * l.length
  | [] => by simp [Ph.needs]
  | s :: l => by
    have h1 := needs_le f l
    have h2 := Ph.need_le (Ph.sh f s.toNat)
    simp only [Ph.needs, List.length_cons]; omega
theorem needs_take (f l : List Int) (k : Nat) (hk : k < l.length) : Ph.needs f (l.take (k + 1)) = Ph.needs f (l.take k) + Ph.need (Ph.sh f (l.getD k 0).toNat) := by
  rw [Ph.take_snoc l k hk, Ph.needs_append]; simp [Ph.needs]
theorem hornErr_zero {f l : List Int} : hornErr f l = 0 ↔ Ph.sharesOk f ∧ l.length ≤ 60 ∧ ∀ s ∈ l, Ph.good f s := by
  unfold hornErr
  by_cases h0 : shErr f = 0
  · rw [if_neg (by omega)]
    have hs := shErr_zero.1 h0
    by_cases h1 : 60 < l.length
    · rw [if_pos h1]; constructor <;> intro h <;> omega
    · rw [if_neg h1, Ph.rowErr_zero]
      exact ⟨fun h => ⟨hs, by omega, h⟩, fun h => h.2.2⟩
  · rw [if_pos h0]; constructor
    · intro h; omega
    · intro h; exact absurd (shErr_zero.2 h.1) h0
set_option maxHeartbeats 1000000 in
theorem rneed_any (A1 : Option Addr) (n1 c1 : Nat) (f : List Int) (A2 : Option Addr) (n2 c2 : Nat) (l : List Int) (w : World) (B : Nat) (h1 : RdI w B A1 n1 f) (h2 : RdI w B A2 n2 l) (h0 : hornErr f l = 0) :
    Calls Tryd.prog 14 #[.slice A1 n1 c1, .slice A2 n2 c2] w fun e w' => e = .returned (.int .i64 (Ph.needs f l : Nat)) ∧ w = w' := by
  obtain ⟨hf, hl60, hgood⟩ := hornErr_zero.1 h0
  have HL1 := Lib.hid h1.len
  have HL2 := Lib.hid h2.len
  have hn60 : n2 ≤ 60 := by rw [← h2.len]; exact hl60
  have H1 := Lib.hid h1
  have H2 := Lib.hid h2
  have HF := Lib.hid hf
  have HGD := Lib.hid hgood
  clear h1 h2 h0 hf hl60 hgood
  go_enter Tryd.func14, Tryd.ntmps14
  go_wp2_with fail
  go_loop [5, 6, 7] (fun t i _ => ∃ k : Nat, k ≤ n2 ∧ i = .int .i64 k ∧ t = .int .i64 (Ph.needs f (l.take k) : Nat)) (fun _ i _ => n2 - (intOf i).toNat)
  case atStart => exact ⟨0, Nat.zero_le _, rfl, rfl⟩
  case round =>
    obtain ⟨k, hk, rfl, rfl⟩ := hrel
    by_cases hlt : k < n2
    · obtain ⟨b, off, rfl, _, hc⟩ := H2.out.at_ hlt
      have hkl : k < l.length := by rw [HL2.out]; exact hlt
      have hg := HGD.out _ (Ph.getD_mem (l := l) (i := k) hkl)
      have hgb := Ph.good_bd HF.out hg
      have HNT := Lib.hid (needs_take f l k hkl)
      have hnl := needs_le f (l.take k)
      have hlen : (l.take k).length ≤ 60 := by rw [List.length_take]; omega
      obtain ⟨x, hx⟩ : ∃ x, x = l.getD k 0 := ⟨_, rfl⟩
      rw [← hx] at hc hg hgb HNT
      obtain ⟨X, rfl⟩ := Int.eq_ofNat_of_zero_le hg.1
      rw [Int.toNat_natCast] at hgb HNT
      have hXf : X < f.length := by have := hg.2.1; omega
      have hXn : X < n1 := by rw [← HL1.out]; exact hXf
      obtain ⟨b1, o1, rfl, _, hc1⟩ := H1.out.at_ hXn
      have hfx : f.getD X 0 = (Ph.sh f X : Nat) := by unfold Ph.sh; have := (HF.out.2.2.1 _ (Ph.getD_mem hXf)).1; omega
      rw [hfx] at hc1
      have HST := Lib.hid fun j hj => need_step (F := Ph.sh f X) (j := j) hgb.1 hgb.2.1 hj
      have hne := Ph.need_le (Ph.sh f X)
      obtain ⟨F, hF⟩ : ∃ F, F = Ph.sh f X := ⟨_, rfl⟩
      obtain ⟨N, hN⟩ : ∃ N, N = Ph.need F := ⟨_, rfl⟩
      rw [← hF] at hc1 HST HNT hne
      rw [← hN] at HST HNT hne
      obtain ⟨T, hT⟩ : ∃ T, T = Ph.needs f (l.take k) := ⟨_, rfl⟩
      rw [← hT] at HNT hnl ⊢
      have hTb : T ≤ 480 := by omega
      have hlt' : (k : Int) < (n2 : Int) := by omega
      have hX0 : (0 : Int) ≤ (X : Int) := by omega
      have hX1 : (X : Int) < (n1 : Int) := by omega
      clear hx hg hgb hfx hF hN hT hkl hlen hnl hXf
      go_wp2_with fail
      go_loop [5, 7] (fun t s => ∃ j : Nat, j ≤ N ∧ t = .int .i64 ((T + j : Nat) : Int) ∧ s = .int .i64 ((F * 2 ^ j : Nat) : Int)) (fun t _ => T + N - (intOf t).toNat)
      case atStart => exact ⟨0, Nat.zero_le _, rfl, by simp⟩
      case round =>
        obtain ⟨j, hj, rfl, rfl⟩ := hrel
        have hst := HST.out j hj
        have hpw : F * 2 ^ (j + 1) = 2 * (F * 2 ^ j) := by rw [Nat.pow_succ, ← Nat.mul_assoc, Nat.mul_comm]
        have HPW := Lib.hid hpw
        obtain ⟨S, hS⟩ : ∃ S, S = F * 2 ^ j := ⟨_, rfl⟩
        rw [← hS] at hst HPW ⊢
        clear hS hpw
        by_cases hjN : j < N
        · have hs256 : (S : Int) < 256 := by have := hst.1.2 hjN; omega
          clear hst
          go_wp2_with fail
          go_round
          case rel => exact ⟨j + 1, by omega, by go_num, by rw [HPW.out]; go_num⟩
          case measure => simp [intOf]; omega
        · obtain rfl : j = N := by omega
          have hs256 : ¬ (S : Int) < 256 := by intro h; have := hst.1.1 (by omega); omega
          clear hst
          go_wp2_with fail
          go_round
          case rel => exact ⟨k + 1, by omega, by go_num, by rw [HNT.out]⟩
          case measure => simp [intOf]; omega
    · obtain rfl : k = n2 := by omega
      have hall : Hid (l.take k = l) := Lib.hid (List.take_of_length_le (by rw [HL2.out]; omega))
      rw [hall.out]
      go_wp2_with fail
      go_ret
      exact ⟨rfl, rfl⟩
end Go.Proofs.YtomaipmmjngdlaaDoor
