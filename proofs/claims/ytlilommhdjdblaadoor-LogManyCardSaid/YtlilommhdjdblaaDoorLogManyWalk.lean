/- The walk of the law LogMany. -/
import Derived.Test.YtlilommhdjdblaaDoorTold
import Derived.Test.YtlilommhdjdblaaDoorLog2
import Derived.Test.YtlilommhdjdblaaDoorOpen
namespace Go.Proofs.YtlilommhdjdblaaDoor
open Go.RowKit

theorem unp_zero : unpE (bytesOf ⟨#[0]⟩) [2] 0 = 0 := by decide +kernel
theorem new_two : newErr [2] 0 = 0 := by decide +kernel
/-- A log where so many were put, none of it stopped. -/
def ManyS (k : Nat) (S : LogS) : Prop := S.all.length = min k 20 ∧ S.left = -1 ∧ S.st = false ∧ 2 * S.all.length ≤ S.bytes.length ∧ S.bytes.length ≤ 1000 * S.all.length
theorem many_new : ManyS 0 newS := ⟨rfl, rfl, rfl, Nat.le_refl _, Nat.le_refl _⟩
theorem many_full {k : Nat} {S : LogS} (h : ManyS k S) (hk : 20 ≤ k) (b : ByteArray) : putE S 0 = 4 ∧ putS S 0 b = S ∧ ManyS (k + 1) S := by
  obtain ⟨h1, h2, h3, h4, h5⟩ := h
  refine ⟨?_, ?_, by rw [h1]; omega, h2, h3, h4, h5⟩
  · unfold putE; rw [if_neg (by rw [h3]; simp), if_pos (by omega)]
  · unfold putS; rw [if_pos (.inr (.inl (by omega)))]
theorem many_put {k : Nat} {S : LogS} (h : ManyS k S) (hk : k < 20) (b : ByteArray) (hb : b.size ≤ 50) : putE S 0 = 0 ∧ ManyS (k + 1) (putS S 0 b) := by
  obtain ⟨h1, h2, h3, h4, h5⟩ := h
  have e : putS S 0 b = { S with all := S.all ++ [b], bytes := S.bytes ++ recL (bytesOf b), left := max (-1) (S.left - 1), st := false } := by
    unfold putS
    rw [if_neg (by rintro (h | h | h); rw [h3] at h; cases h; omega; exact h rfl), if_neg (by omega)]
  have f1 := recL_few (bytesOf_lt b)
  have f2 := recL_two (bytesOf b)
  rw [bytesOf_length] at f1
  refine ⟨?_, ?_⟩
  · unfold putE; rw [if_neg (by rw [h3]; simp), if_neg (by omega), if_neg (by omega), if_neg (by omega)]
  · rw [e]
    refine ⟨by simp; omega, by simp only; rw [h2]; rfl, rfl, ?_, ?_⟩
    · simp only [List.length_append, List.length_singleton]; omega
    · simp only [List.length_append, List.length_singleton]; omega
set_option maxHeartbeats 4000000 in
set_option maxRecDepth 1000000 in
theorem logMany_walk (w : World) (n : Int) (hg : Laid w) (ht : Lib.TabIs Tryd.prog w "internal/strconv.uint64pow10" .u64 Lib.pow10Tab) :
    Calls Tryd.prog 6 #[.int .i64 n] w fun e w' => e = .returned (.bool true) ∧ Below w.heap.size w w' := by
  have HG := Lib.hid hg
  have HT := Lib.hid ht
  obtain ⟨W1, hW1⟩ : ∃ W1, W1 = w.alloc (.cells #[.int .i64 2] 3) := ⟨_, rfl⟩
  have hr1 : RdI W1 W1.heap.size (some ⟨w.heap.size, 0, none⟩) 1 [2] := by rw [hW1]; exact RdI.lit' w [2] 3 #[.int .i64 2] rfl
  have HB1 : Hid (Below w.heap.size w W1) := Lib.hid (by rw [hW1]; exact below_alloc0 _ _)
  have HNW := Lib.hid (lnew_ok (some ⟨w.heap.size, 0, none⟩) 1 1 [2] 0 W1 W1.heap.size hr1 (Nat.le_refl _) new_two (by omega))
  have HW1 := Lib.hid hW1
  clear hg ht hr1 hW1
  by_cases hn : 0 ≤ n ∧ n ≤ 30
  · obtain ⟨N, rfl⟩ := Int.eq_ofNat_of_zero_le hn.1
    have hN : N ≤ 30 := by omega
    have hn1 : ¬ (N : Int) < 0 := by omega
    have hn2 : ¬ (30 : Int) < (N : Int) := by omega
    clear hn
    go_enter Tryd.func6, Tryd.ntmps6
    go_wp2_with fail
    rw [← HW1.out]
    refine HNW.out.mono ?_
    rintro e w2 ⟨X, As, cs, rfl, hl, hb⟩
    have HL2 : Hid (∃ Aa na ca S, LogAt w2 W1.heap.size X As 1 cs [2] 0 Aa na ca S ∧ ManyS 0 S) := Lib.hid ⟨_, _, _, _, hl, many_new⟩
    have HB2 := Lib.hid (below_on HB1.out hb)
    have HBS := Lib.hid HB1.out.size
    clear hl hb HNW
    go_wp2_with fail
    go_loopw [5, 6] (fun i _ wr => ∃ k : Nat, k ≤ N ∧ i = .int .i64 k ∧ Hid (∃ Aa na ca S, LogAt wr W1.heap.size X As 1 cs [2] 0 Aa na ca S ∧ ManyS k S) ∧ Hid (Below w.heap.size w wr) ∧ Hid (W1.heap.size ≤ wr.heap.size)) (fun i _ _ => N - (intOf i).toNat)
    case atStart => exact ⟨0, Nat.zero_le _, rfl, HL2, HB2, Lib.hid (by have := HL2.out; obtain ⟨_, _, _, _, h, _⟩ := this; exact Nat.le_trans h.1 (Nat.le_of_lt h.lt))⟩
    case round =>
      obtain ⟨k, hk, rfl, HL, HBW, HSZ⟩ := hrel
      obtain ⟨Aa, na, ca, S, hl, hm⟩ := HL.out
      have HLA := Lib.hid hl
      have HM := Lib.hid hm
      by_cases hlt : k < N
      · have hlt' : (k : Int) < (N : Int) := by omega
        have hpt := lput_any wr W1.heap.size X As 1 cs [2] 0 Aa na ca S ⟨#[0]⟩ hl HSZ.out (by rw [hm.2.1]; omega) (by decide) (by omega) (by have := hm.2.2.2.2; have := hm.1; omega) (tab_on HT.out HBW.out)
        rw [unp_zero] at hpt
        by_cases h20 : k < 20
        · obtain ⟨p1, p2⟩ := many_put hm h20 ⟨#[0]⟩ (by decide)
          rw [p1] at hpt
          have HP := Lib.hid hpt
          have HM2 := Lib.hid p2
          have h20' : (k : Int) < 20 := by omega
          clear hpt p1 p2 hl hm
          go_wp2_with fail
          refine HP.out.mono ?_
          rintro e w3 ⟨A', n', c', rfl, hl3, hk3⟩
          rw [errV_zero]
          have HL3 : Hid (∃ Aa na ca S, LogAt w3 W1.heap.size X As 1 cs [2] 0 Aa na ca S ∧ ManyS (k + 1) S) := Lib.hid ⟨_, _, _, _, hl3, HM2.out⟩
          have HB3 := Lib.hid (HBW.out.trans (HLA.out.belowL hk3 HBS.out HBW.out.size))
          have HS3 := Lib.hid (Nat.le_trans HSZ.out hk3.size)
          clear hl3 hk3 HP
          go_wp2_with fail
          go_roundw
          case rel => exact ⟨k + 1, by omega, by go_num, HL3, HB3, HS3⟩
          case measure => simp [intOf]; omega
        · obtain ⟨p1, p2, p3⟩ := many_full hm (by omega) ⟨#[0]⟩
          rw [p1, p2] at hpt
          have HP := Lib.hid hpt
          have HM2 := Lib.hid p3
          have h20' : ¬ (k : Int) < 20 := by omega
          have he4 := errV_ne (show (4 : Int) ≠ 0 by omega)
          have HE4 := Lib.hid fun W hW => herr_yes 4 W hW (by omega)
          rw [he4] at HE4
          clear hpt p1 p2 p3 hl hm he4
          go_wp2_with fail
          refine HP.out.mono ?_
          rintro e w3 ⟨A', n', c', he, hl3, hk3⟩
          rw [errV_ne (by omega)] at he
          subst he
          have HL3 := Lib.hid hl3
          have HB3 := Lib.hid (HBW.out.trans (HLA.out.belowL hk3 HBS.out HBW.out.size))
          have HS3 := Lib.hid (Nat.le_trans HSZ.out hk3.size)
          clear hl3 hk3 HP
          go_wp2_with fail
          refine (HE4.out _ (HG.out.below HB3.out)).mono ?_
          rintro e w4 ⟨rfl, hb4⟩
          have HL4 : Hid (∃ Aa na ca S, LogAt w4 W1.heap.size X As 1 cs [2] 0 Aa na ca S ∧ ManyS (k + 1) S) := Lib.hid ⟨_, _, _, _, HL3.out.below' hb4, HM2.out⟩
          have HB4 := Lib.hid (below_on HB3.out hb4)
          have HS4 := Lib.hid (Nat.le_trans HS3.out hb4.size)
          clear hb4
          go_wp2_with fail
          go_roundw
          case rel => exact ⟨k + 1, by omega, by go_num, HL4, HB4, HS4⟩
          case measure => simp [intOf]; omega
      · obtain rfl : k = N := by omega
        have hla := lall_any wr W1.heap.size X As 1 cs [2] 0 Aa na ca S hl (by have := hl.len; have := hm.1; omega)
        have hna : na = min k 20 := hl.len.symm.trans hm.1
        have HLA2 := Lib.hid hla
        have HLB := Lib.hid fun W hW => lbytes_any W W1.heap.size X As 1 cs [2] 0 Aa na ca S hW
        have hbl : 2 * na ≤ S.bytes.length := by have := hm.2.2.2.1; have := hl.len; omega
        obtain ⟨B, hB⟩ : ∃ B, B = S.bytes.length := ⟨_, rfl⟩
        rw [← hB] at HLB hbl
        have hbb : 2 * (na : Int) ≤ (B : Int) := by omega
        have hw2 : IntKind.i64.wrap (2 * (na : Int)) = 2 * (na : Int) := IntWalk.i64_in _ (by omega)
        by_cases h20 : 20 < k
        · obtain rfl : na = 20 := by omega
          have h20' : (20 : Int) < (k : Int) := by omega
          clear hla hna hl hm hB hbl
          go_wp2_with fail
          refine HLA2.out.mono ?_
          rintro e w3 ⟨A', c', rfl, _, hb3⟩
          have HL3 := Lib.hid (HLA.out.below' hb3)
          have HB3 := Lib.hid (below_on HBW.out hb3)
          clear hb3
          go_wp2_with fail
          refine (HLB.out _ HL3.out).mono ?_
          rintro e w4 ⟨rfl, rfl⟩
          go_wp2_with fail
          go_ret
          exact ⟨ret_true (by first | (simp; done) | (simp; omega)), HB3.out⟩
        · obtain rfl : na = k := by omega
          have h20' : ¬ (20 : Int) < (na : Int) := by omega
          clear hla hna hl hm hB hbl
          go_wp2_with fail
          refine HLA2.out.mono ?_
          rintro e w3 ⟨A', c', rfl, _, hb3⟩
          have HL3 := Lib.hid (HLA.out.below' hb3)
          have HB3 := Lib.hid (below_on HBW.out hb3)
          clear hb3
          go_wp2_with fail
          refine (HLB.out _ HL3.out).mono ?_
          rintro e w4 ⟨rfl, rfl⟩
          go_wp2_with fail
          go_ret
          exact ⟨ret_true (by first | (simp; done) | (simp; omega)), HB3.out⟩
  · have hcs : n < 0 ∨ (¬ n < 0 ∧ 30 < n) := by omega
    rcases hcs with h0 | ⟨h0, h3⟩
    all_goals
      clear hn
      go_enter Tryd.func6, Tryd.ntmps6
      go_wp2_with fail
      rw [← HW1.out]
      refine HNW.out.mono ?_
      rintro e w2 ⟨X, As, cs, rfl, _, hb⟩
      have HB2 := Lib.hid (below_on HB1.out hb)
      clear hb HNW
      go_wp2_with fail
      go_ret
      exact ⟨rfl, HB2.out⟩
end Go.Proofs.YtlilommhdjdblaaDoor
