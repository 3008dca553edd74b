/- The walk of the law WidthNone. -/
import Derived.Test.YtfnbehjebmbbdaaDoorTold
import Derived.Test.YtfnbehjebmbbdaaDoorWidth
import Derived.Test.YtfnbehjebmbbdaaDoorOpen
namespace Go.Proofs.YtfnbehjebmbbdaaDoor
open Go.RowKit

theorem bitsW_full : ∀ w : Nat, Ph.bitsW w (2 ^ w - 1) = List.replicate w 1
  | 0 => rfl
  | w + 1 => by
    have h0 := Nat.two_pow_pos w
    have h1 : (2 ^ (w + 1) - 1) / 2 ^ w = 1 := by
      rw [Nat.pow_succ]
      exact Nat.div_eq_of_lt_le (by omega) (by omega)
    have h2 : (2 ^ (w + 1) - 1) % 2 ^ w = 2 ^ w - 1 := by
      have h3 := Nat.div_add_mod (2 ^ (w + 1) - 1) (2 ^ w)
      rw [h1, Nat.pow_succ] at h3
      rw [Nat.pow_succ]; omega
    simp only [Ph.bitsW, h1]
    rw [← Ph.bitsW_mod w (2 ^ (w + 1) - 1), h2, bitsW_full w]
    rfl
theorem put_nought (n : Int) : Ph.putErr [n] [0] = if n = 0 then 0 else 1 := by
  unfold Ph.putErr
  rw [if_neg (by simp)]
  by_cases h : n = 0
  · subst h; rfl
  · rw [if_neg h, if_neg]
    simp [Ph.goes]; omega
theorem put_wide {w : Int} (h : w < 0 ∨ 20 < w) : Ph.putErr [0] [w] = 1 := by
  unfold Ph.putErr
  rw [if_neg (by simp), if_neg]
  simp [Ph.goes]; omega
theorem put_most (k : Nat) (hk : k ≤ 20) : Ph.putErr [(2 : Int) ^ k - 1] [(k : Int)] = 0 ∧ Ph.spread [(2 : Int) ^ k - 1] [(k : Int)] = List.replicate k 1 ∧ Ph.putErr [(2 : Int) ^ k] [(k : Int)] = 1 := by
  have h0 := Nat.two_pow_pos k
  have hs : Ph.spread [(2 : Int) ^ k - 1] [(k : Int)] = List.replicate k 1 := by
    have e : ((2 : Int) ^ k - 1).toNat = 2 ^ k - 1 := by
      have : ((2 : Int) ^ k) = ((2 ^ k : Nat) : Int) := by simp
      rw [this]; omega
    simp [Ph.spread, e, bitsW_full]
  refine ⟨?_, hs, ?_⟩
  · unfold Ph.putErr
    rw [if_neg (by simp), if_pos, if_neg]
    · rw [hs]; simp; omega
    · have : (1 : Int) ≤ 2 ^ k := by exact_mod_cast h0
      simp [Ph.goes]; omega
  · unfold Ph.putErr
    rw [if_neg (by simp), if_neg]
    simp [Ph.goes]
theorem rep_one (k i : Nat) (h : i < k) : (List.replicate k (1 : Int)).getD i 0 = 1 := by
  rw [List.getD_eq_getElem?_getD, List.getElem?_replicate, if_pos h]; rfl
set_option maxHeartbeats 1000000 in
theorem widthNone_walk (w : World) (n k : Int) (hg : Laid w) :
    Calls Tryd.prog 13 #[.int .i64 n, .int .i64 k] w fun e w' => e = .returned (.bool true) ∧ Below w.heap.size w w' := by
  have HG := Lib.hid hg
  have HP : Hid (∀ (W : World) (x y : Int), Calls Tryd.prog 52 #[.slice (some ⟨W.heap.size, 0, none⟩) 1 1, .slice (some ⟨W.heap.size + 1, 0, none⟩) 1 1] ((W.alloc (.cells #[.int .i64 x] 3)).alloc (.cells #[.int .i64 y] 3)) fun e w' =>
      (∃ A c, e = .returned (.tuple #[.slice A (got (Ph.putErr [x] [y]) (Ph.spread [x] [y])).length c, errV (Ph.putErr [x] [y])]) ∧ RdI w' w'.heap.size A (got (Ph.putErr [x] [y]) (Ph.spread [x] [y])).length (got (Ph.putErr [x] [y]) (Ph.spread [x] [y]))) ∧ Below W.heap.size W w') := Lib.hid fun W x y => by
    have h1 := (RdI.lit' W [x] 3 #[.int .i64 x] rfl).onAlloc (.cells #[.int .i64 y] 3)
    have h2 := RdI.litAt (W.alloc (.cells #[.int .i64 x] 3)) (W.heap.size + 1) (by simp) [y] 3 #[.int .i64 y] rfl
    refine (put_any _ _ 1 1 1 1 [x] [y] _ _ h1 h2 (Nat.le_refl _) (by omega) (by omega)).mono ?_
    rintro e w' ⟨A, c, rfl, ho, hb⟩
    exact ⟨⟨A, c, rfl, RdI.own ho⟩, ((below_alloc0 W _).alloc (by simp) _).trans (hb.mono (by simp; omega))⟩
  clear hg
  have H1 := Lib.hid fun W => HP.out W n 0
  rw [put_nought] at H1
  by_cases hk : 0 ≤ k ∧ k ≤ 20
  · obtain ⟨K, rfl⟩ := Int.eq_ofNat_of_zero_le hk.1
    have hK : K ≤ 20 := by omega
    have hm := put_most K hK
    have H2 := Lib.hid fun W => HP.out W ((2 : Int) ^ K - 1) K
    have H3 := Lib.hid fun W => HP.out W ((2 : Int) ^ K) K
    rw [hm.1, hm.2.1, got_zero] at H2
    rw [hm.2.2, got_ne (by omega), errV_ne (by omega)] at H3
    rw [errV_of rfl, List.length_replicate] at H2
    have HPB : Hid (∀ i : Nat, i ≤ K → 0 ≤ (2 : Int) ^ i ∧ (2 : Int) ^ i ≤ 2000000) := Lib.hid fun i hi => by
      have h1 := Nat.two_pow_pos i
      have h2 : 2 ^ i ≤ 2 ^ 20 := Nat.pow_le_pow_right (by omega) (by omega)
      have e : ((2 : Int) ^ i) = ((2 ^ i : Nat) : Int) := by simp
      rw [e]; omega
    have hk1 : (K : Int) ≤ 20 := by omega
    clear hm hk HP
    by_cases hn : n = 0
    · rw [if_pos hn, errV_of rfl, got_zero, show Ph.spread [n] [0] = [] from rfl] at H1
      subst hn
      go_enter Tryd.func13, Tryd.ntmps13
      go_wp2_with fail
      refine (H1.out _).mono ?_
      rintro e w1 ⟨⟨A1, c1, rfl, hr1⟩, hb1⟩
      have HB1 := Lib.hid hb1
      clear hb1
      clear hr1
      go_wp2_with fail
      go_loop [9, 10] (fun p i => ∃ j : Nat, j ≤ K ∧ i = .int .i64 j ∧ p = .int .i64 ((2 : Int) ^ j)) (fun _ i => K - (intOf i).toNat)
      case atStart => exact ⟨0, Nat.zero_le _, rfl, rfl⟩
      case round =>
        obtain ⟨j, hj, rfl, rfl⟩ := hrel
        have hpb := HPB.out j hj
        have hpe : Hid ((2 : Int) ^ (j + 1) = 2 * 2 ^ j) := Lib.hid (by rw [Int.pow_succ, Int.mul_comm])
        by_cases hlt : j < K
        · obtain ⟨P, hP⟩ : ∃ P : Int, P = 2 ^ j := ⟨_, rfl⟩
          rw [← hP] at hpb hpe ⊢
          clear hP
          go_wp2_with fail
          go_round
          case rel => exact ⟨j + 1, by omega, by go_num, by rw [hpe.out]⟩
          case measure => simp [intOf]; omega
        · obtain rfl : j = K := by omega
          obtain ⟨P, hP⟩ : ∃ P : Int, P = 2 ^ j := ⟨_, rfl⟩
          rw [← hP] at hpb H2 H3 ⊢
          clear hP hpe HPB
          go_wp2_with fail
          refine (H2.out _).mono ?_
          rintro e w2 ⟨⟨A2, c2, rfl, hr2⟩, hb2⟩
          have HB2 := Lib.hid (below_on HB1.out hb2)
          clear hb2
          have HR2 := Lib.hid hr2
          clear hr2
          go_wp2_with fail
          refine (H3.out _).mono ?_
          rintro e w3 ⟨⟨A3, c3, rfl, hr3⟩, hb3⟩
          have HR3 := Lib.hid (HR2.out.on hb3)
          have HB3 := Lib.hid (below_on HB2.out hb3)
          clear hb3
          clear hr3 HR2 H1 H2 H3
          go_wp2_with fail
          refine (herr_yes 1 _ (HG.out.below HB3.out) (by omega)).mono ?_
          rintro e w4 ⟨rfl, hb4⟩
          have HR4 := Lib.hid (HR3.out.on hb4)
          have HB4 := Lib.hid (below_on HB3.out hb4)
          clear hb4 HR3 HB3
          have hjj : ((j : Int) != (j : Int)) = false := by simp
          go_wp2_with fail
          go_loop [15] (fun i => ∃ q : Nat, q ≤ j ∧ i = .int .i64 q) (fun i => j - (intOf i).toNat)
          case atStart => exact ⟨0, Nat.zero_le _, rfl⟩
          case round =>
            obtain ⟨q, hq, rfl⟩ := hrel
            by_cases hlt2 : q < j
            · obtain ⟨b, off, rfl, _, hc⟩ := HR4.out.at_ hlt2
              rw [rep_one j q hlt2] at hc
              go_wp2_with fail
              go_round
              case rel => exact ⟨q + 1, by omega, by go_num⟩
              case measure => simp [intOf]; omega
            · go_wp2_with fail
              go_ret
              exact ⟨rfl, HB4.out⟩
    · rw [if_neg hn, errV_ne (by omega), got_ne (by omega)] at H1
      have hnb : (n == 0) = false := by simpa using hn
      have hnb2 : decide (n = 0) = false := by simpa using hn
      clear hn
      go_enter Tryd.func13, Tryd.ntmps13
      go_wp2_with fail
      refine (H1.out _).mono ?_
      rintro e w1 ⟨⟨A1, c1, rfl, hr1⟩, hb1⟩
      have HB1 := Lib.hid hb1
      clear hb1
      clear hr1
      go_wp2_with fail
      go_loop [9, 10] (fun p i => ∃ j : Nat, j ≤ K ∧ i = .int .i64 j ∧ p = .int .i64 ((2 : Int) ^ j)) (fun _ i => K - (intOf i).toNat)
      case atStart => exact ⟨0, Nat.zero_le _, rfl, rfl⟩
      case round =>
        obtain ⟨j, hj, rfl, rfl⟩ := hrel
        have hpb := HPB.out j hj
        have hpe : Hid ((2 : Int) ^ (j + 1) = 2 * 2 ^ j) := Lib.hid (by rw [Int.pow_succ, Int.mul_comm])
        by_cases hlt : j < K
        · obtain ⟨P, hP⟩ : ∃ P : Int, P = 2 ^ j := ⟨_, rfl⟩
          rw [← hP] at hpb hpe ⊢
          clear hP
          go_wp2_with fail
          go_round
          case rel => exact ⟨j + 1, by omega, by go_num, by rw [hpe.out]⟩
          case measure => simp [intOf]; omega
        · obtain rfl : j = K := by omega
          obtain ⟨P, hP⟩ : ∃ P : Int, P = 2 ^ j := ⟨_, rfl⟩
          rw [← hP] at hpb H2 H3 ⊢
          clear hP hpe HPB
          go_wp2_with fail
          refine (H2.out _).mono ?_
          rintro e w2 ⟨⟨A2, c2, rfl, hr2⟩, hb2⟩
          have HB2 := Lib.hid (below_on HB1.out hb2)
          clear hb2
          have HR2 := Lib.hid hr2
          clear hr2
          go_wp2_with fail
          refine (H3.out _).mono ?_
          rintro e w3 ⟨⟨A3, c3, rfl, hr3⟩, hb3⟩
          have HR3 := Lib.hid (HR2.out.on hb3)
          have HB3 := Lib.hid (below_on HB2.out hb3)
          clear hb3
          clear hr3 HR2 H1 H2 H3
          go_wp2_with fail
          refine (herr_yes 1 _ (HG.out.below HB3.out) (by omega)).mono ?_
          rintro e w4 ⟨rfl, hb4⟩
          have HR4 := Lib.hid (HR3.out.on hb4)
          have HB4 := Lib.hid (below_on HB3.out hb4)
          clear hb4 HR3 HB3
          have hjj : ((j : Int) != (j : Int)) = false := by simp
          go_wp2_with fail
          go_loop [15] (fun i => ∃ q : Nat, q ≤ j ∧ i = .int .i64 q) (fun i => j - (intOf i).toNat)
          case atStart => exact ⟨0, Nat.zero_le _, rfl⟩
          case round =>
            obtain ⟨q, hq, rfl⟩ := hrel
            by_cases hlt2 : q < j
            · obtain ⟨b, off, rfl, _, hc⟩ := HR4.out.at_ hlt2
              rw [rep_one j q hlt2] at hc
              go_wp2_with fail
              go_round
              case rel => exact ⟨q + 1, by omega, by go_num⟩
              case measure => simp [intOf]; omega
            · go_wp2_with fail
              go_ret
              exact ⟨rfl, HB4.out⟩
  · have hor : k < 0 ∨ (¬ k < 0 ∧ 20 < k) := by omega
    have H2 := Lib.hid fun W => HP.out W 0 k
    rw [put_wide (by omega), got_ne (by omega), errV_ne (by omega)] at H2
    clear hk HP
    by_cases hn : n = 0
    · rw [if_pos hn, errV_of rfl, got_zero, show Ph.spread [n] [0] = [] from rfl] at H1
      subst hn
      rcases hor with a1 | ⟨a1, a2⟩
      all_goals
        go_enter Tryd.func13, Tryd.ntmps13
        go_wp2_with fail
        refine (H1.out _).mono ?_
        rintro e w1 ⟨⟨A1, c1, rfl, hr1⟩, hb1⟩
        have HB1 := Lib.hid hb1
        clear hb1
        clear hr1
        go_wp2_with fail
        refine (H2.out _).mono ?_
        rintro e w2 ⟨⟨A2, c2, rfl, hr2⟩, hb2⟩
        have HB2 := Lib.hid (below_on HB1.out hb2)
        clear hb2
        clear hr2
        go_wp2_with fail
        refine (herr_yes 1 _ (HG.out.below HB2.out) (by omega)).mono ?_
        rintro e w3 ⟨rfl, hb3⟩
        have HB3 := Lib.hid (below_on HB2.out hb3)
        clear hb3
        go_wp2_with fail
        go_ret
        exact ⟨rfl, HB3.out⟩
    · rw [if_neg hn, errV_ne (by omega), got_ne (by omega)] at H1
      have hnb : (n == 0) = false := by simpa using hn
      clear hn
      rcases hor with a1 | ⟨a1, a2⟩
      all_goals
        go_enter Tryd.func13, Tryd.ntmps13
        go_wp2_with fail
        refine (H1.out _).mono ?_
        rintro e w1 ⟨⟨A1, c1, rfl, hr1⟩, hb1⟩
        have HB1 := Lib.hid hb1
        clear hb1
        clear hr1
        go_wp2_with fail
        refine (H2.out _).mono ?_
        rintro e w2 ⟨⟨A2, c2, rfl, hr2⟩, hb2⟩
        have HB2 := Lib.hid (below_on HB1.out hb2)
        clear hb2
        clear hr2
        go_wp2_with fail
        refine (herr_yes 1 _ (HG.out.below HB2.out) (by omega)).mono ?_
        rintro e w3 ⟨rfl, hb3⟩
        have HB3 := Lib.hid (below_on HB2.out hb3)
        clear hb3
        go_wp2_with fail
        go_ret
        exact ⟨rfl, HB3.out⟩
end Go.Proofs.YtfnbehjebmbbdaaDoor
