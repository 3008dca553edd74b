/- Walks: over the edges (chapter 4). -/
import Derived.Test.YtmohilfebgahoaaGreatDoorSound
import Derived.Test.YtmohilfebgahoaaGreatDoorMem
import Derived.Outline
import Derived.StillTailTactics
namespace Go.Proofs.YtmohilfebgahoaaGreatDoor
open Go.RowKit

theorem lapcheck_any (A : Option Addr) (n c : Nat) (l : List Int) (m : Int) (w : World) (B : Nat) (h : RdI w B A n l) (hB : B ≤ w.heap.size) (hn : n ≤ 100000000000000) (hm : 0 ≤ m ∧ m ≤ 1000000) :
    Calls Tryz.prog 84 #[.slice A n c, .int .i64 m] w fun e w' => e = .returned (errV (Ph.lapErr l m)) ∧ Below w.heap.size w w' := by
  have hl := h.len
  have H := Lib.hid h
  clear h
  by_cases h32 : 32 < n
  · have e : Ph.lapErr l m = 4 := by unfold Ph.lapErr; rw [if_pos (by omega)]
    rw [e, errV_ne (by omega)]
    clear hl e
    go_enter Tryz.func84, Tryz.ntmps84
    go_wp2
    go_ret
    exact ⟨rfl, Below.refl _ _⟩
  · by_cases h2 : n % 2 = 0
    · have hp : ((n : Int) % 2 != 0) = false := by simp; omega
      cases ha : Ph.allIn l m
      · have e : Ph.lapErr l m = 1 := by unfold Ph.lapErr; rw [if_neg (by omega), if_neg (by omega), if_neg (by simp [ha])]
        rw [e, errV_ne (by omega)]
        clear hl e
        go_enter Tryz.func84, Tryz.ntmps84
        go_wp2_with (go_at_call 116; refine (all_any A n c l _ B H.out hB m hn hm).mono ?_; rintro e w1 ⟨rfl, hb1⟩)
        go_ret
        exact ⟨rfl, hb1⟩
      · have e : Ph.lapErr l m = 0 := by unfold Ph.lapErr; rw [if_neg (by omega), if_neg (by omega), if_pos ha]
        rw [e, errV_zero]
        clear hl e
        go_enter Tryz.func84, Tryz.ntmps84
        go_wp2_with (go_at_call 116; refine (all_any A n c l _ B H.out hB m hn hm).mono ?_; rintro e w1 ⟨rfl, hb1⟩)
        go_ret
        exact ⟨rfl, hb1⟩
    · have hp : ((n : Int) % 2 != 0) = true := by simp; omega
      have e : Ph.lapErr l m = 3 := by unfold Ph.lapErr; rw [if_neg (by omega), if_pos (by omega)]
      rw [e, errV_ne (by omega)]
      clear hl e h2
      go_enter Tryz.func84, Tryz.ntmps84
      go_wp2
      go_ret
      exact ⟨rfl, Below.refl _ _⟩
theorem halve_any (n : Int) (w : World) : Calls Tryz.prog 118 #[.int .i64 n] w fun e w' => e = .returned (.int .i64 (n / 2)) ∧ w' = w := by
  go_enter Tryz.func118, Tryz.ntmps118
  go_wp2
  go_ret
  exact ⟨rfl, rfl⟩
/-- The guess of an odd one: half of the even ones beside it. -/
theorem guess_any (A : Option Addr) (n c i : Nat) (l : List Int) (w : World) (B : Nat) (h : RdI w B A n l) (hi : i < n) (hn : n ≤ 32) (hb : ∀ j, -10000 ≤ l.getD j 0 ∧ l.getD j 0 ≤ 10000) :
    Calls Tryz.prog 85 #[.slice A n c, .int .i64 i] w fun e w' => e = .returned (.int .i64 ((l.getD i 0 + l.getD (Ph.nxt n i) 0) / 2)) ∧ ∃ q, w' = w.drewN q := by
  have b1 := hb i
  have b2 := hb (Ph.nxt n i)
  obtain ⟨b, off, rfl, _, hc1⟩ := h.at_ hi
  obtain ⟨b', off', hA, _, hc2⟩ := h.at_ (k := Ph.nxt n i) (Ph.nxt_lt hi)
  obtain ⟨rfl, rfl⟩ : b = b' ∧ off = off' := by simpa using hA
  clear h hb hA
  have i0 : (0 : Int) ≤ (i : Int) := by omega
  have i1 : (i : Int) < (n : Int) := by omega
  have i2 : (n : Int) ≤ 32 := by omega
  by_cases hlt : i + 1 < n
  · have e : Ph.nxt n i = i + 1 := by unfold Ph.nxt; rw [if_pos hlt]
    rw [e] at hc2 b2 ⊢
    simp only [List.getD_eq_getElem?_getD] at b1 b2
    clear e
    have k1 : (i : Int) + 1 < (n : Int) := by omega
    have k2 : ¬ ((n : Int) - 1 < (i : Int) + 1) := by omega
    have k4 : (0 : Int) ≤ (i : Int) + 1 := by omega
    have k5 : IntKind.i64.wrap ((i : Int) + 1) = (i : Int) + 1 := IntWalk.i64_in _ (by omega)
    have k6 : IntKind.i64.wrap ((n : Int) - 1) = (n : Int) - 1 := IntWalk.i64_in _ (by omega)
    have k7 : ((i : Int) + 1).toNat = i + 1 := by omega
    have k8 : IntKind.i64.wrap (l[i]?.getD 0 + l[i + 1]?.getD 0) = l[i]?.getD 0 + l[i + 1]?.getD 0 := IntWalk.i64_in _ (by omega)
    go_enter Tryz.func85, Tryz.ntmps85
    go_wp2_with fail
    go_quiet ((go_at_call 118; exact Calls.quiet_of_same (halve_any _ _)))
    go_wp2
    go_ret
    exact ⟨rfl, _, rfl⟩
  · have e : Ph.nxt n i = n - 1 := by unfold Ph.nxt; rw [if_neg hlt]
    rw [e] at hc2 b2 ⊢
    simp only [List.getD_eq_getElem?_getD] at b1 b2
    clear e
    have k2 : ((n : Int) - 1 < (i : Int) + 1) := by omega
    have k3 : (0 : Int) ≤ (n : Int) - 1 := by omega
    have k1 : (n : Int) - 1 < (n : Int) := by omega
    have k5 : IntKind.i64.wrap ((i : Int) + 1) = (i : Int) + 1 := IntWalk.i64_in _ (by omega)
    have k6 : IntKind.i64.wrap ((n : Int) - 1) = (n : Int) - 1 := IntWalk.i64_in _ (by omega)
    have k7 : ((n : Int) - 1).toNat = n - 1 := by omega
    have k8 : IntKind.i64.wrap (l[i]?.getD 0 + l[n - 1]?.getD 0) = l[i]?.getD 0 + l[n - 1]?.getD 0 := IntWalk.i64_in _ (by omega)
    go_enter Tryz.func85, Tryz.ntmps85
    go_wp2_with fail
    go_quiet ((go_at_call 118; exact Calls.quiet_of_same (halve_any _ _)))
    go_wp2
    go_ret
    exact ⟨rfl, _, rfl⟩
theorem lift_any (A : Option Addr) (n c i : Nat) (l : List Int) (w : World) (B : Nat) (h : RdI w B A n l) (hi : i < n) (hn : n ≤ 32) (hb : ∀ j, -10000 ≤ l.getD j 0 ∧ l.getD j 0 ≤ 10000) :
    Calls Tryz.prog 86 #[.slice A n c, .int .i64 i] w fun e w' => e = .returned (.int .i64 ((l.getD (i - 1) 0 + l.getD i 0 + 2) / 4)) ∧ ∃ q, w' = w.drewN q := by
  have b1 := hb i
  have b2 := hb (i - 1)
  obtain ⟨b, off, rfl, _, hc1⟩ := h.at_ hi
  obtain ⟨b', off', hA, _, hc2⟩ := h.at_ (k := i - 1) (by omega)
  obtain ⟨rfl, rfl⟩ : b = b' ∧ off = off' := by simpa using hA
  clear h hb hA
  have i0 : (0 : Int) ≤ (i : Int) := by omega
  have i1 : (i : Int) < (n : Int) := by omega
  have i2 : (n : Int) ≤ 32 := by omega
  simp only [List.getD_eq_getElem?_getD] at b1 b2
  by_cases h2 : 2 ≤ i
  · have k1 : (0 : Int) < (i : Int) - 1 := by omega
    have k2 : (i : Int) - 1 < (n : Int) := by omega
    have k3 : (0 : Int) ≤ (i : Int) - 1 := by omega
    have k6 : IntKind.i64.wrap ((i : Int) - 1) = (i : Int) - 1 := IntWalk.i64_in _ (by omega)
    have k7 : ((i : Int) - 1).toNat = i - 1 := by omega
    have k8 : IntKind.i64.wrap (l[i - 1]?.getD 0 + l[i]?.getD 0) = l[i - 1]?.getD 0 + l[i]?.getD 0 := IntWalk.i64_in _ (by omega)
    have k9 : IntKind.i64.wrap (l[i - 1]?.getD 0 + l[i]?.getD 0 + 2) = l[i - 1]?.getD 0 + l[i]?.getD 0 + 2 := IntWalk.i64_in _ (by omega)
    go_enter Tryz.func86, Tryz.ntmps86
    go_wp2_with fail
    go_quiet (fail)
    go_wp2
    go_ret
    exact ⟨rfl, _, rfl⟩
  · have h3 : i = 0 ∨ i = 1 := by omega
    rcases h3 with rfl | rfl
    · have k8 : IntKind.i64.wrap (l[0]?.getD 0 + l[0]?.getD 0) = l[0]?.getD 0 + l[0]?.getD 0 := IntWalk.i64_in _ (by omega)
      have k9 : IntKind.i64.wrap (l[0]?.getD 0 + l[0]?.getD 0 + 2) = l[0]?.getD 0 + l[0]?.getD 0 + 2 := IntWalk.i64_in _ (by omega)
      simp only [Nat.add_zero] at hc1
      clear hc2
      go_enter Tryz.func86, Tryz.ntmps86
      go_wp2_with fail
      go_quiet (fail)
      go_wp2
      go_ret
      exact ⟨rfl, _, rfl⟩
    · simp only [Nat.add_zero, Nat.sub_self] at hc2 b2
      have k8 : IntKind.i64.wrap (l[0]?.getD 0 + l[1]?.getD 0) = l[0]?.getD 0 + l[1]?.getD 0 := IntWalk.i64_in _ (by omega)
      have k9 : IntKind.i64.wrap (l[0]?.getD 0 + l[1]?.getD 0 + 2) = l[0]?.getD 0 + l[1]?.getD 0 + 2 := IntWalk.i64_in _ (by omega)
      go_enter Tryz.func86, Tryz.ntmps86
      go_wp2_with fail
      go_quiet (fail)
      go_wp2
      go_ret
      exact ⟨rfl, _, rfl⟩
end Go.Proofs.YtmohilfebgahoaaGreatDoor
/- Walks: over the edges, forward and back (chapter 4). -/
namespace Go.Proofs.YtmohilfebgahoaaGreatDoor
open Go.RowKit

theorem lapF_no (A : Option Addr) (n c : Nat) (l : List Int) (w : World) (B : Nat) (h : RdI w B A n l) (hB : B ≤ w.heap.size) (hn : n ≤ 100000000000000) (h0 : Ph.lapErr l 1000 ≠ 0) :
    Calls Tryz.prog 46 #[.slice A n c] w fun e w' => e = .returned (.tuple #[.slice none 0 0, errV (Ph.lapErr l 1000)]) ∧ Below w.heap.size w w' := by
  have he := errV_ne h0
  have H := Lib.hid h
  clear h h0
  go_enter Tryz.func46, Tryz.ntmps46
  go_wp2_with (go_at_call 84; refine (lapcheck_any A n c l 1000 _ B H.out hB hn (by omega)).mono ?_; rintro e w1 ⟨rfl, hb1⟩)
  go_ret2
  exact ⟨ret_two rfl he.symm, hb1⟩
theorem lapI_no (A : Option Addr) (n c : Nat) (l : List Int) (w : World) (B : Nat) (h : RdI w B A n l) (hB : B ≤ w.heap.size) (hn : n ≤ 100000000000000) (h0 : Ph.lapErr l 4000 ≠ 0) :
    Calls Tryz.prog 62 #[.slice A n c] w fun e w' => e = .returned (.tuple #[.slice none 0 0, errV (Ph.lapErr l 4000)]) ∧ Below w.heap.size w w' := by
  have he := errV_ne h0
  have H := Lib.hid h
  clear h h0
  go_enter Tryz.func62, Tryz.ntmps62
  go_wp2_with (go_at_call 84; refine (lapcheck_any A n c l 4000 _ B H.out hB hn (by omega)).mono ?_; rintro e w1 ⟨rfl, hb1⟩)
  go_ret2
  exact ⟨ret_two rfl he.symm, hb1⟩
theorem evb {l : List Int} (h : ∀ q, -1000 ≤ l.getD q 0 ∧ l.getD q 0 ≤ 1000) (k j : Nat) : -10000 ≤ ((List.range k).map (Ph.ev l)).getD j 0 ∧ ((List.range k).map (Ph.ev l)).getD j 0 ≤ 10000 := by
  by_cases hj : j < k
  · rw [Ph.getD_map_range _ _ _ hj]
    have := h (2 * j)
    unfold Ph.ev
    omega
  · rw [List.getD_eq_getElem?_getD, List.getElem?_eq_none (by simp; omega)]
    simp
theorem difb {l : List Int} (h : ∀ q, -1000 ≤ l.getD q 0 ∧ l.getD q 0 ≤ 1000) (k j : Nat) : -10000 ≤ ((List.range k).map (Ph.dif l k)).getD j 0 ∧ ((List.range k).map (Ph.dif l k)).getD j 0 ≤ 10000 := by
  by_cases hj : j < k
  · rw [Ph.getD_map_range _ _ _ hj]
    have h1 := h (2 * j + 1)
    have h2 := h (2 * j)
    have h3 := h (2 * Ph.nxt k j)
    unfold Ph.dif Ph.ev
    omega
  · rw [List.getD_eq_getElem?_getD, List.getElem?_eq_none (by simp; omega)]
    simp
theorem set_turn (f g : Nat → Int) {q m : Nat} : ((List.range m).map (fun i => if i < q then f i else g i)).set q (f q) = (List.range m).map (fun i => if i < q + 1 then f i else g i) := by
  apply List.ext_getElem?
  intro j
  rw [List.getElem?_set]
  by_cases hj : j < m
  · simp only [List.getElem?_map, List.getElem?_range hj, Option.map_some, List.length_map, List.length_range]
    by_cases h1 : q = j
    · subst h1
      rw [if_pos rfl, if_pos hj, if_pos (by omega)]
    · rw [if_neg h1]
      by_cases h2 : j < q
      · rw [if_pos h2, if_pos (by omega)]
      · rw [if_neg h2, if_neg (by omega)]
  · have h0 : ∀ h : Nat → Int, ((List.range m).map h)[j]? = none := fun h => List.getElem?_eq_none (by simp; omega)
    rw [h0, h0]
    by_cases h1 : q = j
    · rw [if_pos h1, if_neg (by simp; omega)]
    · rw [if_neg h1]
theorem turn_all (f g : Nat → Int) {m : Nat} : (List.range m).map (fun i => if i < m then f i else g i) = (List.range m).map f := by
  apply List.map_congr_left
  intro i hi
  rw [if_pos (List.mem_range.1 hi)]
set_option maxRecDepth 100000 in
theorem lapF_ok (A : Option Addr) (n c : Nat) (l : List Int) (w : World) (B : Nat) (h : RdI w B A n l) (hB : B ≤ w.heap.size) (h0 : Ph.lapErr l 1000 = 0) :
    Calls Tryz.prog 46 #[.slice A n c] w (FreshI 3 (Ph.lapF l) w) := by
  have he := errV_of h0
  have hs := Ph.lapErr_zero.1 h0
  have HL := Lib.hid h.len
  have HA := Lib.hid hs.2.2
  have hn : n ≤ 32 := by have := h.len; omega
  have hp : n % 2 = 0 := by have := h.len; omega
  have H := Lib.hid h
  clear h h0 hs
  obtain ⟨i0, hi, hz0, hz1, hz2⟩ := info_parts int_info
  go_enter Tryz.func46, Tryz.ntmps46
  go_wp2_with (go_at_call 84; refine (lapcheck_any A n c l 1000 _ B H.out hB (by omega) (by omega)).mono ?_; rintro e w1 ⟨rfl, hb1⟩)
  have hsz := hb1.size
  have H1 := Lib.hid ((H.out.below (hb1.mono hB)).more (B' := w1.heap.size) (by omega))
  clear he
  go_loopw [5, 7] (fun v i wr => ∃ (k j : Nat) (A5 : Option Addr) (c5 : Nat), j = 2 * k ∧ j ≤ n ∧ i = .int .i64 j ∧ v = .slice A5 k c5 ∧ wr.ownsRow w1.heap.size 3 1 (.slice A5 k c5) k (ivals ((List.range k).map (Ph.ev l))) ∧ Below w1.heap.size w1 wr) (fun _ i _ => n - (intOf i).toNat)
  case atStart => exact ⟨0, 0, none, 0, rfl, by omega, rfl, rfl, own_nil _ _ _, Below.refl _ _⟩
  case round =>
    obtain ⟨k, j, A5, c5, hjk, hj, rfl, rfl, hown, hbw⟩ := hrel
    have HJ := Lib.hid hjk
    have hk2 : 2 * k ≤ j := by omega
    clear hjk
    by_cases hlt : j < n
    · obtain ⟨b, off, rfl, _, hc⟩ := (H1.out.below hbw).at_ hlt
      have HO := Lib.hid hown
      have HBW := Lib.hid hbw
      clear hown hbw
      go_wp2_with (at_builtin; refine wpList_push _ (by rfl) _ _ (by rfl) w1 w1.heap.size A5 k c5 _ (l[j]?.getD 0) HO.out HBW.out (by have := HBW.out.size; omega) (by omega) (by rfl) (by rfl) ?_; intro g cap w2 ho2 hb2)
      have HO2 := Lib.hid ho2
      have HB2 := Lib.hid hb2
      clear ho2 hb2
      go_wp2
      go_roundw
      case rel =>
        refine ⟨k + 1, j + 2, some ⟨g, 0, none⟩, cap, by have := HJ.out; omega, by have := HJ.out; omega, by go_num, rfl, ?_, HB2.out⟩
        have := HO2.out
        rw [List.range_succ, List.map_append]
        have e : Ph.ev l k = l[j]?.getD 0 := by unfold Ph.ev; rw [← HJ.out, List.getD_eq_getElem?_getD]
        simp only [List.map_cons, List.map_nil, e]
        exact this
      case measure => simp [intOf]; omega
    · have hjn : j = n := by omega
      have hkn : n = 2 * k := by have := HJ.out; omega
      have HK := Lib.hid hkn
      clear hlt HJ hk2 hkn
      subst hjn
      have HO := Lib.hid hown
      have HBW := Lib.hid hbw
      clear hown hbw
      go_wp2
      rename World => wa
      have hE : Hid (RdI wa wa.heap.size A5 k ((List.range k).map (Ph.ev l))) := Lib.hid (Rd.own HO.out)
      have hL : Hid (RdI wa w1.heap.size A j l) := Lib.hid (H1.out.below HBW.out)
      have hk16 : k ≤ 16 := by have := HK.out; omega
      have hbnd : Hid (∀ q, -1000 ≤ l.getD q 0 ∧ l.getD q 0 ≤ 1000) := Lib.hid (Ph.allIn_getD HA.out (by omega))
      go_loopw [6, 30] (fun v i wr2 => ∃ (m : Nat) (A6 : Option Addr) (c6 : Nat), m ≤ k ∧ i = .int .i64 m ∧ v = .slice A6 m c6 ∧ wr2.ownsRow wa.heap.size 3 1 (.slice A6 m c6) m (ivals ((List.range m).map (Ph.dif l k))) ∧ Below wa.heap.size wa wr2) (fun _ i _ => k - (intOf i).toNat)
      case atStart => exact ⟨0, none, 0, by omega, rfl, rfl, own_nil _ _ _, Below.refl _ _⟩
      case round =>
        obtain ⟨m, A6, c6, hm, rfl, rfl, hown2, hbw2⟩ := hrel
        have HO2 := Lib.hid hown2
        have HB2 := Lib.hid hbw2
        clear hown2 hbw2
        by_cases hlt : m < k
        · obtain ⟨b, off, rfl, hbw3, hc3⟩ := hL.out.at_ (k := 2 * m + 1) (by have := HK.out; omega)
          have hc : wr.cell? ⟨b, off + (2 * m + 1), none⟩ = some (.int .i64 (l.getD (2 * m + 1) 0)) := (HB2.out.cell (by have := HBW.out.size; show b < _; omega)).trans hc3
          replace hbw3 : Hid (b < wa.heap.size) := Lib.hid (by have := HBW.out.size; omega)
          have hcw := Lib.hid hc3
          rw [List.getD_eq_getElem?_getD] at hc hcw
          clear hc3
          have k1 : (0 : Int) ≤ 2 * (m : Int) + 1 := by omega
          have k2 : 2 * (m : Int) + 1 < (j : Int) := by have := HK.out; omega
          have k3 : IntKind.i64.wrap (2 * (m : Int)) = 2 * (m : Int) := IntWalk.i64_in _ (by omega)
          have k4 : IntKind.i64.wrap (2 * (m : Int) + 1) = 2 * (m : Int) + 1 := IntWalk.i64_in _ (by omega)
          have k5 : (2 * (m : Int) + 1).toNat = 2 * m + 1 := by omega
          have hd1 : ((List.range k).map (Ph.ev l)).getD m 0 = Ph.ev l m := Ph.getD_map_range _ _ _ hlt
          have hd2 : ((List.range k).map (Ph.ev l)).getD (Ph.nxt k m) 0 = Ph.ev l (Ph.nxt k m) := Ph.getD_map_range _ _ _ (Ph.nxt_lt hlt)
          have HG : ∀ w0, RdI w0 wa.heap.size A5 k ((List.range k).map (Ph.ev l)) → Calls Tryz.prog 85 #[.slice A5 k c5, .int .i64 m] w0 fun e w' => e = .returned (.int .i64 ((Ph.ev l m + Ph.ev l (Ph.nxt k m)) / 2)) ∧ ∃ q, w' = w0.drewN q := by
            intro w0 h0
            have := guess_any A5 k c5 m _ w0 wa.heap.size h0 hlt (by omega) (evb hbnd.out k)
            rwa [hd1, hd2] at this
          have b1 := hbnd.out (2 * m + 1)
          have b2 := hbnd.out (2 * m)
          have b3 := hbnd.out (2 * Ph.nxt k m)
          rw [List.getD_eq_getElem?_getD] at b1
          obtain ⟨G, hG, hG1, hG2⟩ : ∃ G, G = (Ph.ev l m + Ph.ev l (Ph.nxt k m)) / 2 ∧ -1000 ≤ G ∧ G ≤ 1000 := ⟨_, rfl, by unfold Ph.ev; omega, by unfold Ph.ev; omega⟩
          rw [← hG] at HG
          have HGh := Lib.hid HG
          have k6 : IntKind.i64.wrap (l[2 * m + 1]?.getD 0 - G) = l[2 * m + 1]?.getD 0 - G := IntWalk.i64_in _ (by omega)
          have hGh := Lib.hid hG
          clear HG hG hd1 hd2 b2 b3 b1
          go_wp2
          go_region_held3 (fun w' => w'.cell? ⟨b, off + (2 * m + 1), none⟩ = some (.int .i64 (l[2 * m + 1]?.getD 0))) (first | go_keep | exact (hb4.cell hbw3.out).trans hcw.out) (first | (go_at_call 85; refine (HGh.out _ (RdI.drew (hE.out.below HB2.out))).mono ?_; rintro e w3 ⟨rfl, q, rfl⟩) | (refine step_push _ (by rfl) _ _ (by rfl) wa wa.heap.size A6 m c6 ((List.range m).map (Ph.dif l k)) (l[2 * m + 1]?.getD 0 - G) wr.heap.size (by exact HO2.out.alloc (.cells #[.int .i64 (l[2 * m + 1]?.getD 0 - G)] 3)) (below_same (HB2.out.alloc HB2.out.size (.cells #[.int .i64 (l[2 * m + 1]?.getD 0 - G)] 3)) (by rfl) (by rfl) (by rfl) (by rfl)) (by have := HB2.out.size; simp; omega) (by exact cell_of_alloc wr _ 3) (by omega) (by rfl) (by rfl) ?_; intro g cap w4 ho4 hb4))
          have HO4 := Lib.hid ho4
          have HB4 := Lib.hid hb4
          clear ho4 hb4 hc k1 k2 k3 k4 k5 k6 hG1 hG2
          go_wp2
          go_roundw
          case rel =>
            refine ⟨m + 1, some ⟨g, 0, none⟩, cap, by omega, by go_num, rfl, ?_, HB4.out⟩
            have := HO4.out
            rw [List.range_succ, List.map_append]
            have e : Ph.dif l k m = l[2 * m + 1]?.getD 0 - G := by unfold Ph.dif; rw [hGh.out, List.getD_eq_getElem?_getD]
            simp only [List.map_cons, List.map_nil, e]
            exact this
          case measure => simp [intOf]; omega
        · have hmk : m = k := by omega
          subst hmk
          clear hlt
          have hO5 : Hid (wr.ownsRow w1.heap.size 3 1 (.slice A5 m c5) m (ivals ((List.range m).map (Ph.ev l)))) := Lib.hid (own_below' HO.out HB2.out)
          have hg5 : Hid (∀ g, A5 = some ⟨g, 0, none⟩ → g < wa.heap.size) := Lib.hid fun g hg => (HO.out.lt g (by rw [hg]; rfl)).2
          have hB5 : Hid (Below w1.heap.size w1 wr) := Lib.hid (HBW.out.trans (HB2.out.mono HBW.out.size))
          rename World => wb
          go_wp2
          go_loopw [49] (fun i wr => ∃ (q : Nat), q ≤ m ∧ i = .int .i64 q ∧ wr.ownsRow w1.heap.size 3 1 (.slice A5 m c5) m (ivals ((List.range m).map (fun i => if i < q then Ph.stay l m i else Ph.ev l i))) ∧ wr.ownsRow wa.heap.size 3 1 (.slice A6 m c6) m (ivals ((List.range m).map (Ph.dif l m))) ∧ Below w1.heap.size w1 wr) (fun i _ => m - (intOf i).toNat)
          case atStart => exact ⟨0, by omega, rfl, by simpa using hO5.out, HO2.out, hB5.out⟩
          case round =>
            obtain ⟨q, hq, rfl, hown3, hown4, hbw3⟩ := hrel
            have HO3 := Lib.hid hown3
            have HO4 := Lib.hid hown4
            have HB3 := Lib.hid hbw3
            clear hown3 hown4 hbw3
            by_cases hlt : q < m
            · obtain ⟨g5, rfl, hg5b, _⟩ := own_form HO3.out (by omega)
              have hc5 : wr.cell? ⟨g5, q, none⟩ = some (.int .i64 (Ph.ev l q)) := by
                rw [HO3.out.cellAt q (by omega), ivals_get (by simp; omega), Ph.getD_map_range _ _ _ hlt, if_neg (by omega)]
              have hf5 : wr.frozen? ⟨g5, q, none⟩ = false := HO3.out.frozenAt q
              have hg5' : Hid (g5 < wa.heap.size) := Lib.hid (hg5.out g5 rfl)
              have b0 := hbnd.out (2 * q)
              have bE : Hid (∀ j, -1000 ≤ Ph.ev l j ∧ Ph.ev l j ≤ 1000) := Lib.hid fun j => hbnd.out (2 * j)
              have bD : Hid (∀ j, -10000 ≤ ((List.range m).map (Ph.dif l m)).getD j 0 ∧ ((List.range m).map (Ph.dif l m)).getD j 0 ≤ 10000) := Lib.hid (difb hbnd.out m)
              have hd1 : ((List.range m).map (Ph.dif l m)).getD q 0 = Ph.dif l m q := Ph.getD_map_range _ _ _ hlt
              have hd2 : ((List.range m).map (Ph.dif l m)).getD (q - 1) 0 = Ph.dif l m (q - 1) := Ph.getD_map_range _ _ _ (by omega)
              obtain ⟨G, hG⟩ : ∃ G, G = (Ph.dif l m (q - 1) + Ph.dif l m q + 2) / 4 := ⟨_, rfl⟩
              have hGb : -6000 ≤ G ∧ G ≤ 6000 := by
                have h1 := bD.out q
                have h2 := bD.out (q - 1)
                rw [hd1] at h1
                rw [hd2] at h2
                omega
              have HG : Hid (∀ w0, RdI w0 wr.heap.size A6 m ((List.range m).map (Ph.dif l m)) → Calls Tryz.prog 86 #[.slice A6 m c6, .int .i64 q] w0 fun e w' => e = .returned (.int .i64 G) ∧ ∃ q, w' = w0.drewN q) := Lib.hid (by
                intro w0 h0
                have := lift_any A6 m c6 q _ w0 wr.heap.size h0 hlt (by omega) bD.out
                rw [hd1, hd2, ← hG] at this
                exact this)
              have hrd6 : Hid (RdI wr wr.heap.size A6 m ((List.range m).map (Ph.dif l m))) := Lib.hid (RdI.own HO4.out)
              have hGh := Lib.hid hG
              obtain ⟨e5, he5⟩ : ∃ e5, e5 = Ph.ev l q := ⟨_, rfl⟩
              have k1 : IntKind.i64.wrap (e5 + G) = e5 + G := IntWalk.i64_in _ (by have := bE.out q; omega)
              rw [← he5] at hc5
              have he5h := Lib.hid he5
              clear hG hGb hd1 hd2 b0 he5
              go_wp2
              go_region_with (go_at_call 86; refine (HG.out _ (RdI.drew hrd6.out)).mono ?_; rintro e w3 ⟨rfl, q3, rfl⟩)
              all_goals go_wp2
              all_goals go_roundw
              all_goals first
                | (simp [intOf]; omega)
                | (refine ⟨q + 1, by omega, by go_num, ?_, ?_, ?_⟩
                   · have := ((own_drewN HO3.out (1 + q3)).stored q (.int .i64 (e5 + G))).1
                     have hst : e5 + G = Ph.stay l m q := by unfold Ph.stay; rw [he5h.out, hGh.out]
                     rw [ivals_set, hst, set_turn (Ph.stay l m) (Ph.ev l), ← hst] at this
                     exact this
                   · exact own_setFar (own_drewN HO4.out _) (fun e => by have := HO4.out.lt _ e; have := hg5'.out; simp only [] at *; omega) _
                   · exact (below_same HB3.out rfl rfl rfl rfl : Below w1.heap.size w1 (wr.drewN (1 + q3))).setCell (p := ⟨g5, q, none⟩) hg5b _)
            · have hqm : q = m := by omega
              subst hqm
              have HE : Hid (wr.ownsRow w1.heap.size 3 1 (.slice A5 q c5) q (ivals ((List.range q).map (Ph.stay l q)))) := Lib.hid (by
                have := HO3.out
                rwa [turn_all (Ph.stay l q) (Ph.ev l)] at this)
              have hHK := HK.out
              go_wp2_with (at_builtin; refine wpList_join _ (by rfl) _ _ (by rfl) w1 w1.heap.size A5 q c5 _ A6 q c6 _ wr.heap.size HE.out HB3.out HB3.out.size (RdI.own HO4.out) (own_none HO4.out) (by omega) (by rfl) (by rfl) ?_; intro A9 c9 w9 ho9 hb9)
              have HO9 := Lib.hid ho9
              have HB9 := Lib.hid hb9
              clear ho9 hb9
              have hll : l.length = 2 * q := HL.out.trans HK.out
              have hlh : l.length / 2 = q := by omega
              have e9 : Ph.lapF l = (List.range q).map (Ph.stay l q) ++ (List.range q).map (Ph.dif l q) := by unfold Ph.lapF Ph.stays Ph.difs; rw [hlh]
              have n9 : (Ph.lapF l).length = q + q := by rw [e9]; simp
              go_ret2
              refine ⟨A9, c9, by rw [n9]; rfl, ?_, (hb1.trans (HB9.out.mono hsz))⟩
              rw [n9, e9]
              exact own_more HO9.out hsz
end Go.Proofs.YtmohilfebgahoaaGreatDoor
/- Walks: back over the edges (chapter 4). -/
namespace Go.Proofs.YtmohilfebgahoaaGreatDoor
open Go.RowKit

theorem drop_getD (l : List Int) (d j : Nat) : (l.drop d).getD j 0 = l.getD (d + j) 0 := by
  rw [List.getD_eq_getElem?_getD, List.getD_eq_getElem?_getD, List.getElem?_drop]
theorem evIb {l : List Int} {d : Nat} (h : ∀ j, -10000 ≤ Ph.evI l d j ∧ Ph.evI l d j ≤ 10000) (k j : Nat) : -10000 ≤ ((List.range k).map (Ph.evI l d)).getD j 0 ∧ ((List.range k).map (Ph.evI l d)).getD j 0 ≤ 10000 := by
  by_cases hj : j < k
  · rw [Ph.getD_map_range _ _ _ hj]
    exact h j
  · rw [List.getD_eq_getElem?_getD, List.getElem?_eq_none (by simp; omega)]
    simp
set_option maxRecDepth 100000 in
theorem lapI_ok (A : Option Addr) (n c : Nat) (l : List Int) (w : World) (B : Nat) (h : RdI w B A n l) (hB : B ≤ w.heap.size) (hnc : n ≤ c) (h0 : Ph.lapErr l 4000 = 0) :
    Calls Tryz.prog 62 #[.slice A n c] w (FreshI 3 (Ph.lapI l) w) := by
  have he := errV_of h0
  have hs := Ph.lapErr_zero.1 h0
  have HL := Lib.hid h.len
  have HA := Lib.hid hs.2.2
  have hn : n ≤ 32 := by have := h.len; omega
  have hp : n % 2 = 0 := by have := h.len; omega
  obtain ⟨d, hd⟩ : ∃ d, n = 2 * d := ⟨n / 2, by omega⟩
  subst hd
  have H := Lib.hid h
  clear h h0 hs
  have hbnd : Hid (∀ q, -4000 ≤ l.getD q 0 ∧ l.getD q 0 ≤ 4000) := Lib.hid (Ph.allIn_getD HA.out (by omega))
  have k1 : (2 * (d : Int)) / 2 = (d : Int) := by omega
  by_cases hcd : c = d
  · obtain rfl : d = 0 := by omega
    subst hcd
    have hl0 : l = [] := List.length_eq_zero_iff.1 HL.out
    subst hl0
    have e9 : FreshI 3 (Ph.lapI []) w = FreshI 3 [] w := rfl
    rw [e9]
    clear e9 hbnd k1
    simp only [Nat.mul_zero] at H
    show Calls Tryz.prog 62 #[.slice A 0 0] w _
    go_enter Tryz.func62, Tryz.ntmps62
    go_wp2_with (go_at_call 84; refine (lapcheck_any A 0 0 [] 4000 _ B H.out hB (by omega) (by omega)).mono ?_; rintro e w1 ⟨rfl, hb1⟩)
    refine wp_loop_rounds 1 ?_
    rw [rounds_succ]
    go_wp2
    refine wp_loop_rounds 1 ?_
    rw [rounds_succ]
    go_wp2
    go_ret2
    exact ⟨none, 0, rfl, own_nil _ _ _, hb1⟩
  ·
    go_enter Tryz.func62, Tryz.ntmps62
    go_wp2_with (go_at_call 84; refine (lapcheck_any A _ c l 4000 _ B H.out hB (by omega) (by omega)).mono ?_; rintro e w1 ⟨rfl, hb1⟩)
    have hsz := hb1.size
    have hL1 : Hid (RdI w1 w1.heap.size A (2 * d) l) := Lib.hid ((H.out.below (hb1.mono hB)).more (by omega))
    have hR0 := RdI.drop_if (k := d) (cap := c) hL1.out (by omega) (by omega)
    rw [if_neg hcd] at hR0
    have hdd : 2 * d - d = d := by omega
    rw [hdd] at hR0 ⊢
    generalize hA6 : Option.map (fun x => Addr.add x d) A = A6 at hR0 ⊢
    have hR := Lib.hid hR0
    clear hR0 hA6 hdd he
    have hbR : Hid (∀ j, -10000 ≤ (l.drop d).getD j 0 ∧ (l.drop d).getD j 0 ≤ 10000) := Lib.hid fun j => by
      rw [drop_getD]
      have := hbnd.out (d + j)
      omega
    have hevb : Hid (∀ j, -10000 ≤ Ph.evI l d j ∧ Ph.evI l d j ≤ 10000) := Lib.hid fun j => by
      have h1 := hbnd.out j
      have h2 := hbnd.out (d + (j - 1))
      have h3 := hbnd.out (d + j)
      unfold Ph.evI
      omega
    go_loopw [7, 28] (fun v i wr => ∃ (k : Nat) (A7 : Option Addr) (c7 : Nat), k ≤ d ∧ i = .int .i64 k ∧ v = .slice A7 k c7 ∧ wr.ownsRow w1.heap.size 3 1 (.slice A7 k c7) k (ivals ((List.range k).map (Ph.evI l d))) ∧ Below w1.heap.size w1 wr) (fun _ i _ => d - (intOf i).toNat)
    case atStart => exact ⟨0, none, 0, by omega, rfl, rfl, own_nil _ _ _, Below.refl _ _⟩
    case round =>
      obtain ⟨k, A7, c7, hk, rfl, rfl, hown, hbw⟩ := hrel
      have HO := Lib.hid hown
      have HBW := Lib.hid hbw
      clear hown hbw
      by_cases hlt : k < d
      · obtain ⟨b, off, rfl, _, hc⟩ := (hL1.out.below HBW.out).at_ (k := k) (by omega)
        obtain ⟨G, hG⟩ : ∃ G, G = (l.getD (d + (k - 1)) 0 + l.getD (d + k) 0 + 2) / 4 := ⟨_, rfl⟩
        have HG : Hid (∀ w0, RdI w0 w1.heap.size A6 d (l.drop d) → ∀ c6, Calls Tryz.prog 86 #[.slice A6 d c6, .int .i64 k] w0 fun e w' => e = .returned (.int .i64 G) ∧ ∃ q, w' = w0.drewN q) := Lib.hid (by
          intro w0 h0 c6
          have := lift_any A6 d c6 k _ w0 w1.heap.size h0 hlt (by omega) hbR.out
          rw [drop_getD, drop_getD, ← hG] at this
          exact this)
        have k6 : IntKind.i64.wrap (l[k]?.getD 0 - G) = l[k]?.getD 0 - G := IntWalk.i64_in _ (by
          have h1 := hbnd.out k
          have h2 := hbnd.out (d + (k - 1))
          have h3 := hbnd.out (d + k)
          rw [List.getD_eq_getElem?_getD] at h1
          omega)
        rw [List.getD_eq_getElem?_getD] at hc
        have hGh := Lib.hid hG
        clear hG
        go_wp2_with (first
          | (go_at_call 86; refine (HG.out _ (hR.out.below HBW.out) _).mono ?_; rintro e w3 ⟨rfl, q, rfl⟩)
          | (at_builtin; refine wpList_push _ (by rfl) _ _ (by rfl) w1 w1.heap.size A7 k c7 ((List.range k).map (Ph.evI l d)) (l[k]?.getD 0 - G) (own_drewN HO.out _) (below_same HBW.out rfl rfl rfl rfl) HBW.out.size (by omega) (by rfl) (by rfl) ?_; intro g cap w2 ho2 hb2))
        refine ⟨⟨k + 1, some ⟨g, 0, none⟩, cap, by omega, by go_num, rfl, ?_, hb2⟩, by simp [intOf]; omega⟩
        rw [List.range_succ, List.map_append]
        have e : Ph.evI l d k = l[k]?.getD 0 - G := by unfold Ph.evI; rw [hGh.out, List.getD_eq_getElem?_getD]
        simp only [List.map_cons, List.map_nil, e]
        exact ho2
      · have hkd : k = d := by omega
        subst hkd
        rename World => wa
        have hE : Hid (RdI wa wa.heap.size A7 k ((List.range k).map (Ph.evI l k))) := Lib.hid (RdI.own HO.out)
        have hR1 : Hid (RdI wa w1.heap.size A6 k (l.drop k)) := Lib.hid (hR.out.below HBW.out)
        clear hlt
        go_wp2
        go_loopw [8, 44] (fun v i wr => ∃ (q : Nat) (A8 : Option Addr) (c8 : Nat), q ≤ k ∧ i = .int .i64 q ∧ v = .slice A8 (2 * q) c8 ∧ wr.ownsRow wa.heap.size 3 1 (.slice A8 (2 * q) c8) (2 * q) (ivals ((List.range q).flatMap fun i => [Ph.evI l k i, Ph.odI l k i])) ∧ Below wa.heap.size wa wr) (fun _ i _ => k - (intOf i).toNat)
        case atStart => exact ⟨0, none, 0, by omega, rfl, rfl, own_nil _ _ _, Below.refl _ _⟩
        case round =>
          obtain ⟨q, A8, c8, hq, rfl, rfl, hown2, hbw2⟩ := hrel
          have HO2 := Lib.hid hown2
          have HB2 := Lib.hid hbw2
          clear hown2 hbw2
          by_cases hlt : q < k
          · obtain ⟨b, off, rfl, hbA, hcA⟩ := hE.out.at_ hlt
            rw [Ph.getD_map_range _ _ _ hlt] at hcA
            have hc7 : wr.cell? ⟨b, off + q, none⟩ = some (.int .i64 (Ph.evI l k q)) := (HB2.out.cell hbA).trans hcA
            obtain ⟨b6, off6, rfl, hb6, hc6⟩ := hR1.out.at_ hlt
            rw [drop_getD, List.getD_eq_getElem?_getD] at hc6
            have hb6' : b6 < wa.heap.size := by have := HBW.out.size; omega
            have hc60 : wr.cell? ⟨b6, off6 + q, none⟩ = some (.int .i64 (l[k + q]?.getD 0)) := (HB2.out.cell hb6').trans hc6
            have hb6h := Lib.hid hb6'
            have hc6h := Lib.hid hc6
            obtain ⟨G, hG⟩ : ∃ G, G = (Ph.evI l k q + Ph.evI l k (Ph.nxt k q)) / 2 := ⟨_, rfl⟩
            have HG : Hid (∀ w0, RdI w0 wa.heap.size (some ⟨b, off, none⟩) k ((List.range k).map (Ph.evI l k)) → Calls Tryz.prog 85 #[.slice (some ⟨b, off, none⟩) k c7, .int .i64 q] w0 fun e w' => e = .returned (.int .i64 G) ∧ ∃ q, w' = w0.drewN q) := Lib.hid (by
              intro w0 h0
              have := guess_any (some ⟨b, off, none⟩) k c7 q _ w0 wa.heap.size h0 hlt (by omega) (evIb hevb.out k)
              rw [Ph.getD_map_range _ _ _ hlt, Ph.getD_map_range _ _ _ (Ph.nxt_lt hlt), ← hG] at this
              exact this)
            obtain ⟨x7, hx7⟩ : ∃ x7, x7 = Ph.evI l k q := ⟨_, rfl⟩
            have k6 : IntKind.i64.wrap (l[k + q]?.getD 0 + G) = l[k + q]?.getD 0 + G := IntWalk.i64_in _ (by
              have h1 := hbnd.out (k + q)
              have h2 := hevb.out q
              have h3 := hevb.out (Ph.nxt k q)
              rw [List.getD_eq_getElem?_getD] at h1
              omega)
            rw [← hx7] at hc7
            have hGh := Lib.hid hG
            have hx7h := Lib.hid hx7
            clear hG hx7 hcA hc6 hb6 hb6' hbA
            go_wp2
            go_region_held3 (fun w' => w'.cell? ⟨b6, off6 + q, none⟩ = some (.int .i64 (l[k + q]?.getD 0))) (first | go_keep | exact (hb4.cell hb6h.out).trans hc6h.out) (first | (go_at_call 85; refine (HG.out _ (RdI.drew (hE.out.below HB2.out))).mono ?_; rintro e w3 ⟨rfl, q3, rfl⟩) | (refine step_push2 _ (by rfl) _ _ (by rfl) wa wa.heap.size A8 (2 * q) c8 ((List.range q).flatMap fun i => [Ph.evI l k i, Ph.odI l k i]) x7 (l[k + q]?.getD 0 + G) wr.heap.size (by exact HO2.out.alloc (.cells #[.int .i64 x7, .int .i64 (l[k + q]?.getD 0 + G)] 3)) (below_same (HB2.out.alloc HB2.out.size (.cells #[.int .i64 x7, .int .i64 (l[k + q]?.getD 0 + G)] 3)) (by rfl) (by rfl) (by rfl) (by rfl)) (by have := HB2.out.size; simp; omega) (by exact (cell_of_alloc2 wr _ _ 3).1) (by exact (cell_of_alloc2 wr _ _ 3).2) (by omega) (by rfl) (by rfl) ?_; intro g cap w4 ho4 hb4))
            have HO4 := Lib.hid ho4
            have HB4 := Lib.hid hb4
            clear ho4 hb4 hc7 hc60 k6
            go_wp2
            go_roundw
            case rel =>
              refine ⟨q + 1, some ⟨g, 0, none⟩, cap, by omega, by go_num, rfl, ?_, HB4.out⟩
              have := HO4.out
              rw [List.range_succ, List.flatMap_append]
              have e1 : Ph.odI l k q = l[k + q]?.getD 0 + G := by unfold Ph.odI; rw [hGh.out, List.getD_eq_getElem?_getD]
              simp only [List.flatMap_cons, List.flatMap_nil, List.append_nil, e1, ← hx7h.out]
              exact this
            case measure => simp [intOf]; omega
          · have hqk : q = k := by omega
            subst hqk
            have hll : l.length = 2 * q := HL.out
            have hlh : l.length / 2 = q := by omega
            have e9 : Ph.lapI l = (List.range q).flatMap fun i => [Ph.evI l q i, Ph.odI l q i] := by unfold Ph.lapI; rw [hlh]
            have n9 : (Ph.lapI l).length = 2 * q := by rw [e9]; exact Ph.flat2_length _ (fun _ => rfl) _
            have HE9 := Lib.hid e9
            have HN9 := Lib.hid n9
            clear hlt e9 n9 hlh hll
            go_wp2
            go_ret2
            refine ⟨A8, c8, by rw [HN9.out]; rfl, ?_, hb1.trans ((HBW.out.trans (HB2.out.mono HBW.out.size)).mono hsz)⟩
            rw [HN9.out, HE9.out]
            exact own_more HO2.out (by have := HBW.out.size; omega)
end Go.Proofs.YtmohilfebgahoaaGreatDoor
/- Walks: over the edges, asked (chapter 4): one contract each, whatever the fault. -/
namespace Go.Proofs.YtmohilfebgahoaaGreatDoor
open Go.RowKit

/-- A slice is told with a fault k: if there is none, it reads as l. -/
def ToldI (k : Int) (l : List Int) (n : Nat) (w : World) (e : Ending) (w' : World) : Prop :=
  ∃ X, e = .returned (.tuple #[X, errV k]) ∧ (k = 0 → ∃ A c, X = .slice A n c ∧ n ≤ c ∧ RdI w' w'.heap.size A n l) ∧ Below w.heap.size w w'
theorem lapF_told (A : Option Addr) (n c : Nat) (l : List Int) (w : World) (B : Nat) (h : RdI w B A n l) (hB : B ≤ w.heap.size) (hn : n ≤ 100000000000000) :
    Calls Tryz.prog 46 #[.slice A n c] w (ToldI (Ph.lapErr l 1000) (Ph.lapF l) n w) := by
  by_cases h0 : Ph.lapErr l 1000 = 0
  · refine (lapF_ok A n c l w B h hB h0).mono ?_
    rintro e w' ⟨A', c', rfl, ho, hb⟩
    have hl : (Ph.lapF l).length = n := by rw [Ph.lapF_length l (Ph.lapErr_zero.1 h0).2.1, h.len]
    rw [hl] at ho ⊢
    exact ⟨_, by rw [h0]; rfl, fun _ => ⟨A', c', rfl, own_cap ho, RdI.own ho⟩, hb⟩
  · refine (lapF_no A n c l w B h hB hn h0).mono ?_
    rintro e w' ⟨rfl, hb⟩
    exact ⟨_, rfl, fun hk => absurd hk h0, hb⟩
theorem lapI_told (A : Option Addr) (n c : Nat) (l : List Int) (w : World) (B : Nat) (h : RdI w B A n l) (hB : B ≤ w.heap.size) (hc : n ≤ c) (hn : n ≤ 100000000000000) :
    Calls Tryz.prog 62 #[.slice A n c] w (ToldI (Ph.lapErr l 4000) (Ph.lapI l) n w) := by
  by_cases h0 : Ph.lapErr l 4000 = 0
  · refine (lapI_ok A n c l w B h hB hc h0).mono ?_
    rintro e w' ⟨A', c', rfl, ho, hb⟩
    have hl : (Ph.lapI l).length = n := by rw [Ph.lapI_length l, h.len]; have := (Ph.lapErr_zero.1 h0).2.1; rw [h.len] at this; omega
    rw [hl] at ho ⊢
    exact ⟨_, by rw [h0]; rfl, fun _ => ⟨A', c', rfl, own_cap ho, RdI.own ho⟩, hb⟩
  · refine (lapI_no A n c l w B h hB hn h0).mono ?_
    rintro e w' ⟨rfl, hb⟩
    exact ⟨_, rfl, fun hk => absurd hk h0, hb⟩
end Go.Proofs.YtmohilfebgahoaaGreatDoor
