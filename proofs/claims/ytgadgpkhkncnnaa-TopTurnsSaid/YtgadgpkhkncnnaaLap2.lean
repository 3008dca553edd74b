/- Walks: over the edges, forward and back (chapter 4). -/
import Derived.Test.YtgadgpkhkncnnaaLap
import Derived.Test.YtgadgpkhkncnnaaPush
import Derived.StillTailTactics
namespace Go.Proofs.Ytgadgpkhkncnnaa
open Go.RowKit

theorem lapF_no (A : Option Addr) (n c : Nat) (l : List Int) (w : World) (B : Nat) (h : RdI w B A n l) (hB : B ≤ w.heap.size) (hn : n ≤ 100000000000000) (h0 : Ph.lapErr l 1000 ≠ 0) :
    Calls Try.prog 23 #[.slice A n c] w fun e w' => e = .returned (.tuple #[.slice none 0 0, errV (Ph.lapErr l 1000)]) ∧ Below w.heap.size w w' := by
  have he := errV_ne h0
  have H := Lib.hid h
  clear h h0
  go_enter Try.func23, Try.ntmps23
  go_wp2_with (go_at_call 58; refine (lapcheck_any A n c l 1000 _ B H.out hB hn (by omega)).mono ?_; rintro e w1 ⟨rfl, hb1⟩)
  go_ret2
  exact ⟨ret_two rfl he.symm, hb1⟩
theorem lapI_no (A : Option Addr) (n c : Nat) (l : List Int) (w : World) (B : Nat) (h : RdI w B A n l) (hB : B ≤ w.heap.size) (hn : n ≤ 100000000000000) (h0 : Ph.lapErr l 4000 ≠ 0) :
    Calls Try.prog 24 #[.slice A n c] w fun e w' => e = .returned (.tuple #[.slice none 0 0, errV (Ph.lapErr l 4000)]) ∧ Below w.heap.size w w' := by
  have he := errV_ne h0
  have H := Lib.hid h
  clear h h0
  go_enter Try.func24, Try.ntmps24
  go_wp2_with (go_at_call 58; refine (lapcheck_any A n c l 4000 _ B H.out hB hn (by omega)).mono ?_; rintro e w1 ⟨rfl, hb1⟩)
  go_ret2
  exact ⟨ret_two rfl he.symm, hb1⟩
theorem evb {l : List Int} (h : ∀ q, -1000 ≤ l.getD q 0 ∧ l.getD q 0 ≤ 1000) (k j : Nat) : -10000 ≤ ((List.range k).map (Ph.ev l)).getD j 0 ∧ ((List.range k).map (Ph.ev l)).getD j 0 ≤ 10000 := by
  by_cases hj : j < k
  · rw [Ph.getD_map_range _ _ _ hj]
    have := h (2 * j)
    unfold Ph.ev
    omega
  · rw [List.getD_eq_getElem?_getD, List.getElem?_eq_none (by simp; omega)]
    simp
theorem difb {l : List Int} (h : ∀ q, -1000 ≤ l.getD q 0 ∧ l.getD q 0 ≤ 1000) (k j : Nat) : -10000 ≤ ((List.range k).map (Ph.dif l k)).getD j 0 ∧ ((List.range k).map (Ph.dif l k)).getD j 0 ≤ 10000 := by
  by_cases hj : j < k
  · rw [Ph.getD_map_range _ _ _ hj]
    have h1 := h (2 * j + 1)
    have h2 := h (2 * j)
    have h3 := h (2 * Ph.nxt k j)
    unfold Ph.dif Ph.ev
    omega
  · rw [List.getD_eq_getElem?_getD, List.getElem?_eq_none (by simp; omega)]
    simp
theorem set_turn (f g : Nat → Int) {q m : Nat} : ((List.range m).map (fun i => if i < q then f i else g i)).set q (f q) = (List.range m).map (fun i => if i < q + 1 then f i else g i) := by
  apply List.ext_getElem?
  intro j
  rw [List.getElem?_set]
  by_cases hj : j < m
  · simp only [List.getElem?_map, List.getElem?_range hj, Option.map_some, List.length_map, List.length_range]
    by_cases h1 : q = j
    · subst h1
      rw [if_pos rfl, if_pos hj, if_pos (by omega)]
    · rw [if_neg h1]
      by_cases h2 : j < q
      · rw [if_pos h2, if_pos (by omega)]
      · rw [if_neg h2, if_neg (by omega)]
  · have h0 : ∀ h : Nat → Int, ((List.range m).map h)[j]? = none := fun h => List.getElem?_eq_none (by simp; omega)
    rw [h0, h0]
    by_cases h1 : q = j
    · rw [if_pos h1, if_neg (by simp; omega)]
    · rw [if_neg h1]
theorem turn_all (f g : Nat → Int) {m : Nat} : (List.range m).map (fun i => if i < m then f i else g i) = (List.range m).map f := by
  apply List.map_congr_left
  intro i hi
  rw [if_pos (List.mem_range.1 hi)]
set_option maxRecDepth 100000 in
theorem lapF_ok (A : Option Addr) (n c : Nat) (l : List Int) (w : World) (B : Nat) (h : RdI w B A n l) (hB : B ≤ w.heap.size) (h0 : Ph.lapErr l 1000 = 0) :
    Calls Try.prog 23 #[.slice A n c] w (FreshI 3 (Ph.lapF l) w) := by
  have he := errV_of h0
  have hs := Ph.lapErr_zero.1 h0
  have HL := Lib.hid h.len
  have HA := Lib.hid hs.2.2
  have hn : n ≤ 32 := by have := h.len; omega
  have hp : n % 2 = 0 := by have := h.len; omega
  have H := Lib.hid h
  clear h h0 hs
  obtain ⟨i0, hi, hz0, hz1, hz2⟩ := info_parts int_info
  go_enter Try.func23, Try.ntmps23
  go_wp2_with (go_at_call 58; refine (lapcheck_any A n c l 1000 _ B H.out hB (by omega) (by omega)).mono ?_; rintro e w1 ⟨rfl, hb1⟩)
  have hsz := hb1.size
  have H1 := Lib.hid ((H.out.below (hb1.mono hB)).more (B' := w1.heap.size) (by omega))
  clear he
  go_loopw [5, 7] (fun v i wr => ∃ (k j : Nat) (A5 : Option Addr) (c5 : Nat), j = 2 * k ∧ j ≤ n ∧ i = .int .i64 j ∧ v = .slice A5 k c5 ∧ wr.ownsRow w1.heap.size 3 1 (.slice A5 k c5) k (ivals ((List.range k).map (Ph.ev l))) ∧ Below w1.heap.size w1 wr) (fun _ i _ => n - (intOf i).toNat)
  case atStart => exact ⟨0, 0, none, 0, rfl, by omega, rfl, rfl, own_nil _ _ _, Below.refl _ _⟩
  case round =>
    obtain ⟨k, j, A5, c5, hjk, hj, rfl, rfl, hown, hbw⟩ := hrel
    have HJ := Lib.hid hjk
    have hk2 : 2 * k ≤ j := by omega
    clear hjk
    by_cases hlt : j < n
    · obtain ⟨b, off, rfl, _, hc⟩ := (H1.out.below hbw).at_ hlt
      have HO := Lib.hid hown
      have HBW := Lib.hid hbw
      clear hown hbw
      go_wp2_with (at_builtin; refine wpList_push _ (by rfl) _ _ (by rfl) w1 w1.heap.size A5 k c5 _ (l[j]?.getD 0) HO.out HBW.out (by have := HBW.out.size; omega) (by omega) (by rfl) (by rfl) ?_; intro g cap w2 ho2 hb2)
      have HO2 := Lib.hid ho2
      have HB2 := Lib.hid hb2
      clear ho2 hb2
      go_wp2
      go_roundw
      case rel =>
        refine ⟨k + 1, j + 2, some ⟨g, 0, none⟩, cap, by have := HJ.out; omega, by have := HJ.out; omega, by go_num, rfl, ?_, HB2.out⟩
        have := HO2.out
        rw [List.range_succ, List.map_append]
        have e : Ph.ev l k = l[j]?.getD 0 := by unfold Ph.ev; rw [← HJ.out, List.getD_eq_getElem?_getD]
        simp only [List.map_cons, List.map_nil, e]
        exact this
      case measure => simp [intOf]; omega
    · have hjn : j = n := by omega
      have hkn : n = 2 * k := by have := HJ.out; omega
      have HK := Lib.hid hkn
      clear hlt HJ hk2 hkn
      subst hjn
      have HO := Lib.hid hown
      have HBW := Lib.hid hbw
      clear hown hbw
      go_wp2
      rename World => wa
      have hE : Hid (RdI wa wa.heap.size A5 k ((List.range k).map (Ph.ev l))) := Lib.hid (Rd.own HO.out)
      have hL : Hid (RdI wa w1.heap.size A j l) := Lib.hid (H1.out.below HBW.out)
      have hk16 : k ≤ 16 := by have := HK.out; omega
      have hbnd : Hid (∀ q, -1000 ≤ l.getD q 0 ∧ l.getD q 0 ≤ 1000) := Lib.hid (Ph.allIn_getD HA.out (by omega))
      go_loopw [6, 30] (fun v i wr2 => ∃ (m : Nat) (A6 : Option Addr) (c6 : Nat), m ≤ k ∧ i = .int .i64 m ∧ v = .slice A6 m c6 ∧ wr2.ownsRow wa.heap.size 3 1 (.slice A6 m c6) m (ivals ((List.range m).map (Ph.dif l k))) ∧ Below wa.heap.size wa wr2) (fun _ i _ => k - (intOf i).toNat)
      case atStart => exact ⟨0, none, 0, by omega, rfl, rfl, own_nil _ _ _, Below.refl _ _⟩
      case round =>
        obtain ⟨m, A6, c6, hm, rfl, rfl, hown2, hbw2⟩ := hrel
        have HO2 := Lib.hid hown2
        have HB2 := Lib.hid hbw2
        clear hown2 hbw2
        by_cases hlt : m < k
        · obtain ⟨b, off, rfl, hbw3, hc3⟩ := hL.out.at_ (k := 2 * m + 1) (by have := HK.out; omega)
          have hc : wr.cell? ⟨b, off + (2 * m + 1), none⟩ = some (.int .i64 (l.getD (2 * m + 1) 0)) := (HB2.out.cell (by have := HBW.out.size; show b < _; omega)).trans hc3
          replace hbw3 : Hid (b < wa.heap.size) := Lib.hid (by have := HBW.out.size; omega)
          have hcw := Lib.hid hc3
          rw [List.getD_eq_getElem?_getD] at hc hcw
          clear hc3
          have k1 : (0 : Int) ≤ 2 * (m : Int) + 1 := by omega
          have k2 : 2 * (m : Int) + 1 < (j : Int) := by have := HK.out; omega
          have k3 : IntKind.i64.wrap (2 * (m : Int)) = 2 * (m : Int) := IntWalk.i64_in _ (by omega)
          have k4 : IntKind.i64.wrap (2 * (m : Int) + 1) = 2 * (m : Int) + 1 := IntWalk.i64_in _ (by omega)
          have k5 : (2 * (m : Int) + 1).toNat = 2 * m + 1 := by omega
          have hd1 : ((List.range k).map (Ph.ev l)).getD m 0 = Ph.ev l m := Ph.getD_map_range _ _ _ hlt
          have hd2 : ((List.range k).map (Ph.ev l)).getD (Ph.nxt k m) 0 = Ph.ev l (Ph.nxt k m) := Ph.getD_map_range _ _ _ (Ph.nxt_lt hlt)
          have HG : ∀ w0, RdI w0 wa.heap.size A5 k ((List.range k).map (Ph.ev l)) → Calls Try.prog 59 #[.slice A5 k c5, .int .i64 m] w0 fun e w' => e = .returned (.int .i64 ((Ph.ev l m + Ph.ev l (Ph.nxt k m)) / 2)) ∧ ∃ q, w' = w0.drewN q := by
            intro w0 h0
            have := guess_any A5 k c5 m _ w0 wa.heap.size h0 hlt (by omega) (evb hbnd.out k)
            rwa [hd1, hd2] at this
          have b1 := hbnd.out (2 * m + 1)
          have b2 := hbnd.out (2 * m)
          have b3 := hbnd.out (2 * Ph.nxt k m)
          rw [List.getD_eq_getElem?_getD] at b1
          obtain ⟨G, hG, hG1, hG2⟩ : ∃ G, G = (Ph.ev l m + Ph.ev l (Ph.nxt k m)) / 2 ∧ -1000 ≤ G ∧ G ≤ 1000 := ⟨_, rfl, by unfold Ph.ev; omega, by unfold Ph.ev; omega⟩
          rw [← hG] at HG
          have HGh := Lib.hid HG
          have k6 : IntKind.i64.wrap (l[2 * m + 1]?.getD 0 - G) = l[2 * m + 1]?.getD 0 - G := IntWalk.i64_in _ (by omega)
          have hGh := Lib.hid hG
          clear HG hG hd1 hd2 b2 b3 b1
          go_wp2
          go_region_held3 (fun w' => w'.cell? ⟨b, off + (2 * m + 1), none⟩ = some (.int .i64 (l[2 * m + 1]?.getD 0))) (first | go_keep | exact (hb4.cell hbw3.out).trans hcw.out) (first | (go_at_call 59; refine (HGh.out _ (RdI.drew (hE.out.below HB2.out))).mono ?_; rintro e w3 ⟨rfl, q, rfl⟩) | (refine step_push _ (by rfl) _ _ (by rfl) wa wa.heap.size A6 m c6 ((List.range m).map (Ph.dif l k)) (l[2 * m + 1]?.getD 0 - G) wr.heap.size (by exact HO2.out.alloc (.cells #[.int .i64 (l[2 * m + 1]?.getD 0 - G)] 3)) (below_same (HB2.out.alloc HB2.out.size (.cells #[.int .i64 (l[2 * m + 1]?.getD 0 - G)] 3)) (by rfl) (by rfl) (by rfl) (by rfl)) (by have := HB2.out.size; simp; omega) (by exact cell_of_alloc wr _ 3) (by omega) (by rfl) (by rfl) ?_; intro g cap w4 ho4 hb4))
          have HO4 := Lib.hid ho4
          have HB4 := Lib.hid hb4
          clear ho4 hb4 hc k1 k2 k3 k4 k5 k6 hG1 hG2
          go_wp2
          go_roundw
          case rel =>
            refine ⟨m + 1, some ⟨g, 0, none⟩, cap, by omega, by go_num, rfl, ?_, HB4.out⟩
            have := HO4.out
            rw [List.range_succ, List.map_append]
            have e : Ph.dif l k m = l[2 * m + 1]?.getD 0 - G := by unfold Ph.dif; rw [hGh.out, List.getD_eq_getElem?_getD]
            simp only [List.map_cons, List.map_nil, e]
            exact this
          case measure => simp [intOf]; omega
        · have hmk : m = k := by omega
          subst hmk
          clear hlt
          have hO5 : Hid (wr.ownsRow w1.heap.size 3 1 (.slice A5 m c5) m (ivals ((List.range m).map (Ph.ev l)))) := Lib.hid (own_below' HO.out HB2.out)
          have hg5 : Hid (∀ g, A5 = some ⟨g, 0, none⟩ → g < wa.heap.size) := Lib.hid fun g hg => (HO.out.lt g (by rw [hg]; rfl)).2
          have hB5 : Hid (Below w1.heap.size w1 wr) := Lib.hid (HBW.out.trans (HB2.out.mono HBW.out.size))
          rename World => wb
          go_wp2
          go_loopw [49] (fun i wr => ∃ (q : Nat), q ≤ m ∧ i = .int .i64 q ∧ wr.ownsRow w1.heap.size 3 1 (.slice A5 m c5) m (ivals ((List.range m).map (fun i => if i < q then Ph.stay l m i else Ph.ev l i))) ∧ wr.ownsRow wa.heap.size 3 1 (.slice A6 m c6) m (ivals ((List.range m).map (Ph.dif l m))) ∧ Below w1.heap.size w1 wr) (fun i _ => m - (intOf i).toNat)
          case atStart => exact ⟨0, by omega, rfl, by simpa using hO5.out, HO2.out, hB5.out⟩
          case round =>
            obtain ⟨q, hq, rfl, hown3, hown4, hbw3⟩ := hrel
            have HO3 := Lib.hid hown3
            have HO4 := Lib.hid hown4
            have HB3 := Lib.hid hbw3
            clear hown3 hown4 hbw3
            by_cases hlt : q < m
            · obtain ⟨g5, rfl, hg5b, _⟩ := own_form HO3.out (by omega)
              have hc5 : wr.cell? ⟨g5, q, none⟩ = some (.int .i64 (Ph.ev l q)) := by
                rw [HO3.out.cellAt q (by omega), ivals_get (by simp; omega), Ph.getD_map_range _ _ _ hlt, if_neg (by omega)]
              have hf5 : wr.frozen? ⟨g5, q, none⟩ = false := HO3.out.frozenAt q
              have hg5' : Hid (g5 < wa.heap.size) := Lib.hid (hg5.out g5 rfl)
              have b0 := hbnd.out (2 * q)
              have bE : Hid (∀ j, -1000 ≤ Ph.ev l j ∧ Ph.ev l j ≤ 1000) := Lib.hid fun j => hbnd.out (2 * j)
              have bD : Hid (∀ j, -10000 ≤ ((List.range m).map (Ph.dif l m)).getD j 0 ∧ ((List.range m).map (Ph.dif l m)).getD j 0 ≤ 10000) := Lib.hid (difb hbnd.out m)
              have hd1 : ((List.range m).map (Ph.dif l m)).getD q 0 = Ph.dif l m q := Ph.getD_map_range _ _ _ hlt
              have hd2 : ((List.range m).map (Ph.dif l m)).getD (q - 1) 0 = Ph.dif l m (q - 1) := Ph.getD_map_range _ _ _ (by omega)
              obtain ⟨G, hG⟩ : ∃ G, G = (Ph.dif l m (q - 1) + Ph.dif l m q + 2) / 4 := ⟨_, rfl⟩
              have hGb : -6000 ≤ G ∧ G ≤ 6000 := by
                have h1 := bD.out q
                have h2 := bD.out (q - 1)
                rw [hd1] at h1
                rw [hd2] at h2
                omega
              have HG : Hid (∀ w0, RdI w0 wr.heap.size A6 m ((List.range m).map (Ph.dif l m)) → Calls Try.prog 60 #[.slice A6 m c6, .int .i64 q] w0 fun e w' => e = .returned (.int .i64 G) ∧ ∃ q, w' = w0.drewN q) := Lib.hid (by
                intro w0 h0
                have := lift_any A6 m c6 q _ w0 wr.heap.size h0 hlt (by omega) bD.out
                rw [hd1, hd2, ← hG] at this
                exact this)
              have hrd6 : Hid (RdI wr wr.heap.size A6 m ((List.range m).map (Ph.dif l m))) := Lib.hid (RdI.own HO4.out)
              have hGh := Lib.hid hG
              obtain ⟨e5, he5⟩ : ∃ e5, e5 = Ph.ev l q := ⟨_, rfl⟩
              have k1 : IntKind.i64.wrap (e5 + G) = e5 + G := IntWalk.i64_in _ (by have := bE.out q; omega)
              rw [← he5] at hc5
              have he5h := Lib.hid he5
              clear hG hGb hd1 hd2 b0 he5
              go_wp2
              go_region_with (go_at_call 60; refine (HG.out _ (RdI.drew hrd6.out)).mono ?_; rintro e w3 ⟨rfl, q3, rfl⟩)
              all_goals go_wp2
              all_goals go_roundw
              all_goals first
                | (simp [intOf]; omega)
                | (refine ⟨q + 1, by omega, by go_num, ?_, ?_, ?_⟩
                   · have := ((own_drewN HO3.out (1 + q3)).stored q (.int .i64 (e5 + G))).1
                     have hst : e5 + G = Ph.stay l m q := by unfold Ph.stay; rw [he5h.out, hGh.out]
                     rw [ivals_set, hst, set_turn (Ph.stay l m) (Ph.ev l), ← hst] at this
                     exact this
                   · exact own_setFar (own_drewN HO4.out _) (fun e => by have := HO4.out.lt _ e; have := hg5'.out; simp only [] at *; omega) _
                   · exact (below_same HB3.out rfl rfl rfl rfl : Below w1.heap.size w1 (wr.drewN (1 + q3))).setCell (p := ⟨g5, q, none⟩) hg5b _)
            · have hqm : q = m := by omega
              subst hqm
              have HE : Hid (wr.ownsRow w1.heap.size 3 1 (.slice A5 q c5) q (ivals ((List.range q).map (Ph.stay l q)))) := Lib.hid (by
                have := HO3.out
                rwa [turn_all (Ph.stay l q) (Ph.ev l)] at this)
              have hHK := HK.out
              go_wp2_with (at_builtin; refine wpList_join _ (by rfl) _ _ (by rfl) w1 w1.heap.size A5 q c5 _ A6 q c6 _ wr.heap.size HE.out HB3.out HB3.out.size (RdI.own HO4.out) (own_none HO4.out) (by omega) (by rfl) (by rfl) ?_; intro A9 c9 w9 ho9 hb9)
              have HO9 := Lib.hid ho9
              have HB9 := Lib.hid hb9
              clear ho9 hb9
              have hll : l.length = 2 * q := HL.out.trans HK.out
              have hlh : l.length / 2 = q := by omega
              have e9 : Ph.lapF l = (List.range q).map (Ph.stay l q) ++ (List.range q).map (Ph.dif l q) := by unfold Ph.lapF Ph.stays Ph.difs; rw [hlh]
              have n9 : (Ph.lapF l).length = q + q := by rw [e9]; simp
              go_ret2
              refine ⟨A9, c9, by rw [n9]; rfl, ?_, (hb1.trans (HB9.out.mono hsz))⟩
              rw [n9, e9]
              exact own_more HO9.out hsz
end Go.Proofs.Ytgadgpkhkncnnaa
