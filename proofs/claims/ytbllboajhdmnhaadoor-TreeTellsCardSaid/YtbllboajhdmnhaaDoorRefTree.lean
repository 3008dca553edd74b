/- The document's answers, walked (chapter 3): level by level, and back. -/
import Derived.Test.YtbllboajhdmnhaaDoorRefLap
import Derived.Test.YtbllboajhdmnhaaDoorPushK
import Derived.Test.YtbllboajhdmnhaaDoorTreeT
namespace Go.Proofs.YtbllboajhdmnhaaDoor
open Go.RowKit

/-- What is wrong with so many numbers and levels. -/
def levErr (n : Nat) (v : Int) : Int := if 32 < n then 4 else if v < 0 ∨ 5 < v then 1 else if n % 2 ^ v.toNat ≠ 0 then 3 else 0
theorem treeErr_lev (l : List Int) (v b : Int) : treeErr l v b = if levErr l.length v ≠ 0 then levErr l.length v else if Ph.allIn l b = true then 0 else 1 := by
  unfold treeErr levErr
  by_cases h1 : 32 < l.length
  · simp [h1]
  · by_cases h2 : v < 0 ∨ 5 < v
    · simp [h1, h2]
    · by_cases h3 : l.length % 2 ^ v.toNat = 0
      · simp [h1, h2, h3]
      · simp [h1, h2, h3]
theorem rlevels_any (n : Nat) (v : Int) (w : World) (hn : n ≤ 100000000000000) :
    Calls Tryd.prog 24 #[.int .i64 n, .int .i64 v] w fun e w' => e = .returned (.int .i64 (levErr n v)) ∧ w = w' := by
  by_cases h32 : 32 < n
  · have e : levErr n v = 4 := if_pos h32
    rw [e]
    clear e
    go_enter Tryd.func24, Tryd.ntmps24
    go_wp2_with fail
    go_ret
    exact ⟨rfl, rfl⟩
  · by_cases h0 : v < 0
    · have e : levErr n v = 1 := by unfold levErr; rw [if_neg h32, if_pos (by omega)]
      rw [e]
      clear e
      go_enter Tryd.func24, Tryd.ntmps24
      go_wp2_with fail
      go_ret
      exact ⟨rfl, rfl⟩
    · by_cases h5 : 5 < v
      · have e : levErr n v = 1 := by unfold levErr; rw [if_neg h32, if_pos (by omega)]
        rw [e]
        clear e
        go_enter Tryd.func24, Tryd.ntmps24
        go_wp2_with fail
        go_ret
        exact ⟨rfl, rfl⟩
      · obtain ⟨V, rfl⟩ : ∃ V : Nat, v = V := ⟨v.toNat, by omega⟩
        have HE : Hid (levErr n V = if n % 2 ^ V ≠ 0 then 3 else 0) := Lib.hid (by unfold levErr; rw [if_neg h32, if_neg (by omega), Int.toNat_natCast])
        obtain ⟨E, hE⟩ : ∃ E, E = levErr n V := ⟨_, rfl⟩
        rw [← hE] at HE ⊢
        clear hE
        go_enter Tryd.func24, Tryd.ntmps24
        go_wp2_with fail
        go_loop [0, 5] (fun m i => ∃ t : Nat, t ≤ V ∧ i = .int .i64 t ∧ m = .int .i64 (n / 2 ^ t : Nat) ∧ Hid (n % 2 ^ t = 0)) (fun _ i => V - (intOf i).toNat)
        case atStart => exact ⟨0, Nat.zero_le _, rfl, by simp, Lib.hid (by simp [Nat.mod_one])⟩
        case round =>
          obtain ⟨t, ht, rfl, rfl, HM⟩ := hrel
          by_cases hlt : t < V
          · have hlt' : (t : Int) < (V : Int) := by omega
            have hms := Nat.mod_pow_succ (x := n) (b := 2) (k := t)
            rw [HM.out] at hms
            have hds : n / 2 ^ (t + 1) = n / 2 ^ t / 2 := by rw [Nat.pow_succ, Nat.div_div_eq_div_mul]
            have hq32 : n / 2 ^ t ≤ n := Nat.div_le_self _ _
            have HH := Lib.hid fun hV => half_pow (n := n) (v := V) (t := V - t - 1) (u := t) (by omega) hV
            have HDS := Lib.hid hds
            obtain ⟨q, hq⟩ : ∃ q, q = n / 2 ^ t := ⟨_, rfl⟩
            rw [← hq] at hms HDS hq32 HH ⊢
            clear hq hds
            by_cases hq2 : q % 2 = 0
            · have hb : ((q : Int) % 2 != 0) = false := by simp; omega
              have HN : Hid (n % 2 ^ (t + 1) = 0) := Lib.hid (by rw [hms, hq2]; simp)
              clear hms HH
              go_wp2_with fail
              go_round
              case rel => exact ⟨t + 1, by omega, by go_num, by rw [HDS.out]; simp, HN⟩
              case measure => simp [intOf]; omega
            · have hb : ((q : Int) % 2 != 0) = true := by simp; omega
              have hE3 : E = 3 := by
                rw [HE.out, if_pos]
                intro hV
                have := HH.out hV
                omega
              subst hE3
              clear hms HH
              go_wp2_with fail
              go_ret
              exact ⟨rfl, rfl⟩
          · obtain rfl : t = V := by omega
            have hE0 : E = 0 := by rw [HE.out, if_neg (by rw [HM.out]; omega)]
            subst hE0
            go_wp2_with fail
            go_ret
            exact ⟨rfl, rfl⟩
set_option maxHeartbeats 2000000 in
set_option maxRecDepth 100000 in
theorem rtree_any : ∀ (V : Nat) (A : Option Addr) (n c : Nat) (l : List Int) (w : World) (B : Nat), RdI w B A n l → B ≤ w.heap.size → n ≤ 32 → n % 2 ^ V = 0 → V ≤ 5 → Ph.allIn l 1000 = true →
    Calls Tryd.prog 26 #[.slice A n c, .int .i64 V] w fun e w' => ∃ A' c', e = .returned (.slice A' n c') ∧ (((A = none → c = 0) ∨ 0 < V) → A' = none → c' = 0) ∧ RdI w' w'.heap.size A' n (Ph.treeF V l) ∧ Below w.heap.size w w'
  | 0, A, n, c, l, w, B, h, hB, hn, _, _, _ => by
    have H := Lib.hid (h.more hB)
    clear h
    show Calls Tryd.prog 26 #[.slice A n c, .int .i64 0] w _
    go_enter Tryd.func26, Tryd.ntmps26
    go_wp2_with fail
    go_ret
    exact ⟨A, c, rfl, fun h => h.elim id (fun h => absurd h (by omega)), H.out, Below.refl _ _⟩
  | V + 1, A, n, c, l, w, B, h, hB, hn, hm, hV, hin => by
    have IH := Lib.hid (rtree_any V)
    have hm2 := Ph.mod_two_of hm
    obtain ⟨k, rfl⟩ : ∃ k, n = 2 * k := ⟨n / 2, by omega⟩
    have hbnd : Hid (∀ q, -1000 ≤ l.getD q 0 ∧ l.getD q 0 ≤ 1000) := Lib.hid (Ph.allIn_getD hin (by omega))
    have hl := h.len
    have HS : Hid ((List.range k).map (sumAt l) = Ph.sums l) := Lib.hid (by rw [← sums_map l (by omega)]; congr 2; omega)
    have HR : Hid ((List.range k).map (restAt l) = Ph.rests l) := Lib.hid (by rw [← rests_map l (by omega)]; congr 2; omega)
    have HSI := Lib.hid (Ph.sums_allIn (by omega) l hin)
    have HT : Hid (Ph.treeF (V + 1) l = Ph.treeF V (Ph.sums l) ++ Ph.rests l) := Lib.hid rfl
    have HKM : Hid (k % 2 ^ V = 0) := Lib.hid (by have := hm2.2; rwa [show 2 * k / 2 = k by omega] at this)
    obtain ⟨F, hF⟩ : ∃ F, F = Ph.treeF (V + 1) l := ⟨_, rfl⟩
    rw [← hF] at HT ⊢
    have H := Lib.hid h
    have hk16 : k ≤ 16 := by omega
    have hV1 : (((V : Int) + 1) == 0) = false := by simp; omega
    rw [show ((V + 1 : Nat) : Int) = (V : Int) + 1 from by simp]
    clear h hm hm2 hin hl hF
    go_enter Tryd.func26, Tryd.ntmps26
    go_wp2_with fail
    go_loopw [5, 6, 7] (fun s d i wr => ∃ (j : Nat) (A5 A6 : Option Addr) (c5 c6 : Nat), j ≤ k ∧ i = .int .i64 (2 * (j : Int)) ∧ s = .slice A5 j c5 ∧ d = .slice A6 j c6 ∧ TwoS w.heap.size j j (.slice A5 j c5) (.slice A6 j c6) ((List.range j).map (sumAt l)) ((List.range j).map (restAt l)) wr ∧ Below w.heap.size w wr) (fun _ _ i _ => 2 * k - (intOf i).toNat)
    case atStart => exact ⟨0, none, none, 0, 0, Nat.zero_le _, rfl, rfl, rfl, ⟨own_nil _ _ _, own_nil _ _ _, fun g hg => by simp [Value.ownBlock] at hg, Nat.le_refl _⟩, Below.refl _ _⟩
    case round =>
      obtain ⟨j, A5, A6, c5, c6, hj, rfl, rfl, rfl, htwo, hbw⟩ := hrel
      rename World => wr
      have HTW := Lib.hid htwo
      have HBW := Lib.hid hbw
      clear htwo hbw
      by_cases hlt : j < k
      · obtain ⟨b, off, rfl, hbb, hc1⟩ := H.out.at_ (k := 2 * j) (by omega)
        obtain ⟨b', off', hA, _, hc2⟩ := H.out.at_ (k := 2 * j + 1) (by omega)
        obtain ⟨rfl, rfl⟩ : b = b' ∧ off = off' := by simpa using hA
        have b1 := hbnd.out (2 * j)
        have b2 := hbnd.out (2 * j + 1)
        have hs1 : Hid (sumAt l j = (l.getD (2 * j) 0 + l.getD (2 * j + 1) 0) / 2) := Lib.hid rfl
        have hr1 : Hid (restAt l j = l.getD (2 * j) 0 - l.getD (2 * j + 1) 0) := Lib.hid rfl
        obtain ⟨x, hx⟩ : ∃ x, x = l.getD (2 * j) 0 := ⟨_, rfl⟩
        obtain ⟨y, hy⟩ : ∃ y, y = l.getD (2 * j + 1) 0 := ⟨_, rfl⟩
        rw [← hx] at hc1 b1 hs1 hr1
        rw [← hy] at hc2 b2 hs1 hr1
        have hbl : b < w.heap.size := Nat.lt_of_lt_of_le hbb hB
        have d1 : wr.cell? ⟨b, off + 2 * j, none⟩ = some (.int .i64 x) := (HBW.out.cell hbl).trans hc1
        have d2 : wr.cell? ⟨b, off + (2 * j + 1), none⟩ = some (.int .i64 y) := (HBW.out.cell hbl).trans hc2
        have K1 := Lib.hid (And.intro hbl hc1)
        have K2 := Lib.hid (And.intro hbl hc2)
        have k2 : (2 * (j : Int)).toNat = 2 * j := by omega
        have k3 : 2 * (j : Int) < 2 * (k : Int) := by omega
        have k4 : (0 : Int) ≤ 2 * (j : Int) := by omega
        have k5 : IntKind.i64.wrap (x + y) = x + y := IntWalk.i64_in _ (by omega)
        have k6 : (2 * (j : Int) + 1).toNat = 2 * j + 1 := by omega
        have k7 : 2 * (j : Int) + 1 < 2 * (k : Int) := by omega
        have k8 : IntKind.i64.wrap (x - y) = x - y := IntWalk.i64_in _ (by omega)
        have k9 : (0 : Int) ≤ 2 * (j : Int) + 1 := by omega
        have k10 : IntKind.i64.wrap (2 * (j : Int) + 1) = 2 * (j : Int) + 1 := IntWalk.i64_in _ (by omega)
        have hGb : -1000 ≤ (x + y) / 2 ∧ (x + y) / 2 ≤ 1000 := by omega
        have HD : Hid (∀ W, Calls Tryd.prog 83 #[.int .i64 (x + y), .int .i64 2] W fun e w' => e = .returned (.int .i64 ((x + y) / 2)) ∧ w' = W) := Lib.hid fun W => rdown2 (x + y) W (by omega)
        obtain ⟨G, hG⟩ : ∃ G, G = (x + y) / 2 := ⟨_, rfl⟩
        rw [← hG] at HD hs1 hGb
        clear hx hy hG hA hc1 hc2 hbb hbl
        go_wp2_with fail
        go_quiet ((go_at_call 83; exact Calls.quiet_of_same (HD.out _)))
        clear k5
        go_wp2_with (at_builtin; refine wpList_twoS1 _ (by rfl) _ _ (by rfl) w G (HTW.out.drewN _) (below_drewN' HBW.out _) (by omega) (by rfl) (by rfl) ?_; intro g cap w2 ht2 hb2; have d3 := (hb2.cell K1.out.1).trans K1.out.2; have d4 := (hb2.cell K2.out.1).trans K2.out.2)
        have HT2 := Lib.hid ht2
        have HB2 := Lib.hid hb2
        clear ht2 hb2
        go_region_held3 (fun w' => w'.cell? ⟨b, off + 2 * j, none⟩ = some (.int .i64 x) ∧ w'.cell? ⟨b, off + (2 * j + 1), none⟩ = some (.int .i64 y)) (first | go_keep | exact ⟨(hb4.cell K1.out.1).trans K1.out.2, (hb4.cell K2.out.1).trans K2.out.2⟩) ((refine step_twoS2 _ (by rfl) _ _ (by rfl) w w.heap.size (j + 1) j (.slice (some ⟨g, 0, none⟩) (j + 1) cap) (.slice A6 j c6) ((List.range j).map (sumAt l) ++ [G]) ((List.range j).map (restAt l)) (x - y) w2.heap.size (by exact HT2.out.alloc (.cells #[.int .i64 (x - y)] 3)) (below_same (HB2.out.alloc HB2.out.size (.cells #[.int .i64 (x - y)] 3)) (by rfl) (by rfl) (by rfl) (by rfl)) (by exact cell_of_alloc w2 _ 3) (by omega) (by rfl) (by rfl) ?_; intro g4 cap4 w4 ht4 hb4))
        have HT4 := Lib.hid ht4
        have HB4 := Lib.hid hb4
        clear ht4 hb4 k8
        go_wp2_with fail
        go_roundw
        case rel =>
          refine ⟨j + 1, some ⟨g, 0, none⟩, some ⟨g4, 0, none⟩, cap, cap4, by omega, by go_num, rfl, rfl, ?_, HB4.out⟩
          have := HT4.out
          rw [List.range_succ, List.map_append, List.map_cons, List.map_nil, List.map_append, List.map_cons, List.map_nil, hs1.out, hr1.out]
          exact this
        case measure => simp [intOf]; omega
      · obtain rfl : j = k := by omega
        have HS1 := Lib.hid (RdI.own HTW.out.1)
        have HS2 := Lib.hid (RdI.own HTW.out.2.1)
        have hN1 := Lib.hid (own_none HTW.out.1)
        have hN2 := Lib.hid (own_none HTW.out.2.1)
        rw [HS.out] at HS1
        rw [HR.out] at HS2
        have hlt' : ¬ 2 * (j : Int) < 2 * (j : Int) := by omega
        clear hlt HTW
        go_wp2_with fail
        refine (IH.out A5 j c5 _ wr _ HS1.out (Nat.le_refl _) (by omega) HKM.out (by omega) HSI.out).mono ?_
        rintro e w9 ⟨A9, c9, rfl, hnil, hr9, hb9⟩
        have HR9 := Lib.hid hr9
        have HN9 := Lib.hid (hnil (.inl hN1.out))
        have HD9 := Lib.hid (HS2.out.on hb9)
        have HB9 := Lib.hid (HBW.out.trans (hb9.mono HBW.out.size))
        clear hnil hr9 hb9 HS1 HS2 hN1 HBW IH
        go_wp2_with (at_builtin; go_loud (first | (refine wpList_join _ (by rfl) _ _ (by rfl) w9 w9.heap.size none 0 0 [] A9 j c9 _ w9.heap.size (own_nil _ _ _) (Below.refl _ _) (Nat.le_refl _) HR9.out HN9.out (by omega) (by rfl) (by rfl) ?_; intro A10 c10 w10 ho10 hb10; rw [Nat.zero_add] at ho10; have HO10 := Lib.hid ho10; have HB10 := Lib.hid hb10; have HD10 := Lib.hid (HD9.out.below hb10); clear ho10 hb10) | (refine wpList_join _ (by rfl) _ _ (by rfl) w9 w9.heap.size A10 j c10 _ A6 j c6 _ w9.heap.size HO10.out HB10.out HB10.out.size HD10.out hN2.out (by omega) (by rfl) (by rfl) ?_; intro A11 c11 w11 ho11 hb11; have HO11 := Lib.hid ho11; have HB11 := Lib.hid hb11; clear ho11 hb11)))
        go_ret
        have hjj : j + j = 2 * j := by omega
        refine ⟨A11, c11, by rw [← hjj]; rfl, fun _ => own_none HO11.out, ?_, HB9.out.trans (HB11.out.mono HB9.out.size)⟩
        rw [HT.out, ← hjj]
        exact RdI.own HO11.out
end Go.Proofs.YtbllboajhdmnhaaDoor
