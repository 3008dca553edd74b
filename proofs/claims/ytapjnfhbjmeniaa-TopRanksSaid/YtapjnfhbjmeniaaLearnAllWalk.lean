/- The walk of the law LearnAll. -/
import Derived.Test.YtapjnfhbjmeniaaLearn3
import Derived.Test.YtapjnfhbjmeniaaHornD
import Derived.Test.YtapjnfhbjmeniaaOpenJ
import Derived.Test.YtapjnfhbjmeniaaErrQ
import Derived.Deep.DeepCutAuto
import Derived.Deep.CutBlock
import Derived.Deep.Cut
namespace Go.Proofs.Ytapjnfhbjmeniaa
open Go.RowKit

theorem rows_rev {ls : List (List Int)} {m : Int} (h : rowsErr ls m = 0) : rowsErr ls.reverse m = 0 := by
  have hz := rowsErr_zero.1 h
  exact rowsErr_zero.2 ⟨hz.1, hz.2.1, by rw [List.length_reverse]; exact hz.2.2.1, fun r hr => hz.2.2.2 r (by simpa using hr)⟩
/-- What was learnt: shares of as many signs, none without one. -/
theorem learnt_facts {ls : List (List Int)} {m : Nat} (h : rowsErr ls m = 0) : (Ph.scaled (Ph.cnts ls.flatten m)).length = m ∧ Ph.sharesOk (Ph.scaled (Ph.cnts ls.flatten m)) ∧ ∀ s : Int, 0 ≤ s → s < m → Ph.good (Ph.scaled (Ph.cnts ls.flatten m)) s := by
  have h0 := cnts_scale h
  have hz := scaleErr_zero.1 h0
  have hf := (Ph.scaled_ok hz.2.1 (fun x hx => (hz.2.2.1 x hx).1) hz.2.2.2).1
  have hl : (Ph.scaled (Ph.cnts ls.flatten m)).length = m := by rw [hf.1, Ph.cnts_length]
  refine ⟨hl, scaled_shares h0, fun s hs1 hs2 => ⟨hs1, by omega, ?_⟩⟩
  have h1 := (hf.2 s.toNat (by rw [Ph.cnts_length]; omega)).2.2 (by rw [Ph.cnts_getD _ (by omega)]; omega)
  omega
theorem hornErr_learnt {ls : List (List Int)} {m : Nat} (h : rowsErr ls m = 0) {row : List Int} (hr : ∀ x ∈ row, 0 ≤ x ∧ x < m) (hl : row.length ≤ 60) : hornErr (Ph.scaled (Ph.cnts ls.flatten m)) row = 0 := by
  obtain ⟨_, h1, h2⟩ := learnt_facts h
  exact hornErr_zero.2 ⟨h1, hl, fun s hs => h2 s (hr s hs).1 (hr s hs).2⟩
theorem hornErr_long {f row : List Int} (hf : Ph.sharesOk f) (h : 60 < row.length) : hornErr f row = 4 := by
  unfold hornErr
  rw [if_neg (by have := shErr_zero.2 hf; omega), if_pos h]
/-- The last k rows, the last one first. -/
def lastR (ls : List (List Int)) (k : Nat) : List (List Int) := ls.reverse.take k
theorem lastR_succ {ls : List (List Int)} {k : Nat} (h : k < ls.length) : lastR ls (k + 1) = lastR ls k ++ [ls.getD (ls.length - 1 - k) []] := by
  unfold lastR
  rw [List.take_add_one, List.getElem?_eq_getElem (by simpa using h), List.getElem_reverse, List.getD_eq_getElem?_getD, List.getElem?_eq_getElem (by omega)]
  rfl
theorem lastR_all (ls : List (List Int)) : lastR ls ls.length = ls.reverse := by unfold lastR; exact List.take_of_length_le (by simp)
set_option maxHeartbeats 8000000 in
set_option maxRecDepth 1000000 in
theorem learnAll_walk (w : World) (A1 : Option Addr) (n1 c1 : Nat) (ls : List (List Int)) (h1 : RdR w w.heap.size A1 n1 ls) (_hb1 : n1 ≤ c1 ∧ c1 ≤ 5864062014804) (_ : ∀ l ∈ ls, l.length ≤ 17592186044415 ∧ ∀ x ∈ l, Is64 x) (m : Int)
    (A2 : Option Addr) (n2 c2 : Nat) (row : List Int) (h2 : RdI w w.heap.size A2 n2 row) (hb2 : n2 ≤ c2 ∧ c2 ≤ 17592186044415) (hm2 : (∀ x ∈ row, Is64 x) ∧ (A2 = none → c2 = 0)) (A3 : Option Addr) (n3 c3 : Nat) (more : List Int) (h3 : RdI w w.heap.size A3 n3 more) (hb3 : n3 ≤ c3 ∧ c3 ≤ 17592186044415) (hm3 : (∀ x ∈ more, Is64 x) ∧ (A3 = none → c3 = 0)) :
    Calls Try.prog 4 #[.slice A1 n1 c1, .int .i64 m, .slice A2 n2 c2, .slice A3 n3 c3] w fun e w' => e = .returned (.bool true) ∧ Below w.heap.size w w' := by
  have H1 := Lib.hid h1
  have H2 := Lib.hid h2
  have H3 := Lib.hid h3
  have HL := Lib.hid h1.len
  have HL2 := Lib.hid h2.len
  have HL3 := Lib.hid h3.len
  have HN2 := Lib.hid hm2.2
  have HN3 := Lib.hid hm3.2
  have HC0 := Lib.hid fun W A hW => lcnt_ok A 1 1 [[0, 0, 1]] 3 W W.heap.size hW (Nat.le_refl _) (by decide +kernel)
  have hcn : Ph.cnts ([[0, 0, 1]] : List (List Int)).flatten 3 = [3, 2, 1] := by decide +kernel
  rw [hcn] at HC0
  have HSH := Lib.hid fun W hW hBW => lsh_told A1 n1 c1 ls m W w.heap.size hW hBW
  clear h1 h2 h3 hm2 hm3 hcn
  go_enter Try.func4, Try.ntmps4
  go_wp2_with fail
  have hl0 : RdR ((w.alloc (.cells #[.int .i64 0, .int .i64 0, .int .i64 1] 3)).alloc (.cells #[.slice (some ⟨w.heap.size, 0, none⟩) 3 3] 22)) ((w.alloc (.cells #[.int .i64 0, .int .i64 0, .int .i64 1] 3)).alloc (.cells #[.slice (some ⟨w.heap.size, 0, none⟩) 3 3] 22)).heap.size (some ⟨w.heap.size + 1, 0, none⟩) 1 [[0, 0, 1]] := by
    refine ⟨[.slice (some ⟨w.heap.size, 0, none⟩) 3 3], ⟨rfl, fun _ => ⟨w.heap.size + 1, 0, rfl, by simp, fun j hj => ?_⟩⟩, ⟨some ⟨w.heap.size, 0, none⟩, 3, rfl, ⟨by simp, fun h => by cases h⟩, (RdI.lit' w [0, 0, 1] 3 #[.int .i64 0, .int .i64 0, .int .i64 1] (by rfl)).onAlloc _⟩, trivial⟩
    obtain rfl : j = 0 := by omega
    have h5 := cell_of_alloc (w.alloc (.cells #[.int .i64 0, .int .i64 0, .int .i64 1] 3)) (.slice (some ⟨w.heap.size, 0, none⟩) 3 3) 22
    rw [World.size_alloc] at h5
    exact h5
  refine (HC0.out _ _ hl0).mono ?_
  rintro e w1 ⟨A4, c4, rfl, hr4, hb⟩
  have HB1 := Lib.hid (below_on (below_onAlloc (below_alloc0 w _) _) hb)
  obtain ⟨b4, o4, rfl, _, x0⟩ := hr4.at_ (k := 0) (by omega)
  obtain ⟨b5, o5, hq5, _, x1⟩ := hr4.at_ (k := 1) (by omega)
  obtain ⟨b6, o6, hq6, _, x2⟩ := hr4.at_ (k := 2) (by omega)
  obtain ⟨rfl, rfl⟩ : b4 = b5 ∧ o4 = o5 := by simpa using hq5
  obtain ⟨rfl, rfl⟩ : b4 = b6 ∧ o4 = o6 := by simpa using hq6
  simp at x0 x1 x2
  clear hl0 hb hr4 HC0 hq5 hq6
  go_wp2_with fail
  refine (HSH.out _ (H1.out.below HB1.out) HB1.out.size).mono ?_
  rintro e w2 ⟨A5, n5, c5, rfl, hn5, hr5, hb⟩
  have HB2 := Lib.hid (below_on HB1.out hb)
  by_cases hE : rowsErr ls m = 0
  · have hz := rowsErr_zero.1 hE
    obtain ⟨M, rfl⟩ := Int.eq_ofNat_of_zero_le (by omega : 0 ≤ m)
    rw [if_pos hE, Int.toNat_natCast] at hr5
    rw [hE, errV_zero]
    have hlf := learnt_facts hE
    have hlen5 := hr5.len
    obtain rfl : n5 = M := by rw [← hlen5]; exact hlf.1
    have hrv := rows_rev hE
    have HSB := Lib.hid fun A c W hW => lsh_told A n1 c ls.reverse (n5 : Int) W W.heap.size hW (Nat.le_refl _)
    rw [hrv, Int.toNat_natCast, Ph.cnts_perm (Ph.flat_rev_perm ls)] at HSB
    have HOR := Lib.hid fun (r : List Int) (hr : ∀ x ∈ r, 0 ≤ x ∧ x < (n5 : Int)) (hl : r.length ≤ 60) => hornErr_learnt hE hr hl
    have HLO := Lib.hid fun (r : List Int) (h : 60 < r.length) => hornErr_long hlf.2.1 h
    have HSO := Lib.hid hlf.2.1
    obtain ⟨f, hf⟩ : ∃ f, f = Ph.scaled (Ph.cnts ls.flatten n5) := ⟨_, rfl⟩
    rw [← hf] at hr5 HSB HOR HLO HSO
    have HR5 := Lib.hid hr5
    have hm5 : 1 ≤ n5 ∧ n5 ≤ 40 := by omega
    have hn1 : n1 ≤ 60 := by have := hz.2.2.1; rw [HL.out] at this; exact this
    clear hb hr5 hE hz hlf hlen5 hrv hf HSH x0 x1 x2 hn5 HB1
    go_wp2_with fail
    go_loopw [13, 14] (fun so i wr => ∃ (k : Nat) (A : Option Addr) (c : Nat) (vs : List Value), k ≤ n1 ∧ i = .int .i64 ((n1 : Int) - 1 - (k : Int)) ∧ so = .slice A k c ∧ Hid (wr.ownsRow w2.heap.size 22 1 (.slice A k c) k vs) ∧ Hid (RowsV w w.heap.size vs (lastR ls k)) ∧ Hid (Below w2.heap.size w2 wr)) (fun _ i _ => (intOf i + 1).toNat)
    case atStart => exact ⟨0, none, 0, [], Nat.zero_le _, by simp, rfl, Lib.hid (World.ownsRow_nil _ _ _ _), Lib.hid trivial, Lib.hid (Below.refl _ _)⟩
    case round =>
      obtain ⟨k, A, c, vs, hk, rfl, rfl, HO, HV, HBW⟩ := hrel
      by_cases hlt : k < n1
      · obtain ⟨I, hI⟩ : ∃ I, I = n1 - 1 - k := ⟨_, rfl⟩
        have hIi : (n1 : Int) - 1 - (k : Int) = (I : Int) := by omega
        obtain ⟨b7, o7, A7, c7, hA7, hb7, hc7, hv7⟩ := H1.out.at3 (k := I) (by omega)
        have hls := lastR_succ (ls := ls) (k := k) (by rw [HL.out]; exact hlt)
        rw [HL.out, ← hI] at hls
        subst hA7
        have HVN : Hid (RowsV w w.heap.size (vs ++ [.slice A7 (ls.getD I []).length c7]) (lastR ls (k + 1))) := Lib.hid (by rw [hls]; exact HV.out.snoc hv7)
        have hcw := ((HB2.out.trans (HBW.out.mono HB2.out.size)).cell (p := ⟨b7, o7 + I, none⟩) hb7).trans hc7
        rw [hIi]
        obtain ⟨L, hL⟩ : ∃ L, L = (ls.getD I []).length := ⟨_, rfl⟩
        rw [← hL] at hcw HVN
        have hI0 : (0 : Int) ≤ (I : Int) := by omega
        have hI1 : (I : Int) < (n1 : Int) := by omega
        have hkI : k + I + 1 = n1 := by omega
        clear hls hc7 hv7 hI hIi hL
        go_wp2_with (at_builtin; refine wpList_pushR _ (by rfl) _ _ (by rfl) w2 w2.heap.size A k c vs (.slice A7 L c7) HO.out HBW.out HBW.out.size (by rfl) (by omega) (by rfl) (by rfl) ?_; intro g cap w6 ho6 hb6 hgr)
        have HO6 := Lib.hid ho6
        have HB6 := Lib.hid hb6
        clear ho6 hb6 hgr hcw
        go_wp2_with fail
        go_roundw
        case rel => exact ⟨k + 1, some ⟨g, 0, none⟩, cap, vs ++ [.slice A7 L c7], by omega, by congr 1; omega, rfl, HO6, HVN, HB6⟩
        case measure => simp [intOf]
      · obtain rfl : k = n1 := by omega
        have hv := HV.out
        rw [← HL.out, lastR_all] at hv
        have HBW2 := Lib.hid (HB2.out.trans (HBW.out.mono HB2.out.size))
        have hrd : RdR wr wr.heap.size A k ls.reverse := RdR.own HO.out ((hv.below HBW2.out).more HBW2.out.size)
        have HRD := Lib.hid hrd
        have hge : ¬ (0 : Int) ≤ (k : Int) - 1 - (k : Int) := by omega
        clear hv hrd HV
        go_wp2_with fail
        refine (HSB.out A c _ HRD.out).mono ?_
        rintro e w3 ⟨A8, n8, c8, rfl, _, hr8, hb⟩
        rw [if_pos rfl] at hr8
        have HR8 := Lib.hid hr8
        have HB3 := Lib.hid (below_on HBW2.out hb)
        have HR53 := Lib.hid ((HR5.out.on HBW.out).on hb)
        have hn8 : n8 = n5 := by rw [← hr8.len]; exact HR5.out.len
        subst hn8
        clear hb hr8 HRD HSB HO HBW HBW2
        have j1 : ((n8 : Int) != (n8 : Int)) = false := by simp
        rw [errV_zero]
        go_wp2_with fail
        refine (ints_any A5 A8 n8 c5 n8 c8 _ _ _ _ _ HR53.out HR8.out (Nat.le_refl _) (Nat.le_refl _) (by omega)).mono ?_
        rintro e w4 ⟨rfl, hb⟩
        have HB4 := Lib.hid (below_on HB3.out hb)
        have HR54 := Lib.hid (HR53.out.on hb)
        rw [sameI_true.2 rfl]
        have H2W := Lib.hid (H2.out.below HB4.out)
        clear hb HB3 HR8 HR53
        go_wp2_with fail
        go_loop [17] (fun i => ∃ q : Nat, q ≤ n2 ∧ i = .int .i64 q ∧ Hid (∀ j, j < q → 0 ≤ row.getD j 0 ∧ row.getD j 0 < (n8 : Int))) (fun i => n2 - (intOf i).toNat)
        case atStart => exact ⟨0, Nat.zero_le _, rfl, Lib.hid fun j hj => absurd hj (by omega)⟩
        case round =>
          obtain ⟨q, hq, rfl, HJ⟩ := hrel
          by_cases hqn : q < n2
          · obtain ⟨b9, o9, rfl, _, c9⟩ := H2W.out.at_ hqn
            have hext : 0 ≤ row.getD q 0 → row.getD q 0 < (n8 : Int) → ∀ j, j < q + 1 → 0 ≤ row.getD j 0 ∧ row.getD j 0 < (n8 : Int) := fun a b j hj => by
              by_cases e : j < q
              · exact HJ.out j e
              · obtain rfl : j = q := by omega
                exact ⟨a, b⟩
            have HXT := Lib.hid hext
            obtain ⟨x, hx⟩ : ∃ x, x = row.getD q 0 := ⟨_, rfl⟩
            rw [← hx] at c9 HXT
            have hqn' : (q : Int) < (n2 : Int) := by omega
            clear hx hext
            by_cases hx0 : x < 0
            · go_wp2_with fail
              go_ret
              exact ⟨rfl, HB4.out⟩
            · by_cases hxm : (n8 : Int) ≤ x
              · go_wp2_with fail
                go_ret
                exact ⟨rfl, HB4.out⟩
              · have HJ2 := Lib.hid (HXT.out (by omega) (by omega))
                go_wp2_with fail
                go_round
                case rel => exact ⟨q + 1, by omega, by go_num, HJ2⟩
                case measure => simp [intOf]; omega
          · obtain rfl : q = n2 := by omega
            have hgr : ∀ x ∈ row, 0 ≤ x ∧ x < (n8 : Int) := fun x hx => by
              obtain ⟨j, hj, rfl⟩ := List.mem_iff_getElem.1 hx
              have := HJ.out j (by rw [← HL2.out]; exact hj)
              rwa [List.getD_eq_getElem?_getD, List.getElem?_eq_getElem hj] at this
            have hn85 : n8 ≤ 100000000000000 := by omega
            have HEN := Lib.hid (hencode_any A5 n8 c5 f A2 q c2 row _ _ HR54.out (H2W.out.more HB4.out.size) (Nat.le_refl _) hn85 hb2.1)
            by_cases h60 : 60 < q
            · have he4 := HLO.out row (by rw [HL2.out]; exact h60)
              rw [he4, errV_ne (by omega)] at HEN
              have h60' : (60 : Int) < (q : Int) := by omega
              clear hgr he4 HOR HLO HJ
              go_wp2_with fail
              refine HEN.out.mono ?_
              rintro e w5 ⟨rfl, hb⟩
              have HB5 := Lib.hid (below_on HB4.out hb)
              clear hb
              go_wp2_with fail
              go_ret
              exact ⟨ret_true (by simp), HB5.out⟩
            · have he0 := HOR.out row hgr (by rw [HL2.out]; omega)
              have hz := hornErr_zero.1 he0
              have hes : encS f row = strB (Ph.bytes f row) := by unfold encS; rw [if_pos he0]
              have hbt := bytesOf_strB (Ph.bytes_lt hz.1 hz.2.2)
              have hde := decE_bytes he0
              have hnl := needs_le f row
              rw [HL2.out] at hde hnl
              rw [he0, hes, errV_zero] at HEN
              obtain ⟨S, hS⟩ : ∃ S, S = strB (Ph.bytes f row) := ⟨_, rfl⟩
              rw [← hS] at HEN hbt
              have HDC := Lib.hid fun W hW => hdecode_any A5 n8 c5 f S (q : Int) W W.heap.size hW (Nat.le_refl _) hn85
              rw [hbt, hde.1, hde.2, errV_zero] at HDC
              have HC1 := Lib.hid fun W hW1 hW2 => lcost_told A5 n8 c5 f A2 q c2 row W W.heap.size hW1 hW2 hn85
              have HC2 := Lib.hid fun W hW1 hW2 => lcost_told A5 n8 c5 f A3 n3 c3 more W W.heap.size hW1 hW2 hn85
              rw [he0, if_pos rfl, errV_zero] at HC1
              have HC3 := Lib.hid fun W A n c hW1 hW2 => lcost_told A5 n8 c5 f A n c (row ++ more) W W.heap.size hW1 hW2 hn85
              have HAP : Hid (hornErr f more = 0 → q + n3 ≤ 60 → hornErr f (row ++ more) = 0) := Lib.hid fun h3 hl => by
                have hz3 := hornErr_zero.1 h3
                refine hornErr_zero.2 ⟨hz.1, by rw [List.length_append, HL2.out, HL3.out]; omega, fun s hs => ?_⟩
                rcases List.mem_append.1 hs with h | h
                · exact hz.2.2 s h
                · exact hz3.2.2 s h
              have HNA := Lib.hid (Ph.needs_append f row more)
              have HNM : Hid (hornErr f more = 0 → Ph.needs f more ≤ 480) := Lib.hid fun h => by
                have h1 := needs_le f more
                have h2 := (hornErr_zero.1 h).2.1
                omega
              obtain ⟨D1, hD1⟩ : ∃ D, D = Ph.needs f row := ⟨_, rfl⟩
              obtain ⟨D2, hD2⟩ : ∃ D, D = Ph.needs f more := ⟨_, rfl⟩
              obtain ⟨D3, hD3⟩ : ∃ D, D = Ph.needs f (row ++ more) := ⟨_, rfl⟩
              rw [← hD1] at HC1 HNA hnl
              rw [← hD2] at HC2 HNA HNM
              rw [← hD3] at HC3 HNA
              obtain ⟨F3, hF3⟩ : ∃ F, F = hornErr f more := ⟨_, rfl⟩
              rw [← hF3] at HC2 HAP HNM
              have hD1b : D1 ≤ 480 := by omega
              clear hgr he0 hz hes hbt hde hS hD1 hD2 hD3 hF3 HOR HLO HJ hnl h60
              go_wp2_with fail
              refine HEN.out.mono ?_
              rintro e w5 ⟨rfl, hb⟩
              have HB5 := Lib.hid (below_on HB4.out hb)
              have HR55 := Lib.hid (HR54.out.on hb)
              clear hb HB4 HR54 H2W HEN
              go_wp2_with fail
              refine (HDC.out _ HR55.out).mono ?_
              rintro e w6 ⟨A9, n9, c9, rfl, hn9, _, hr, hb⟩
              have HB6 := Lib.hid (below_on HB5.out hb)
              have HR56 := Lib.hid (HR55.out.on hb)
              have HR9 := Lib.hid hr
              clear hb hr HB5 HR55 HDC
              go_wp2_with fail
              refine (ints_any A9 A2 n9 c9 q c2 _ _ _ _ _ HR9.out (H2.out.below HB6.out) (Nat.le_refl _) HB6.out.size (by omega)).mono ?_
              rintro e w7 ⟨rfl, hb⟩
              have HB7 := Lib.hid (below_on HB6.out hb)
              have HR57 := Lib.hid (HR56.out.on hb)
              rw [sameI_true.2 rfl]
              clear hb HB6 HR56 HR9
              have H2W := Lib.hid ((H2.out.below HB7.out).more HB7.out.size)
              have H3W := Lib.hid ((H3.out.below HB7.out).more HB7.out.size)
              go_wp2_with fail
              refine (HC1.out _ HR57.out H2W.out).mono ?_
              rintro e wk ⟨rfl, rfl⟩
              go_wp2_with fail
              refine (HC2.out _ HR57.out H3W.out).mono ?_
              rintro e wk ⟨rfl, rfl⟩
              by_cases hF : F3 = 0
              · rw [hF, if_pos rfl, errV_zero]
                have hD2b := HNM.out hF
                by_cases hs : 60 < q + n3
                · have hs' : (60 : Int) < (q : Int) + (n3 : Int) := by omega
                  clear hF hs HAP HNM HNA HC3
                  go_wp2_with fail
                  go_ret
                  exact ⟨rfl, HB7.out⟩
                · have hs' : ¬ (60 : Int) < (q : Int) + (n3 : Int) := by omega
                  have ha := HAP.out hF (by omega)
                  rw [ha, if_pos rfl, errV_zero] at HC3
                  have hd3 : D3 = D1 + D2 := HNA.out
                  subst hd3
                  have k1 : IntKind.i64.wrap ((D1 : Int) + (D2 : Int)) = (D1 : Int) + (D2 : Int) := IntWalk.i64_in _ (by omega)
                  have j3 : (((D1 + D2 : Nat) : Int) == (D1 : Int) + (D2 : Int)) = true := by simp
                  clear ha hF hs HAP HNM HNA
                  go_wp2_with (first
                    | (at_builtin; refine wpList_join _ (by rfl) _ _ (by rfl) w7 w7.heap.size none 0 0 [] A2 q c2 row _ (own_nil _ _ _) (Below.refl _ _) (Nat.le_refl _) H2W.out HN2.out (by omega) (by rfl) (by rfl) ?_; intro Aa ka wa hoa hba; rw [Nat.zero_add, List.nil_append] at hoa; have HOA := Lib.hid hoa; have HBA := Lib.hid hba; clear hoa hba)
                    | (at_builtin; refine wpList_join _ (by rfl) _ _ (by rfl) w7 w7.heap.size Aa q ka row A3 n3 c3 more _ HOA.out HBA.out HBA.out.size (H3W.out.below HBA.out) HN3.out (by omega) (by rfl) (by rfl) ?_; intro Ab kb wb hob hbb; have HOB := Lib.hid hob; have HBB := Lib.hid hbb; clear hob hbb))
                  have HR5b := Lib.hid (HR57.out.on HBB.out)
                  have HBX := Lib.hid (below_on HB7.out HBB.out)
                  refine (HC3.out _ Ab _ kb HR5b.out (RdI.own HOB.out)).mono ?_
                  rintro e wk ⟨rfl, rfl⟩
                  go_wp2_with fail
                  go_ret
                  exact ⟨ret_true (by simp), HBX.out⟩
              · have he := errV_ne hF
                rw [if_neg hF, he]
                clear hF he HAP HNM HNA HC3
                go_wp2_with fail
                go_ret
                exact ⟨rfl, HB7.out⟩
  · rw [errV_ne hE]
    clear hb hr5 hE HSH x0 x1 x2
    go_wp2_with fail
    go_ret
    exact ⟨rfl, HB2.out⟩
end Go.Proofs.Ytapjnfhbjmeniaa
