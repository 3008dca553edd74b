/- The document's answers, walked (chapter 10): counts, scaled. -/
import Derived.Test.YtomaipmmjngdlaaDoorRefScale
import Derived.Test.YtomaipmmjngdlaaDoorPush
namespace Go.Proofs.YtomaipmmjngdlaaDoor
open Go.RowKit

/-- The numbers that a block holds. -/
def rowOfW (w : World) (g k : Nat) : List Int := (List.range k).map fun j => match w.cell? ⟨g, j, none⟩ with
  | some v => intOf v
  | none => 0
theorem rowOfW_own {w : World} {base g k c : Nat} {l : List Int} (h : w.ownsRow base 3 1 (.slice (some ⟨g, 0, none⟩) k c) k (ivals l)) (hl : l.length = k) : rowOfW w g k = l := by
  unfold rowOfW
  apply List.ext_getElem
  · simp [hl]
  · intro i h1 h2
    have hi : i < k := by simpa using h1
    simp only [List.getElem_map, List.getElem_range]
    rw [h.cellAt i (by omega), ivals_get h2, List.getD_eq_getElem?_getD, List.getElem?_eq_getElem h2]
    rfl
set_option maxHeartbeats 4000000 in
set_option maxRecDepth 100000 in
theorem rscale_any (A : Option Addr) (n c : Nat) (l : List Int) (w : World) (B : Nat) (h : RdI w B A n l) (hB : B ≤ w.heap.size) (h0 : scaleErr l = 0) :
    Calls Tryd.prog 28 #[.slice A n c] w fun e w' => ∃ A' c', e = .returned (.slice A' n c') ∧ RdI w' w'.heap.size A' n (Ph.scaled l) ∧ Below w.heap.size w w' := by
  have hz := scaleErr_zero.1 h0
  have hl := h.len
  have HS0 := Lib.hid fun W hW => rsum_any A n c l W B hW (fun x hx => by have := hz.2.2.1 x hx; omega) (by omega)
  have hT : 0 < Ph.total l ∧ Ph.total l ≤ 40000000 := by
    have h1 := Ph.total_nonneg fun x hx => (hz.2.2.1 x hx).1
    have h2 := Ph.total_le fun x hx => (hz.2.2.1 x hx).2
    have := hz.2.2.2
    omega
  have HM := Lib.hid (Ph.mem_le_total fun x hx => (hz.2.2.1 x hx).1)
  have HZ := Lib.hid hz
  have HL := Lib.hid hl
  have H := Lib.hid h
  have H0 := Lib.hid h0
  have hn : n ≤ 40 := by omega
  have hn0 : 0 < n := by omega
  have HFI : Hid ((List.range n).map (fun i => Ph.share1 (Ph.total l) (l.getD i 0)) = Ph.firsts l) := Lib.hid (by
    apply List.ext_getElem
    · simp [Ph.firsts, hl]
    · intro i h1 h2
      have hi : i < l.length := by simpa [Ph.firsts] using h2
      have := Ph.firsts_getD l i hi
      rw [List.getD_eq_getElem?_getD, List.getElem?_eq_getElem h2] at this
      simp only [List.getElem_map, List.getElem_range]
      simpa using this.symm)
  obtain ⟨T, hTe⟩ : ∃ T, T = Ph.total l := ⟨_, rfl⟩
  rw [← hTe] at HS0 hT HM HFI
  clear h h0 hz hl hTe
  go_enter Tryd.func28, Tryd.ntmps28
  go_wp2_with fail
  refine (HS0.out _ H.out).mono ?_
  rintro e wk ⟨rfl, rfl⟩
  clear HS0
  go_wp2_with fail
  go_loopw [3, 5, 6] (fun o i _ wr => ∃ (k : Nat) (A4 : Option Addr) (c4 : Nat), k ≤ n ∧ i = .int .i64 k ∧ o = .slice A4 k c4 ∧ wr.ownsRow w.heap.size 3 1 (.slice A4 k c4) k (ivals ((List.range k).map (fun i => Ph.share1 T (l.getD i 0)))) ∧ Below w.heap.size w wr) (fun _ i _ _ => n - (intOf i).toNat)
  case atStart => exact ⟨0, none, 0, Nat.zero_le _, rfl, rfl, own_nil _ _ _, Below.refl _ _⟩
  case round =>
    obtain ⟨k, A4, c4, hk, rfl, rfl, hown, hbw⟩ := hrel
    rename World => wr
    have HO := Lib.hid hown
    have HBW := Lib.hid hbw
    clear hown hbw
    by_cases hlt : k < n
    · obtain ⟨b, off, rfl, _, hc⟩ := (H.out.below (HBW.out.mono hB)).at_ hlt
      have hkl : k < l.length := by rw [HL.out]; exact hlt
      have hx := HZ.out.2.2.1 _ (Ph.getD_mem (l := l) (i := k) hkl)
      have hxT := HM.out _ (Ph.getD_mem (l := l) (i := k) hkl)
      have hP : Hid ((List.range (k + 1)).map (fun i => Ph.share1 T (l.getD i 0)) = (List.range k).map (fun i => Ph.share1 T (l.getD i 0)) ++ [Ph.share1 T (l.getD k 0)]) := Lib.hid (by rw [List.range_succ, List.map_append]; rfl)
      obtain ⟨x, hxe⟩ : ∃ x, x = l.getD k 0 := ⟨_, rfl⟩
      rw [← hxe] at hc hx hxT hP
      have k1 : IntKind.i64.wrap (x * 256) = x * 256 := IntWalk.i64_in _ (by omega)
      have hq0 : 0 ≤ x * 256 / T := Int.ediv_nonneg (by omega) (by omega)
      have hTn : ¬ T = 0 := by omega
      have hx1 : (0 : Int) ≤ x * 256 := by omega
      have hq1 : x * 256 / T ≤ 256000000 := Int.le_trans (Int.ediv_le_self _ hx1) (by omega)
      have htd : (x * 256).tdiv T = x * 256 / T := Int.tdiv_eq_ediv_of_nonneg hx1
      have hlt' : (k : Int) < (n : Int) := by omega
      have hsh : Ph.share1 T x = if x * 256 / T = 0 ∧ 0 < x then 1 else x * 256 / T := by
        unfold Ph.share1
        by_cases hx0 : 0 < x
        · rw [if_pos hx0]
          by_cases hq : x * 256 / T < 1
          · rw [if_pos hq, if_pos ⟨by omega, hx0⟩]
          · rw [if_neg hq, if_neg (by omega)]
        · have : x = 0 := by omega
          rw [if_neg hx0, if_neg (by omega), this]; simp
      obtain ⟨Q, hQ⟩ : ∃ Q, Q = x * 256 / T := ⟨_, rfl⟩
      rw [← hQ] at hq0 hq1 htd hsh
      have hqw : IntKind.i64.wrap Q = Q := IntWalk.i64_in _ (by omega)
      have hQs := hQ.symm
      clear hxe hkl
      by_cases hcase : Q = 0 ∧ 0 < x
      · have HSH : Hid (Ph.share1 T x = 1) := Lib.hid (by rw [hsh, if_pos hcase])
        have hQ0 : (Q == 0) = true := by simp [hcase.1]
        have hx0 := hcase.2
        clear hsh hcase hQ
        go_wp2_with (at_builtin; refine wpList_push _ (by rfl) _ _ (by rfl) w w.heap.size A4 k c4 _ 1 HO.out HBW.out HBW.out.size (by omega) (by rfl) (by rfl) ?_; intro g cap w2 ho2 hb2)
        have HO2 := Lib.hid ho2
        have HB2 := Lib.hid hb2
        clear ho2 hb2
        go_wp2_with fail
        go_roundw
        case rel => exact ⟨k + 1, some ⟨g, 0, none⟩, cap, by omega, by go_num, rfl, by rw [hP.out, HSH.out]; exact HO2.out, HB2.out⟩
        case measure => simp [intOf]; omega
      · have HSH : Hid (Ph.share1 T x = Q) := Lib.hid (by rw [hsh, if_neg hcase])
        have hcs : ¬ Q = 0 ∨ (Q = 0 ∧ ¬ 0 < x) := by omega
        clear hsh hcase hQ
        rcases hcs with hQ0 | ⟨hQ0, hx0⟩
        · have hQb : (Q == 0) = false := by simp [hQ0]
          clear hQ0
          go_wp2_with (at_builtin; refine wpList_push _ (by rfl) _ _ (by rfl) w w.heap.size A4 k c4 _ Q HO.out HBW.out HBW.out.size (by omega) (by rfl) (by rfl) ?_; intro g cap w2 ho2 hb2)
          have HO2 := Lib.hid ho2
          have HB2 := Lib.hid hb2
          clear ho2 hb2
          go_wp2_with fail
          go_roundw
          case rel => exact ⟨k + 1, some ⟨g, 0, none⟩, cap, by omega, by go_num, rfl, by rw [hP.out, HSH.out]; exact HO2.out, HB2.out⟩
          case measure => simp [intOf]; omega
        · have hQb : (Q == 0) = true := by simp [hQ0]
          clear hQ0
          go_wp2_with (at_builtin; refine wpList_push _ (by rfl) _ _ (by rfl) w w.heap.size A4 k c4 _ Q HO.out HBW.out HBW.out.size (by omega) (by rfl) (by rfl) ?_; intro g cap w2 ho2 hb2)
          have HO2 := Lib.hid ho2
          have HB2 := Lib.hid hb2
          clear ho2 hb2
          go_wp2_with fail
          go_roundw
          case rel => exact ⟨k + 1, some ⟨g, 0, none⟩, cap, by omega, by go_num, rfl, by rw [hP.out, HSH.out]; exact HO2.out, HB2.out⟩
          case measure => simp [intOf]; omega
    · obtain rfl : k = n := by omega
      have hO := HO.out
      rw [HFI.out] at hO
      obtain ⟨g, rfl, hgb, _⟩ := own_form hO hn0
      have HO1 := Lib.hid hO
      have HA := Lib.hid (adj_start H0.out)
      have hcap := own_cap hO
      rename World => wa
      clear hO HO HFI
      go_wp2_with fail
      go_loopw [7, 8] (fun _ _ wr => ∃ cur : List Int, Hid (Adj l cur) ∧ Hid (wr.ownsRow w.heap.size 3 1 (.slice (some ⟨g, 0, none⟩) k c4) k (ivals cur)) ∧ Hid (Below w.heap.size w wr)) (fun _ _ wr => (256 - Ph.total (rowOfW wr g k)).natAbs)
      case atStart => exact ⟨_, HA, HO1, HBW⟩
      case round =>
        obtain ⟨cur, HC, HO, HB2⟩ := hrel
        rename World => wr
        clear HO1 HBW HA
        have hcl : cur.length = k := by have := HC.out.2.1; rw [HL.out] at this; exact this
        have HCL := Lib.hid hcl
        have htb := HC.out.2.2.2
        have hpos : ∀ x ∈ cur, -1000000000 ≤ x ∧ x ≤ 1000000000 := fun x hx => by
          obtain ⟨j, hj, rfl⟩ := List.mem_iff_getElem.1 hx
          have := adj_bd HC.out j
          rw [List.getD_eq_getElem?_getD, List.getElem?_eq_getElem hj] at this
          simp at this; omega
        have HSU := Lib.hid fun W hW => rsum_any (some ⟨g, 0, none⟩) k c4 cur W W.heap.size hW hpos (by omega)
        have HM0 : Hid (Ph.total (rowOfW wr g k) = Ph.total cur) := Lib.hid (by rw [rowOfW_own HO.out hcl])
        by_cases ht : Ph.total cur = 256
        · have hfin : Hid (cur = Ph.scaled l) := Lib.hid (by rw [← HC.out.1, Ph.finish_done ht])
          rw [ht] at HSU
          clear hcl ht htb hpos HM0
          go_wp2_with fail
          refine (HSU.out _ (RdI.own HO.out)).mono ?_
          rintro e wk ⟨rfl, rfl⟩
          go_wp2_with fail
          go_ret
          refine ⟨some ⟨g, 0, none⟩, c4, rfl, ?_, HB2.out⟩
          rw [← hfin.out]
          exact RdI.own HO.out
        · have hst := adj_step H0.out HC.out ht
          obtain ⟨t, hte⟩ : ∃ t, t = Ph.total cur := ⟨_, rfl⟩
          have hq : Ph.best (fun i => cur.getD i 0) k = Ph.bestL cur := by unfold Ph.bestL; rw [hcl]
          have HQ := Lib.hid hq
          have HST := Lib.hid hst
          rw [← hte] at HSU htb ht
          have HTE := Lib.hid hte
          have htn : (t != 256) = true := by simp [ht]
          clear hst hq hte hpos hcl
          go_wp2_with fail
          refine (HSU.out _ (RdI.own HO.out)).mono ?_
          rintro e wk ⟨rfl, rfl⟩
          go_wp2_with fail
          go_loopw [7, 8] (fun b i wr3 => ∃ j : Nat, j ≤ k ∧ i = .int .i64 j ∧ b = .int .i64 (Ph.best (fun i => cur.getD i 0) j : Nat) ∧ Hid (wr3.ownsRow w.heap.size 3 1 (.slice (some ⟨g, 0, none⟩) k c4) k (ivals cur)) ∧ Hid (Below w.heap.size w wr3)) (fun _ i _ => k - (intOf i).toNat)
          case atStart => exact ⟨0, Nat.zero_le _, rfl, rfl, HO, HB2⟩
          case round =>
            obtain ⟨j, hj, rfl, rfl, V1, VB⟩ := hrel
            rename World => wu
            by_cases hjk : j < k
            · have hbj : Ph.best (fun i => cur.getD i 0) j ≤ j := by
                cases j with
                | zero => exact Nat.le_refl _
                | succ m => have := Ph.best_lt (fun i => cur.getD i 0) m; omega
              have hbs : Ph.best (fun i => cur.getD i 0) (j + 1) = if cur.getD (Ph.best (fun i => cur.getD i 0) j) 0 < cur.getD j 0 then j else Ph.best (fun i => cur.getD i 0) j := by rw [Ph.best]
              obtain ⟨b, hb⟩ : ∃ b, b = Ph.best (fun i => cur.getD i 0) j := ⟨_, rfl⟩
              rw [← hb] at hbj hbs ⊢
              have c1 : wu.cell? ⟨g, j, none⟩ = some (.int .i64 (cur.getD j 0)) := by rw [V1.out.cellAt j (by omega), ivals_get (by rw [HCL.out]; omega)]
              have c2 : wu.cell? ⟨g, b, none⟩ = some (.int .i64 (cur.getD b 0)) := by rw [V1.out.cellAt b (by omega), ivals_get (by rw [HCL.out]; omega)]
              obtain ⟨x, hx⟩ : ∃ x, x = cur.getD j 0 := ⟨_, rfl⟩
              obtain ⟨y, hy⟩ : ∃ y, y = cur.getD b 0 := ⟨_, rfl⟩
              rw [← hx] at c1 hbs
              rw [← hy] at c2 hbs
              have hjk' : (j : Int) < (k : Int) := by omega
              have hbk' : (b : Int) < (k : Int) := by omega
              by_cases hcmp : y < x
              · have HBS : Hid (Ph.best (fun i => cur.getD i 0) (j + 1) = j) := Lib.hid (by rw [hbs, if_pos hcmp])
                clear hb hbs hx hy hbj
                go_wp2_with fail
                go_quiet (fail)
                go_wp2_with fail
                go_roundw
                case rel => exact ⟨j + 1, by omega, by go_num, by rw [HBS.out], Lib.hid (own_drewN V1.out _), Lib.hid (below_drewN' VB.out _)⟩
                case measure => simp [intOf]; omega
              · have HBS : Hid (Ph.best (fun i => cur.getD i 0) (j + 1) = b) := Lib.hid (by rw [hbs, if_neg hcmp])
                clear hb hbs hx hy hbj
                go_wp2_with fail
                go_quiet (fail)
                go_wp2_with fail
                go_roundw
                case rel => exact ⟨j + 1, by omega, by go_num, by rw [HBS.out], Lib.hid (own_drewN V1.out _), Lib.hid (below_drewN' VB.out _)⟩
                case measure => simp [intOf]; omega
            · obtain rfl : j = k := by omega
              rw [HQ.out]
              obtain ⟨q, hq⟩ : ∃ q, q = Ph.bestL cur := ⟨_, rfl⟩
              have hqk : q < j := by have := HST.out.2.2; rw [← hq, HCL.out] at this; exact this
              have hbd := adj_bd HC.out q
              have c1 : wu.cell? ⟨g, q, none⟩ = some (.int .i64 (cur.getD q 0)) := by rw [V1.out.cellAt q (by omega), ivals_get (by rw [HCL.out]; omega)]
              have f4 : wu.frozen? ⟨g, q, none⟩ = false := V1.out.frozenAt q
              obtain ⟨y, hy⟩ : ∃ y, y = cur.getD q 0 := ⟨_, rfl⟩
              rw [← hy] at c1 hbd
              rw [← hq]
              have HQ2 := Lib.hid hq
              have HY := Lib.hid hy
              have hqk' : (q : Int) < (j : Int) := by omega
              clear hq hy hjk
              by_cases hgt : 256 < t
              · have hd : Ph.dirn cur = -1 := by unfold Ph.dirn; rw [if_pos (by rw [← HTE.out]; exact hgt)]
                have hst := HST.out
                rw [hd, ← HQ2.out, ← HTE.out] at hst
                have s1 := (V1.out.stored q (.int .i64 (y - 1))).1
                rw [ivals_set] at s1
                have hbu : Ph.bump cur q (-1) = cur.set q (y - 1) := by unfold Ph.bump; rw [← HY.out]; rfl
                rw [← hbu] at s1
                have S1 := Lib.hid s1
                have SB := Lib.hid (VB.out.setCell (p := ⟨g, q, none⟩) hgb (.int .i64 (y - 1)))
                have SA := Lib.hid hst.1
                have hme := rowOfW_own s1 (by rw [Ph.bump_length, HCL.out])
                have HME : Hid (Ph.total (rowOfW (wu.setCell ⟨g, q, none⟩ (.int .i64 (y - 1))) g j) = t - 1) := Lib.hid (by rw [hme, hst.2.1]; omega)
                have HM1 : Hid (Ph.total (rowOfW wr g j) = t) := Lib.hid (by rw [HM0.out, HTE.out])
                clear hd hst s1 hbu hme
                go_wp2_with fail
                refine (HSU.out _ (RdI.own V1.out)).mono ?_
                rintro e wk ⟨rfl, rfl⟩
                go_wp2_with fail
                go_roundw
                case rel => exact ⟨_, SA, S1, SB⟩
                case measure => rw [HME.out, HM1.out]; omega
              · have hd : Ph.dirn cur = 1 := by unfold Ph.dirn; rw [if_neg (by rw [← HTE.out]; omega)]
                have hst := HST.out
                rw [hd, ← HQ2.out, ← HTE.out] at hst
                have s1 := (V1.out.stored q (.int .i64 (y + 1))).1
                rw [ivals_set] at s1
                have hbu : Ph.bump cur q 1 = cur.set q (y + 1) := by unfold Ph.bump; rw [← HY.out]
                rw [← hbu] at s1
                have S1 := Lib.hid s1
                have SB := Lib.hid (VB.out.setCell (p := ⟨g, q, none⟩) hgb (.int .i64 (y + 1)))
                have SA := Lib.hid hst.1
                have hme := rowOfW_own s1 (by rw [Ph.bump_length, HCL.out])
                have HME : Hid (Ph.total (rowOfW (wu.setCell ⟨g, q, none⟩ (.int .i64 (y + 1))) g j) = t + 1) := Lib.hid (by rw [hme, hst.2.1])
                have HM1 : Hid (Ph.total (rowOfW wr g j) = t) := Lib.hid (by rw [HM0.out, HTE.out])
                clear hd hst s1 hbu hme
                go_wp2_with fail
                refine (HSU.out _ (RdI.own V1.out)).mono ?_
                rintro e wk ⟨rfl, rfl⟩
                go_wp2_with fail
                go_roundw
                case rel => exact ⟨_, SA, S1, SB⟩
                case measure => rw [HME.out, HM1.out]; omega
end Go.Proofs.YtomaipmmjngdlaaDoor
