/- The walk of the law LearnTells. -/
import Derived.Test.YtomaipmmjngdlaaDoorTold
import Derived.Test.YtomaipmmjngdlaaDoorLearn3
import Derived.Test.YtomaipmmjngdlaaDoorRefScale2
import Derived.Test.YtomaipmmjngdlaaDoorOpen
import Derived.Deep.DeepCutAuto
import Derived.Deep.CutBlock
import Derived.Deep.Cut
namespace Go.Proofs.YtomaipmmjngdlaaDoor
open Go.RowKit

theorem hornErr_bd (f l : List Int) : -100 ≤ hornErr f l ∧ hornErr f l ≤ 100 := by
  have hr : ∀ l : List Int, -100 ≤ Ph.rowErr f l ∧ Ph.rowErr f l ≤ 100 := by
    intro l
    induction l with
    | nil => simp [Ph.rowErr]
    | cons x l ih => rw [Ph.rowErr]; split; · omega
                     split <;> omega
  have := hr l
  unfold hornErr
  split
  · omega
  · split <;> omega
set_option maxHeartbeats 4000000 in
set_option maxRecDepth 1000000 in
theorem learnTells_walk (w : World) (A1 : Option Addr) (n1 c1 : Nat) (ls : List (List Int)) (h1 : RdR w w.heap.size A1 n1 ls) (_hb1 : n1 ≤ c1 ∧ c1 ≤ 5864062014804) (_ : ∀ l ∈ ls, l.length ≤ 17592186044415 ∧ ∀ x ∈ l, Is64 x) (m : Int)
    (A2 : Option Addr) (n2 c2 : Nat) (f : List Int) (h2 : RdI w w.heap.size A2 n2 f) (hb2 : n2 ≤ c2 ∧ c2 ≤ 17592186044415) (_ : ∀ x ∈ f, Is64 x) (A3 : Option Addr) (n3 c3 : Nat) (row : List Int) (h3 : RdI w w.heap.size A3 n3 row) (_ : n3 ≤ c3 ∧ c3 ≤ 17592186044415) (_ : ∀ x ∈ row, Is64 x) (hg : Laid w) :
    Calls Tryd.prog 7 #[.slice A1 n1 c1, .int .i64 m, .slice A2 n2 c2, .slice A3 n3 c3] w fun e w' => e = .returned (.bool true) ∧ Below w.heap.size w w' := by
  have HG := Lib.hid hg
  have H1 := Lib.hid h1
  have H2 := Lib.hid h2
  have H3 := Lib.hid h3
  have HL := Lib.hid h1.len
  have hn2 : n2 ≤ 100000000000000 := by omega
  have HRO := Lib.hid fun W hW => rrows_any A1 n1 c1 ls m W w.heap.size hW
  have HZ : Hid (rowsErr ls m = 0 → ∃ M : Nat, m = (M : Int) ∧ 1 ≤ M ∧ M ≤ 40 ∧ n1 ≤ 60 ∧ (∀ r ∈ ls, r.length ≤ 60) ∧ (∀ k, (ls.take k).flatten.length ≤ 3600) ∧ scaleErr (Ph.cnts ls.flatten M) = 0) := Lib.hid fun h => by
    have hz := rowsErr_zero.1 h
    obtain ⟨M, rfl⟩ := Int.eq_ofNat_of_zero_le (by omega : 0 ≤ m)
    refine ⟨M, rfl, by omega, by omega, by have := h1.len; omega, fun r hr => (hz.2.2.2 r hr).1, fun k => ?_, cnts_scale h⟩
    have h1 := Ph.flat_le (ls := ls.take k) (b := 60) (fun x hx => (hz.2.2.2 x (List.mem_of_mem_take hx)).1)
    have h2 : (ls.take k).length ≤ 60 := by rw [List.length_take]; omega
    omega
  have HCN := Lib.hid fun W hW hBW => lcnt_told A1 n1 c1 ls m W w.heap.size hW hBW
  have HSH := Lib.hid fun W hW hBW => lsh_told A1 n1 c1 ls m W w.heap.size hW hBW
  have HEB := Lib.hid (rowsErr_bd ls m)
  have HRW := Lib.hid fun W hW1 hW2 => rhrow_any A2 n2 c2 f A3 n3 c3 row W w.heap.size hW1 hW2 hn2
  have HND := Lib.hid fun W hW1 hW2 h0 => rneed_any A2 n2 c2 f A3 n3 c3 row W w.heap.size hW1 hW2 h0
  have HCO := Lib.hid fun W hW1 hW2 => lcost_told A2 n2 c2 f A3 n3 c3 row W w.heap.size hW1 hW2 hn2
  have HFB := Lib.hid (hornErr_bd f row)
  have HNL : Hid (0 ≤ (Ph.needs f row : Int)) := Lib.hid (by omega)
  obtain ⟨E, hE⟩ : ∃ E, E = rowsErr ls m := ⟨_, rfl⟩
  rw [← hE] at HRO HZ HCN HSH HEB
  obtain ⟨F, hF⟩ : ∃ F, F = hornErr f row := ⟨_, rfl⟩
  rw [← hF] at HRW HND HCO HFB
  obtain ⟨X, hX⟩ : ∃ X, X = Ph.cnts ls.flatten m.toNat := ⟨_, rfl⟩
  rw [← hX] at HCN HSH
  obtain ⟨Y, hY⟩ : ∃ Y, Y = Ph.scaled X := ⟨_, rfl⟩
  rw [← hY] at HSH
  obtain ⟨D, hD⟩ : ∃ D : Int, D = (Ph.needs f row : Nat) := ⟨_, rfl⟩
  rw [← hD] at HND HCO HNL
  have HX := Lib.hid hX
  have HY := Lib.hid hY
  clear h1 h2 h3 hg hE hF hX hY hD
  go_enter Tryd.func7, Tryd.ntmps7
  go_wp2_with fail
  refine (HRO.out _ H1.out).mono ?_
  rintro e wk ⟨rfl, rfl⟩
  go_upto_block 0 with (fail)
  go_cut [10, 12, 13, 14, 15] (fun s10 _ _ _ _ wx => (∃ A n c, s10 = .slice A n c ∧ n ≤ 100000 ∧ Hid (RdI wx wx.heap.size A n (if E = 0 then X else []))) ∧ Hid (Below w.heap.size w wx))
  case first =>
    by_cases hE : E = 0
    · have hEb : (E == 0) = true := by simp [hE]
      have HE := Lib.hid hE
      obtain ⟨M, rfl, hM1, hM40, hn60, hr60, hfl, hsc⟩ := HZ.out hE
      have HR60 := Lib.hid hr60
      have HFL := Lib.hid hfl
      have HXE : Hid (X = Ph.cnts ls.flatten M) := Lib.hid HX.out
      clear hE hr60 hfl hsc HZ HRO HCN HSH HRW HND HCO HX
      go_wp2_with fail
      go_loopw [10, 12, 13, 14, 15] (fun o i _ _ _ wr => ∃ (k : Nat) (A6 : Option Addr) (c6 : Nat), k ≤ M ∧ i = .int .i64 k ∧ o = .slice A6 k c6 ∧ wr.ownsRow w.heap.size 3 1 (.slice A6 k c6) k (ivals ((Ph.cnts ls.flatten M).take k)) ∧ Below w.heap.size w wr) (fun _ i _ _ _ _ => M - (intOf i).toNat)
      case atStart => exact ⟨0, none, 0, Nat.zero_le _, rfl, rfl, own_nil _ _ _, Below.refl _ _⟩
      case round =>
        obtain ⟨k, A6, c6, hk, rfl, rfl, hown, hbw⟩ := hrel
        rename World => wr
        have HO := Lib.hid hown
        have HBW := Lib.hid hbw
        clear hown hbw
        by_cases hlt : k < M
        · have hlt' : (k : Int) < (M : Int) := by omega
          have HSN := Lib.hid (Ph.cnts_take ls.flatten hlt)
          have H1W := Lib.hid (H1.out.below HBW.out)
          go_wp2_with fail
          go_loop [13, 14, 15] (fun t i _ => ∃ q : Nat, q ≤ n1 ∧ i = .int .i64 q ∧ t = .int .i64 (1 + (((ls.take q).flatten.count (k : Int) : Nat) : Int))) (fun _ i _ => n1 - (intOf i).toNat)
          case atStart => exact ⟨0, Nat.zero_le _, rfl, by simp⟩
          case round =>
            obtain ⟨q, hq, rfl, rfl⟩ := hrel
            by_cases hqn : q < n1
            · obtain ⟨b, off, A7, c7, rfl, _, hc, _, hr⟩ := H1W.out.at_ hqn
              have hflt := Ph.flat_take (ls := ls) (k := q) (by rw [HL.out]; exact hqn)
              have hrz := HR60.out _ (Ph.row_mem (ls := ls) (k := q) (by rw [HL.out]; exact hqn))
              have hsl := HFL.out q
              obtain ⟨r, hrr⟩ : ∃ r, r = ls.getD q [] := ⟨_, rfl⟩
              rw [← hrr] at hc hr hflt hrz
              obtain ⟨L, hLL⟩ : ∃ L, L = r.length := ⟨_, rfl⟩
              rw [← hLL] at hc hr hrz
              obtain ⟨S, hS⟩ : ∃ S, S = (ls.take q).flatten := ⟨_, rfl⟩
              rw [← hS] at hflt hsl ⊢
              have hcS := List.count_le_length (a := (k : Int)) (l := S)
              have HR := Lib.hid hr
              have HFT := Lib.hid hflt
              have HLL := Lib.hid hLL
              have hqn' : (q : Int) < (n1 : Int) := by omega
              obtain ⟨K, hK⟩ : ∃ K, K = S.count (k : Int) := ⟨_, rfl⟩
              rw [← hK] at hcS ⊢
              have HK := Lib.hid hK
              clear hrr hr hflt hLL hS hK
              go_wp2_with fail
              go_loop [13, 15] (fun t i => ∃ p : Nat, p ≤ L ∧ i = .int .i64 p ∧ t = .int .i64 (1 + ((K + (r.take p).count (k : Int) : Nat) : Int))) (fun _ i => L - (intOf i).toNat)
              case atStart => exact ⟨0, Nat.zero_le _, rfl, by simp⟩
              case round =>
                obtain ⟨p, hp, rfl, rfl⟩ := hrel
                have hcp := List.count_le_length (a := (k : Int)) (l := r.take p)
                have hpl : (r.take p).length ≤ 60 := by rw [List.length_take]; omega
                by_cases hpL : p < L
                · obtain ⟨b2, o2, rfl, _, hc2⟩ := HR.out.at_ hpL
                  have hct := Ph.count_take (r := r) (t := p) (by rw [← HLL.out]; exact hpL) (k : Int)
                  obtain ⟨x, hx⟩ : ∃ x, x = r.getD p 0 := ⟨_, rfl⟩
                  rw [← hx] at hc2 hct
                  obtain ⟨J, hJ⟩ : ∃ J, J = (r.take p).count (k : Int) := ⟨_, rfl⟩
                  rw [← hJ] at hct hcp ⊢
                  have hpL' : (p : Int) < (L : Int) := by omega
                  clear hx hJ
                  by_cases hxk : x = (k : Int)
                  · have hxb : (x == (k : Int)) = true := by simp [hxk]
                    rw [if_pos hxk] at hct
                    have HCT := Lib.hid hct
                    clear hct hxk
                    go_wp2_with fail
                    go_round
                    case rel => exact ⟨p + 1, by omega, by go_num, by rw [HCT.out]; go_num⟩
                    case measure => simp [intOf]; omega
                  · have hxb : (x == (k : Int)) = false := by simp [hxk]
                    rw [if_neg hxk] at hct
                    have HCT := Lib.hid hct
                    clear hct hxk
                    go_wp2_with fail
                    go_round
                    case rel => exact ⟨p + 1, by omega, by go_num, by rw [HCT.out]; go_num⟩
                    case measure => simp [intOf]; omega
                · obtain rfl : p = L := by omega
                  have hall : Hid ((ls.take (q + 1)).flatten.count (k : Int) = K + (r.take p).count (k : Int)) := Lib.hid (by
                    rw [HFT.out, List.count_append, HK.out, List.take_of_length_le (by have := HLL.out; omega)])
                  go_wp2_with fail
                  go_round
                  case rel => exact ⟨q + 1, by omega, by go_num, by rw [hall.out]⟩
                  case measure => simp [intOf]; omega
            · obtain rfl : q = n1 := by omega
              have HF : Hid (ls.take q = ls) := Lib.hid (List.take_of_length_le (by rw [HL.out]; omega))
              rw [HF.out]
              have HFL2 := HFL.out q
              rw [HF.out] at HFL2
              have hcS := List.count_le_length (a := (k : Int)) (l := ls.flatten)
              obtain ⟨V, hV⟩ : ∃ V : Int, V = 1 + ((ls.flatten.count (k : Int) : Nat) : Int) := ⟨_, rfl⟩
              rw [← hV] at HSN ⊢
              clear hV hcS HFL2
              go_wp2_with (at_builtin; refine wpList_push _ (by rfl) _ _ (by rfl) w w.heap.size A6 k c6 _ V HO.out HBW.out HBW.out.size (by omega) (by rfl) (by rfl) ?_; intro g cap w9 ho9 hb9)
              have HO9 := Lib.hid ho9
              have HB9' := Lib.hid hb9
              clear ho9 hb9
              go_wp2_with fail
              go_roundw
              case rel => exact ⟨k + 1, some ⟨g, 0, none⟩, cap, by omega, by go_num, rfl, by rw [HSN.out]; exact HO9.out, HB9'.out⟩
              case measure => simp [intOf]; omega
        · obtain rfl : k = M := by omega
          have HFN := Lib.hid (RdI.own HO.out)
          rw [List.take_of_length_le (by rw [Ph.cnts_length]; omega)] at HFN
          go_wp2_with fail
          go_meet
          case rel => exact ⟨⟨A6, k, c6, rfl, by omega, Lib.hid (by rw [if_pos HE.out, HXE.out]; exact HFN.out)⟩, HBW⟩
    · have hEb : (E == 0) = false := by simp [hE]
      have HE := Lib.hid hE
      clear hE
      by_cases hm0 : 0 < m
      all_goals
        go_wp2_with fail
        refine wp_loop_rounds 1 ?_
        rw [rounds_succ]
        go_wp2_with fail
        go_meet
        case rel => exact ⟨⟨none, 0, 0, rfl, by omega, Lib.hid (by rw [if_neg HE.out]; exact RdI.nil)⟩, Lib.hid (Below.refl _ _)⟩
  case rest =>
    obtain ⟨⟨A5, n5, c5, rfl, hn5, HW5⟩, HB5⟩ := hcut
    clear HRO
    go_upto_if 66 with (fail)
    go_cut [11] (fun s11 wx => (∃ A n c, s11 = .slice A n c ∧ n ≤ 100000 ∧ Hid (RdI wx wx.heap.size A n (if E = 0 then Y else []))) ∧ Hid (RdI wx wx.heap.size A5 n5 (if E = 0 then X else [])) ∧ Hid (Below w.heap.size w wx))
    case first =>
      by_cases hE : E = 0
      · have hEb : (E == 0) = true := by simp [hE]
        have HE := Lib.hid hE
        obtain ⟨M, rfl, hM1, hM40, hn60, hr60, hfl, hsc⟩ := HZ.out hE
        have hxm : X = Ph.cnts ls.flatten M := HX.out
        have hw5 := HW5.out
        rw [if_pos hE] at hw5
        have hlen : n5 = M := by rw [← hw5.len, hxm, Ph.cnts_length]
        subst hlen
        have HRS := Lib.hid (rscale_any A5 n5 c5 X _ _ hw5 (Nat.le_refl _) (by rw [hxm]; exact hsc))
        clear hE hr60 hfl hsc hxm hw5 HZ
        go_wp2_with fail
        refine HRS.out.mono ?_
        rintro e w6 ⟨A6, c6, rfl, hr6, hb6⟩
        have HR6 := Lib.hid hr6
        have HB6 := Lib.hid (below_on HB5.out hb6)
        have HW6 := Lib.hid (HW5.out.on hb6)
        clear hr6 hb6
        go_wp2_with fail
        go_meet
        case rel => exact ⟨⟨A6, _, c6, rfl, hn5, Lib.hid (by rw [if_pos HE.out, HY.out]; exact HR6.out)⟩, HW6, HB6⟩
      · have hEb : (E == 0) = false := by simp [hE]
        have HE := Lib.hid hE
        clear hE
        go_wp2_with fail
        go_meet
        case rel => exact ⟨⟨none, 0, 0, rfl, by omega, Lib.hid (by rw [if_neg HE.out]; exact RdI.nil)⟩, HW5, HB5⟩
    case rest =>
      obtain ⟨⟨A6, n6, c6, rfl, hn6, HY6⟩, HX6, HB6⟩ := hcut
      clear HB5 HW5 HZ HX HY
      go_wp2_with fail
      refine (HCN.out _ (H1.out.below HB6.out) HB6.out.size).mono ?_
      rintro e w7 ⟨A7, n7, c7, rfl, hn7, hr7, hb7⟩
      have HR7 := Lib.hid hr7
      have HB7 := Lib.hid (below_on HB6.out hb7)
      have HX7 := Lib.hid (HX6.out.on hb7)
      have HY7 := Lib.hid (HY6.out.on hb7)
      clear hr7 hb7 HX6 HY6 HB6 HCN
      go_wp2_with fail
      refine (herr_yes E _ (HG.out.below HB7.out) HEB.out).mono ?_
      rintro e w8 ⟨rfl, hb8⟩
      have HR8 := Lib.hid (HR7.out.on hb8)
      have HB8 := Lib.hid (below_on HB7.out hb8)
      have HX8 := Lib.hid (HX7.out.on hb8)
      have HY8 := Lib.hid (HY7.out.on hb8)
      clear hb8 HX7 HY7 HB7 HR7
      go_wp2_with fail
      refine (ints_any A7 A5 n7 c7 n5 c5 _ _ _ _ _ HR8.out HX8.out (Nat.le_refl _) (Nat.le_refl _) (by omega)).mono ?_
      rintro e w9 ⟨rfl, hb9⟩
      have HB9 := Lib.hid (below_on HB8.out hb9)
      have HY9 := Lib.hid (HY8.out.on hb9)
      rw [sameI_true.2 rfl]
      clear hb9 HX8 HY8 HB8 HR8
      go_wp2_with fail
      refine (HSH.out _ (H1.out.below HB9.out) HB9.out.size).mono ?_
      rintro e wa ⟨Aa, na, ca, rfl, hna, hra, hba⟩
      have HRa := Lib.hid hra
      have HBa := Lib.hid (below_on HB9.out hba)
      have HYa := Lib.hid (HY9.out.on hba)
      clear hra hba HY9 HB9 HSH H1
      go_wp2_with fail
      refine (herr_yes E _ (HG.out.below HBa.out) HEB.out).mono ?_
      rintro e wb ⟨rfl, hbb⟩
      have HRb := Lib.hid (HRa.out.on hbb)
      have HBb := Lib.hid (below_on HBa.out hbb)
      have HYb := Lib.hid (HYa.out.on hbb)
      clear hbb HYa HBa HRa
      go_wp2_with fail
      refine (ints_any Aa A6 na ca n6 c6 _ _ _ _ _ HRb.out HYb.out (Nat.le_refl _) (Nat.le_refl _) (by omega)).mono ?_
      rintro e wc ⟨rfl, hbc⟩
      have HBc := Lib.hid (below_on HBb.out hbc)
      rw [sameI_true.2 rfl]
      clear hbc HYb HBb HRb HEB
      go_wp2_with fail
      refine (HRW.out _ (H2.out.below HBc.out) (H3.out.below HBc.out)).mono ?_
      rintro e wk ⟨rfl, rfl⟩
      go_upto_if 101 with (fail)
      go_cut [20] (fun s20 wx => s20 = .int .i64 (if F = 0 then D else 0) ∧ Hid (Below w.heap.size w wx))
      case first =>
        by_cases hF : F = 0
        · have hFb : (F == 0) = true := by simp [hF]
          have HF := Lib.hid hF
          clear hF
          go_wp2_with fail
          refine (HND.out _ (H2.out.below HBc.out) (H3.out.below HBc.out) HF.out).mono ?_
          rintro e wk ⟨rfl, rfl⟩
          go_wp2_with fail
          go_meet
          case rel => exact ⟨by rw [if_pos HF.out], HBc⟩
        · have hFb : (F == 0) = false := by simp [hF]
          have HF := Lib.hid hF
          clear hF
          go_wp2_with fail
          go_meet
          case rel => exact ⟨by rw [if_neg HF.out], HBc⟩
      case rest =>
        obtain ⟨hs20, HBd⟩ := hcut
        obtain ⟨O, hO⟩ : ∃ O, O = if F = 0 then D else 0 := ⟨_, rfl⟩
        rw [← hO] at HCO hs20
        subst hs20
        clear HBc HND HRW hO
        go_wp2_with fail
        refine (HCO.out _ (H2.out.below HBd.out) (H3.out.below HBd.out)).mono ?_
        rintro e wk ⟨rfl, rfl⟩
        go_wp2_with fail
        refine (herr_yes F _ (HG.out.below HBd.out) HFB.out).mono ?_
        rintro e we ⟨rfl, hbe⟩
        have HBe := Lib.hid (below_on HBd.out hbe)
        clear hbe HBd HCO
        go_wp2_with fail
        go_ret
        exact ⟨ret_true (by simp), HBe.out⟩
end Go.Proofs.YtomaipmmjngdlaaDoor
