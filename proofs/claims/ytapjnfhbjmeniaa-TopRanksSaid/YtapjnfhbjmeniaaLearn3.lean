/- Walks: what is wrong with rows, how often signs are in them, and their shares (chapter 12). -/
import Derived.Test.YtapjnfhbjmeniaaLearn
import Derived.Test.YtapjnfhbjmeniaaRefRows
import Derived.Test.YtapjnfhbjmeniaaPhAll
namespace Go.Proofs.Ytapjnfhbjmeniaa
open Go.RowKit

theorem lcheck1_any (b : Nat) (w : World) (x m : Int) (hc : w.cell? ⟨b, 0, none⟩ = some (.int .i64 m)) :
    Calls Try.prog 77 #[.int .i64 x, .pointer (some ⟨b, 0, none⟩)] w fun e w' => e = .returned (.bool (badSign m x)) ∧ w = w' := by
  by_cases h1 : x < 0 <;> by_cases h2 : m ≤ x
  all_goals go_enter Try.func77, Try.ntmps77
  all_goals go_wp2
  all_goals go_ret
  all_goals exact ⟨ret_bool (by unfold badSign; simp [h1, h2]), rfl⟩
theorem enters_lcheck1 : ∀ args W, (callFunc 77 args).run Try.prog W = .ok (.enter 77 args) W :=
  fun args W => enters_of Try.func77 (by kernel_rfl) rfl args W
set_option maxHeartbeats 1000000 in
theorem lcheck_any (A : Option Addr) (n c : Nat) (ls : List (List Int)) (m : Int) (w : World) (B : Nat) (h : RdR w B A n ls) (hB : B ≤ w.heap.size) :
    Calls Try.prog 43 #[.slice A n c, .int .i64 m] w fun e w' => e = .returned (errV (rowsErr ls m)) ∧ Below w.heap.size w w' := by
  have hl := h.len
  have HB0 := Lib.hid (below_alloc0 w (.cells #[.int .i64 m] 3))
  have HCL : Hid ((w.alloc (.cells #[.int .i64 m] 3)).cell? ⟨w.heap.size, 0, none⟩ = some (.int .i64 m)) := Lib.hid (cell_of_alloc w _ _)
  have H := Lib.hid (h.below (HB0.out.mono hB))
  have HB0' := HB0
  by_cases hm : m < 1 ∨ 40 < m
  · have e : rowsErr ls m = 1 := if_pos hm
    have hc : m < 1 ∨ (¬ m < 1 ∧ 40 < m) := by omega
    rw [e, errV_ne (by omega)]
    clear h hl e hm
    rcases hc with h1 | ⟨h1, h2⟩
    all_goals
      go_enter Try.func43, Try.ntmps43
      go_wp2_with fail
      go_ret
      exact ⟨rfl, HB0.out⟩
  · have h1 : ¬ m < 1 := by omega
    have h2 : ¬ 40 < m := by omega
    by_cases h60 : 60 < n
    · have e : rowsErr ls m = 4 := by unfold rowsErr; rw [if_neg hm, if_pos (by omega)]
      rw [e, errV_ne (by omega)]
      clear h hl e hm
      go_enter Try.func43, Try.ntmps43
      go_wp2_with fail
      go_ret
      exact ⟨rfl, HB0.out⟩
    · have HE : Hid (rowsErr ls m = rowsE m ls) := Lib.hid (by unfold rowsErr; rw [if_neg hm, if_neg (by omega)])
      obtain ⟨E, hE⟩ : ∃ E, E = rowsErr ls m := ⟨_, rfl⟩
      rw [← hE] at HE ⊢
      have HL := Lib.hid hl
      obtain ⟨W0, hW0⟩ : ∃ W, W = w.alloc (.cells #[.int .i64 m] 3) := ⟨_, rfl⟩
      have HW0 := Lib.hid hW0
      rw [← hW0] at HB0 HCL H
      have HA := Lib.hid fun A2 q c2 r hr hq => any_any A2 q c2 77 #[.pointer (some ⟨w.heap.size, 0, none⟩)] r (badSign m) W0 B hr hq enters_lcheck1 (fun x _ => lcheck1_any w.heap.size W0 x m HCL.out)
      clear h hl hE hm hW0
      go_enter Try.func43, Try.ntmps43
      go_wp2_with fail
      rw [← HW0.out]
      go_loop [6, 22, 26, 31] (fun _ i _ _ => ∃ k : Nat, k ≤ n ∧ i = .int .i64 k ∧ Hid (rowsE m (ls.drop k) = E)) (fun _ i _ _ => n - (intOf i).toNat)
      case atStart => exact ⟨0, Nat.zero_le _, rfl, Lib.hid (by rw [List.drop_zero]; exact HE.out.symm)⟩
      case round =>
        obtain ⟨k, hk, rfl, HK⟩ := hrel
        by_cases hlt : k < n
        · obtain ⟨b, off, A2, c2, rfl, _, hc, _, hr⟩ := H.out.at_ hlt
          have hst := rowsE_drop (m := m) (ls := ls) (k := k) (by rw [HL.out]; exact hlt)
          rw [HK.out] at hst
          obtain ⟨r, hrr⟩ : ∃ r, r = ls.getD k [] := ⟨_, rfl⟩
          rw [← hrr] at hc hr hst
          obtain ⟨q, hq⟩ : ∃ q, q = r.length := ⟨_, rfl⟩
          rw [← hq] at hc hr hst
          have HR := Lib.hid hr
          have hlt' : (k : Int) < (n : Int) := by omega
          clear hrr hr hq
          by_cases hq60 : 60 < q
          · have HX : Hid (E = 4) := Lib.hid (by rw [hst, if_pos hq60])
            clear hst HK HE
            go_wp2_with fail
            go_ret
            exact ⟨ret_val (by rw [HX.out]; exact (errV_ne (by omega)).symm), HB0.out⟩
          · rw [if_neg hq60] at hst
            have HS := Lib.hid hst
            have HAA := Lib.hid (HA.out A2 q c2 r HR.out (by omega))
            obtain ⟨Y, hY⟩ : ∃ Y, Y = r.any (badSign m) := ⟨_, rfl⟩
            rw [← hY] at HAA HS
            clear hst hY
            cases Y with
            | true =>
              have HX : Hid (E = 1) := Lib.hid (by rw [HS.out, if_pos rfl])
              go_wp2_with fail
              refine (HAA.out).mono ?_
              rintro e wk ⟨rfl, rfl⟩
              go_wp2_with fail
              go_ret
              exact ⟨ret_val (by rw [HX.out]; exact (errV_ne (by omega)).symm), HB0.out⟩
            | false =>
              have HN : Hid (rowsE m (ls.drop (k + 1)) = E) := Lib.hid (by rw [HS.out, if_neg (by simp)])
              go_wp2_with fail
              refine (HAA.out).mono ?_
              rintro e wk ⟨rfl, rfl⟩
              go_wp2_with fail
              go_round
              case rel => exact ⟨k + 1, by omega, by go_num, HN⟩
              case measure => simp [intOf]; omega
        · have HX : Hid (E = 0) := Lib.hid (by
            have := HK.out
            rw [List.drop_of_length_le (by rw [HL.out]; omega)] at this
            exact this.symm)
          clear HK HE
          go_wp2_with fail
          go_ret
          exact ⟨ret_val (by rw [HX.out]; rfl), HB0.out⟩
/-- Rows that are right. -/
theorem rowsErr_zero {ls : List (List Int)} {m : Int} : rowsErr ls m = 0 ↔ 1 ≤ m ∧ m ≤ 40 ∧ ls.length ≤ 60 ∧ ∀ r ∈ ls, r.length ≤ 60 ∧ ∀ x ∈ r, 0 ≤ x ∧ x < m := by
  have hE : ∀ ls : List (List Int), rowsE m ls = 0 ↔ ∀ r ∈ ls, r.length ≤ 60 ∧ ∀ x ∈ r, 0 ≤ x ∧ x < m := by
    intro ls
    induction ls with
    | nil => simp [rowsE]
    | cons r ls ih =>
      rw [rowsE]
      by_cases h1 : 60 < r.length
      · rw [if_pos h1]
        constructor
        · intro h; omega
        · intro h; have := (h r (by simp)).1; omega
      · rw [if_neg h1]
        cases h2 : r.any (badSign m) with
        | true =>
          rw [if_pos rfl]
          obtain ⟨x, hx, hb⟩ := List.any_eq_true.1 h2
          constructor
          · intro h; omega
          · intro h
            have := (h r (by simp)).2 x hx
            unfold badSign at hb
            simp at hb
            omega
        | false =>
          rw [if_neg (by simp), ih]
          have h3 : ∀ x ∈ r, 0 ≤ x ∧ x < m := fun x hx => by
            have := List.any_eq_false.1 h2 x hx
            unfold badSign at this
            simp at this
            omega
          constructor
          · intro h s hs
            rcases List.mem_cons.1 hs with rfl | hs
            · exact ⟨by omega, h3⟩
            · exact h s hs
          · intro h s hs; exact h s (by simp [hs])
  unfold rowsErr
  by_cases h1 : m < 1 ∨ 40 < m
  · rw [if_pos h1]; constructor
    · intro h; omega
    · intro h; omega
  · rw [if_neg h1]
    by_cases h2 : 60 < ls.length
    · rw [if_pos h2]; constructor
      · intro h; omega
      · intro h; omega
    · rw [if_neg h2, hE]
      exact ⟨fun h => ⟨by omega, by omega, by omega, h⟩, fun h => h.2.2.2⟩
theorem rowsErr_bd (ls : List (List Int)) (m : Int) : -100 ≤ rowsErr ls m ∧ rowsErr ls m ≤ 100 := by
  have hE : ∀ ls : List (List Int), -100 ≤ rowsE m ls ∧ rowsE m ls ≤ 100 := by
    intro ls
    induction ls with
    | nil => simp [rowsE]
    | cons r ls ih => rw [rowsE]; split; · omega
                      split <;> omega
  have := hE ls
  unfold rowsErr
  split
  · omega
  · split <;> omega
/-- How often signs are, of rows that are right: what scale.Of asks. -/
theorem cnts_scale {ls : List (List Int)} {m : Nat} (h : rowsErr ls m = 0) : scaleErr (Ph.cnts ls.flatten m) = 0 := by
  obtain ⟨h1, h2, h3, h4⟩ := rowsErr_zero.1 h
  have hf : ls.flatten.length ≤ 3600 := by
    have := Ph.flat_le (ls := ls) (b := 60) (fun r hr => (h4 r hr).1)
    omega
  have hb := fun x hx => Ph.cnts_bd (m := m) (xs := ls.flatten) x hx
  refine scaleErr_zero.2 ⟨by rw [Ph.cnts_length]; omega, by rw [Ph.cnts_length]; omega, fun x hx => by have := hb x hx; omega, ?_⟩
  intro h0
  have h5 : (Ph.cnts ls.flatten m).getD 0 0 ∈ Ph.cnts ls.flatten m := Ph.getD_mem (by rw [Ph.cnts_length]; omega)
  have := Ph.mem_le_total (l := Ph.cnts ls.flatten m) (fun x hx => by have := hb x hx; omega) _ h5
  have := hb _ h5
  omega
/-- How often signs are in rows, told; or what is wrong. -/
def TellL (E : Int) (l : List Int) (w : World) (e : Ending) (w' : World) : Prop :=
  ∃ A n c, e = .returned (.tuple #[.slice A n c, errV E]) ∧ n ≤ 100000 ∧ RdI w' w'.heap.size A n (if E = 0 then l else []) ∧ Below w.heap.size w w'
set_option maxHeartbeats 2000000 in
set_option maxRecDepth 100000 in
theorem lcnt_ok (A : Option Addr) (n c : Nat) (ls : List (List Int)) (m : Nat) (w : World) (B : Nat) (h : RdR w B A n ls) (hB : B ≤ w.heap.size) (h0 : rowsErr ls m = 0) :
    Calls Try.prog 14 #[.slice A n c, .int .i64 m] w fun e w' => ∃ A' c', e = .returned (.tuple #[.slice A' m c', .nilIface]) ∧ RdI w' w'.heap.size A' m (Ph.cnts ls.flatten m) ∧ Below w.heap.size w w' := by
  have hz := rowsErr_zero.1 h0
  have hl := h.len
  have hm : 1 ≤ m ∧ m ≤ 40 := by omega
  have hn60 : n ≤ 60 := by omega
  have HC := Lib.hid fun W hW hBW => lcheck_any A n c ls (m : Int) W B hW hBW
  rw [h0, errV_zero] at HC
  have HR := Lib.hid fun g0 W hc => repeat_any m g0 W hm hc
  have HZ := Lib.hid hz.2.2.2
  have HL := Lib.hid hl
  have H := Lib.hid h
  clear h h0 hz hl
  go_enter Try.func14, Try.ntmps14
  go_wp2_with fail
  refine (HC.out _ H.out hB).mono ?_
  rintro e w1 ⟨rfl, hb1⟩
  have HB1 := Lib.hid hb1
  clear hb1 HC
  go_wp2_with fail
  refine (HR.out w1.heap.size _ (cell_of_alloc w1 _ 3)).mono ?_
  rintro e w2 ⟨A2, c2, rfl, ho, hb2⟩
  rw [List.length_replicate] at ho ⊢
  obtain ⟨g, hA2, _, _⟩ := own_form ho (by omega)
  subst hA2
  rw [← Ph.cnts_nil] at ho
  have hgb : w.heap.size ≤ g := by
    obtain ⟨g', hg', hb', _⟩ := own_form ho (by omega)
    injection hg' with hg'; injection hg' with hg'; subst hg'
    have := HB1.out.size
    simp at hb'; omega
  have HO := Lib.hid (own_more ho (base' := w.heap.size) (by have := HB1.out.size; simp; omega))
  have HB2 := Lib.hid (below_on (below_onAlloc HB1.out _) hb2)
  clear ho hb2
  go_wp2_with fail
  go_loopw [9, 11, 23, 27, 28, 29] (fun _ _ i _ _ _ wr => ∃ k : Nat, k ≤ n ∧ i = .int .i64 k ∧ wr.ownsRow w.heap.size 3 1 (.slice (some ⟨g, 0, none⟩) m c2) m (ivals (Ph.cnts (ls.take k).flatten m)) ∧ Below w.heap.size w wr) (fun _ _ i _ _ _ _ => n - (intOf i).toNat)
  case atStart => exact ⟨0, Nat.zero_le _, rfl, by simpa using HO.out, HB2.out⟩
  case round =>
    obtain ⟨k, hk, rfl, hown, hbw⟩ := hrel
    have HO1 := Lib.hid hown
    have HBW := Lib.hid hbw
    clear hown hbw HO HB2
    by_cases hlt : k < n
    · obtain ⟨b, off, A3, c3, rfl, _, hc, _, hr⟩ := (H.out.below (HBW.out.mono hB)).at_ hlt
      have hfl := Ph.flat_take (ls := ls) (k := k) (by rw [HL.out]; exact hlt)
      have hrz := HZ.out _ (Ph.row_mem (ls := ls) (k := k) (by rw [HL.out]; exact hlt))
      obtain ⟨r, hrr⟩ : ∃ r, r = ls.getD k [] := ⟨_, rfl⟩
      rw [← hrr] at hc hr hfl hrz
      obtain ⟨q, hq⟩ : ∃ q, q = r.length := ⟨_, rfl⟩
      rw [← hq] at hc hr hrz
      have HR2 := Lib.hid hr
      have HFL := Lib.hid hfl
      have HRZ := Lib.hid hrz
      have hq60 : q ≤ 60 := hrz.1
      have HQ := Lib.hid hq
      obtain ⟨S, hS⟩ : ∃ S, S = (ls.take k).flatten := ⟨_, rfl⟩
      have hsb : S.length ≤ 3600 := by
        have h1 := Ph.flat_le (ls := ls.take k) (b := 60) (fun x hx => (HZ.out x (List.mem_of_mem_take hx)).1)
        have h2 : (ls.take k).length ≤ 60 := by rw [List.length_take]; omega
        rw [hS]; omega
      rw [← hS] at HO1 HFL
      have hlt' : (k : Int) < (n : Int) := by omega
      clear hrr hr hq hfl hrz hS
      rename World => wa
      go_wp2_with fail
      go_loopw [11, 29] (fun _ i wx => ∃ t : Nat, t ≤ q ∧ i = .int .i64 t ∧ wx.ownsRow w.heap.size 3 1 (.slice (some ⟨g, 0, none⟩) m c2) m (ivals (Ph.cnts (S ++ r.take t) m)) ∧ Below w.heap.size w wx ∧ Hid (RdI wx B A3 q r)) (fun _ i _ => q - (intOf i).toNat)
      case atStart => exact ⟨0, Nat.zero_le _, rfl, by simpa using HO1.out, HBW.out, HR2⟩
      case round =>
        obtain ⟨t, ht, rfl, hown2, hbw2, HRR⟩ := hrel
        have HO2 := Lib.hid hown2
        have HBW2 := Lib.hid hbw2
        clear hown2 hbw2 HR2
        by_cases htq : t < q
        · obtain ⟨b2, o2, rfl, _, hc2⟩ := HRR.out.at_ htq
          have hx := HRZ.out.2 _ (Ph.getD_mem (l := r) (i := t) (by rw [← HQ.out]; exact htq))
          have htk := Ph.take_snoc r t (by rw [← HQ.out]; exact htq)
          obtain ⟨x, hxe⟩ : ∃ x, x = r.getD t 0 := ⟨_, rfl⟩
          rw [← hxe] at hc2 hx htk
          obtain ⟨X, rfl⟩ := Int.eq_ofNat_of_zero_le hx.1
          have hXm : X < m := by omega
          have hsn := Ph.cnts_snoc (S ++ r.take t) hXm
          rw [List.append_assoc, ← htk] at hsn
          have hcb := Ph.cnts_bd (m := m) (xs := S ++ r.take t) _ (Ph.getD_mem (i := X) (by rw [Ph.cnts_length]; exact hXm))
          have hol := HO2.out.cellAt X (by omega)
          rw [ivals_get (by rw [Ph.cnts_length]; exact hXm)] at hol
          have f4 : wr.frozen? ⟨g, X, none⟩ = false := HO2.out.frozenAt X
          obtain ⟨y, hy⟩ : ∃ y, y = (Ph.cnts (S ++ r.take t) m).getD X 0 := ⟨_, rfl⟩
          rw [← hy] at hsn hcb hol
          have hrt : (r.take t).length ≤ 60 := by rw [List.length_take]; omega
          rw [List.length_append] at hcb
          have hyb : 1 ≤ y ∧ y ≤ 4000 := by omega
          have HSN := Lib.hid hsn
          have hX0 : (0 : Int) ≤ (X : Int) := by omega
          have hX1 : (X : Int) < (m : Int) := by omega
          have htq' : (t : Int) < (q : Int) := by omega
          have HNB : Hid (RdI (wr.setCell ⟨g, X, none⟩ (.int .i64 (y + 1))) B (some ⟨b2, o2, none⟩) q r) := Lib.hid (HRR.out.setCell (p := ⟨g, X, none⟩) (Nat.le_trans hB hgb) _)
          clear hy hsn hxe htk hcb hx hrt
          go_wp2_with fail
          go_roundw
          case rel =>
            refine ⟨t + 1, by omega, by go_num, ?_, HBW2.out.setCell (p := ⟨g, X, none⟩) hgb _, HNB⟩
            have := (HO2.out.stored X (.int .i64 (y + 1))).1
            rw [ivals_set, ← HSN.out] at this
            exact this
          case measure => simp [intOf]; omega
        · obtain rfl : t = q := by omega
          have hall : Hid (Ph.cnts (S ++ r.take t) m = Ph.cnts (ls.take (k + 1)).flatten m) := Lib.hid (by rw [HFL.out, List.take_of_length_le (by have := HQ.out; omega)])
          go_wp2_with fail
          go_roundw
          case rel => exact ⟨k + 1, by omega, by go_num, by rw [← hall.out]; exact HO2.out, HBW2.out⟩
          case measure => simp [intOf]; omega
    · obtain rfl : k = n := by omega
      have HF : Hid (ls.take k = ls) := Lib.hid (List.take_of_length_le (by rw [HL.out]; omega))
      rw [HF.out] at HO1
      have HO2 := Lib.hid (RdI.own HO1.out)
      go_wp2_with fail
      go_ret2
      exact ⟨some ⟨g, 0, none⟩, c2, rfl, HO2.out, HBW.out⟩
theorem lcnt_told (A : Option Addr) (n c : Nat) (ls : List (List Int)) (m : Int) (w : World) (B : Nat) (h : RdR w B A n ls) (hB : B ≤ w.heap.size) :
    Calls Try.prog 14 #[.slice A n c, .int .i64 m] w (TellL (rowsErr ls m) (Ph.cnts ls.flatten m.toNat) w) := by
  by_cases h0 : rowsErr ls m = 0
  · have hz := rowsErr_zero.1 h0
    obtain ⟨M, rfl⟩ := Int.eq_ofNat_of_zero_le (by omega : 0 ≤ m)
    refine (lcnt_ok A n c ls M w B h hB h0).mono ?_
    rintro e w' ⟨A', c', rfl, ho, hb⟩
    exact ⟨A', M, c', by rw [h0]; rfl, by omega, by rw [if_pos h0, Int.toNat_natCast]; exact ho, hb⟩
  · have HC := Lib.hid fun W hW hBW => lcheck_any A n c ls m W B hW hBW
    have he := errV_ne h0
    rw [he] at HC
    have H := Lib.hid h
    have H0 := Lib.hid h0
    have HE := Lib.hid he
    clear h h0 he
    go_enter Try.func14, Try.ntmps14
    go_wp2_with fail
    refine (HC.out _ H.out hB).mono ?_
    rintro e w1 ⟨rfl, hb1⟩
    have HB1 := Lib.hid hb1
    clear hb1 HC
    go_wp2_with fail
    go_ret2
    exact ⟨none, 0, 0, ret_two rfl HE.out.symm, by omega, by rw [if_neg H0.out]; exact RdI.nil, HB1.out⟩
theorem lsh_told (A : Option Addr) (n c : Nat) (ls : List (List Int)) (m : Int) (w : World) (B : Nat) (h : RdR w B A n ls) (hB : B ≤ w.heap.size) :
    Calls Try.prog 15 #[.slice A n c, .int .i64 m] w (TellL (rowsErr ls m) (Ph.scaled (Ph.cnts ls.flatten m.toNat)) w) := by
  by_cases h0 : rowsErr ls m = 0
  · have hz := rowsErr_zero.1 h0
    obtain ⟨M, rfl⟩ := Int.eq_ofNat_of_zero_le (by omega : 0 ≤ m)
    have HC := Lib.hid fun W hW hBW => lcnt_ok A n c ls M W B hW hBW h0
    have hs := cnts_scale h0
    have hl : (Ph.scaled (Ph.cnts ls.flatten M)).length = M := by
      have hz := scaleErr_zero.1 hs
      have := (Ph.scaled_ok hz.2.1 (fun x hx => (hz.2.2.1 x hx).1) hz.2.2.2).1.1
      rwa [Ph.cnts_length] at this
    have HL := Lib.hid hl
    have HS := Lib.hid fun W A c hW => sof_ok A M c (Ph.cnts ls.flatten M) W W.heap.size hW (Nat.le_refl _) hs
    have hM : M ≤ 40 := by omega
    rw [h0, Int.toNat_natCast]
    have H := Lib.hid h
    clear h h0 hl hs hz
    go_enter Try.func15, Try.ntmps15
    go_wp2_with fail
    refine (HC.out _ H.out hB).mono ?_
    rintro e w1 ⟨A1, c1, rfl, hr1, hb1⟩
    have HR1 := Lib.hid hr1
    have HB1 := Lib.hid hb1
    clear hr1 hb1 HC
    go_wp2_with fail
    refine (HS.out _ _ _ HR1.out).mono ?_
    rintro e w2 ⟨A2, c2, rfl, ho, hb2⟩
    rw [HL.out] at ho ⊢
    have HO := Lib.hid (RdI.own ho)
    have HB2 := Lib.hid (below_on HB1.out hb2)
    clear ho hb2
    go_wp2_with fail
    go_ret2
    exact ⟨A2, M, c2, rfl, by omega, by rw [if_pos rfl]; exact HO.out, HB2.out⟩
  · have HC := Lib.hid fun W hW hBW => lcnt_told A n c ls m W B hW hBW
    have H := Lib.hid h
    have HE := Lib.hid (errV_ne h0)
    obtain ⟨E, hE⟩ : ∃ E, E = rowsErr ls m := ⟨_, rfl⟩
    rw [← hE] at HC HE h0 ⊢
    have H0 := Lib.hid h0
    clear h h0 hE
    go_enter Try.func15, Try.ntmps15
    go_wp2_with fail
    refine (HC.out _ H.out hB).mono ?_
    rintro e w1 ⟨A1, n1, c1, rfl, hn1, hr1, hb1⟩
    have HB1 := Lib.hid hb1
    rw [HE.out]
    clear hb1 HC hr1
    go_wp2_with fail
    go_ret2
    exact ⟨none, 0, 0, ret_two rfl HE.out.symm, by omega, by rw [if_neg H0.out]; exact RdI.nil, HB1.out⟩
end Go.Proofs.Ytapjnfhbjmeniaa
