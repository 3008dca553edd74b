/- The walk of the law ShareFair. -/
import Derived.Test.YtgadgpkhkncnnaaShare3
import Derived.Test.YtgadgpkhkncnnaaOpen
namespace Go.Proofs.Ytgadgpkhkncnnaa
open Go.RowKit

/-- Twice as much. -/
def dbl (l : List Int) : List Int := l.map (2 * ·)
theorem dbl_length (l : List Int) : (dbl l).length = l.length := by simp [dbl]
theorem dbl_getD (l : List Int) (i : Nat) : (dbl l).getD i 0 = 2 * l.getD i 0 := by
  unfold dbl
  rw [List.getD_eq_getElem?_getD, List.getD_eq_getElem?_getD, List.getElem?_map]
  cases l[i]? <;> simp
theorem dbl_take (l : List Int) (k : Nat) (h : k < l.length) : dbl (l.take (k + 1)) = dbl (l.take k) ++ [2 * l.getD k 0] := by
  unfold dbl; rw [Ph.take_snoc l k h, List.map_append]; rfl
theorem fact_share : Ph.shareOf [2, 2] [90, 10] 6 = [4, 1] := by decide +kernel
/-- One more. -/
theorem set_back (V : List Int) (i : Nat) (x : Int) : (V.set i x).set i (V.getD i 0) = V := by
  rw [List.set_set]
  apply List.ext_getElem
  · simp
  · intro j h1 h2
    rw [List.getElem_set]
    split
    · rename_i e; subst e; rw [List.getD_eq_getElem?_getD, List.getElem?_eq_getElem h2]; rfl
    · rfl
theorem set_getD_same (V : List Int) (i : Nat) (x : Int) (h : i < V.length) : (V.set i x).getD i 0 = x := by
  rw [List.getD_eq_getElem?_getD, List.getElem?_set]; simp [h]
theorem set_ok {V : List Int} (h : Ph.pulsesOk V) {i : Nat} (x : Int) (hx : 0 ≤ x ∧ x ≤ 8) : Ph.pulsesOk (V.set i x) := fun y hy => by
  rcases List.mem_or_eq_of_mem_set hy with h1 | h1
  · exact h y h1
  · rw [h1]; exact hx
set_option maxRecDepth 100000 in
set_option maxHeartbeats 4000000 in
theorem shareFair_walk (w : World) (A0 : Option Addr) (n0 c0 : Nat) (s : List Int) (h0 : RdI w w.heap.size A0 n0 s) (hb0 : n0 ≤ c0 ∧ c0 ≤ 17592186044415) (_ : ∀ x ∈ s, Is64 x) (A1 : Option Addr) (n1 c1 : Nat) (l : List Int) (h1 : RdI w w.heap.size A1 n1 l) (hb1 : n1 ≤ c1 ∧ c1 ≤ 17592186044415) (_ : ∀ x ∈ l, Is64 x) (bits : Int) :
    Calls Try.prog 7 #[.slice A0 n0 c0, .slice A1 n1 c1, .int .i64 bits] w fun e w' => e = .returned (.bool true) ∧ Below w.heap.size w w' := by
  have hbA := below_alloc0 w (.cells #[.int .i64 2, .int .i64 2] 3)
  have hbB := below_on hbA (below_alloc0 (w.alloc (.cells #[.int .i64 2, .int .i64 2] 3)) (.cells #[.int .i64 90, .int .i64 10] 3))
  have HR1 := Lib.hid ((RdI.lit' w [2, 2] 3 #[.int .i64 2, .int .i64 2] rfl).onAlloc (.cells #[.int .i64 90, .int .i64 10] 3))
  have hr2 := RdI.lit' (w.alloc (.cells #[.int .i64 2, .int .i64 2] 3)) [90, 10] 3 #[.int .i64 90, .int .i64 10] rfl
  rw [World.size_alloc w] at hr2
  have HR2 := Lib.hid hr2
  have HF := Lib.hid (shof_ok _ 2 2 [2, 2] _ 2 2 [90, 10] 6 _ _ HR1.out HR2.out (Nat.le_refl _) (by decide))
  rw [fact_share] at HF
  have H0 := Lib.hid h0
  have H1 := Lib.hid h1
  have HB := Lib.hid hbB
  have HL0 := Lib.hid h0.len
  have HL1 := Lib.hid h1.len
  clear h0 h1 hbA hbB hr2 HR1 HR2
  by_cases hE : shareErr s l bits = 0
  · have hs := shareErr_zero.1 hE
    have hok := Ph.share_ok (s := s) (loud := l) (bits := bits) hs.2.2.2.1
    have hbz := Ph.bandErr_zero.1 hs.1
    have HO := Lib.hid fun W hW1 hW2 hBW => shof_ok A0 n0 c0 s A1 n1 c1 l bits W w.heap.size hW1 hW2 hBW hE
    have HLF := Lib.hid fun W hW1 hW2 hBW => left_ok A0 n0 c0 s A1 n1 c1 l bits W w.heap.size hW1 hW2 hBW hE
    have HTW : Hid (Ph.shareOf s (dbl l) bits = Ph.shareOf s l bits) := Lib.hid (Ph.share_twice (dbl_getD l))
    obtain ⟨V, hV⟩ : ∃ V, V = Ph.shareOf s l bits := ⟨_, rfl⟩
    rw [← hV] at HO HLF hok HTW
    have hnn : n1 = n0 := by rw [← HL0.out, ← HL1.out]; exact hs.2.1
    subst hnn
    have hn8 : n1 ≤ 8 := by rw [← HL0.out]; exact hbz.2.1
    have hn1 : 1 ≤ n1 := by rw [← HL0.out]; exact hbz.1
    have hVL : V.length = n1 := by rw [hok.1, HL0.out]
    have HVL := Lib.hid hVL
    have hce : costErr s V = 0 := costErr_zero.2 ⟨hs.1, by rw [hok.1], hok.2.1⟩
    have HC1 := Lib.hid fun (W : World) (A : Option Addr) (c : Nat) hW1 hBW hW2 => shcost_ok A0 n1 c0 s A n1 c V W w.heap.size W.heap.size hW1 hW2 hBW (Nat.le_refl _) hce
    have hcb := cost_bd s V hbz.2.2.1 hok.2.1
    have hsl : s.length ≤ 8 := hbz.2.1
    have HMORE : Hid (∀ i, i < n1 → l.getD i 0 ≠ 0 → V.getD i 0 ≠ 8 → ∃ M, bits < M ∧ ∀ (W : World) (A : Option Addr) (c : Nat), RdI W w.heap.size A0 n1 s → w.heap.size ≤ W.heap.size → RdI W W.heap.size A n1 (V.set i (V.getD i 0 + 1)) →
        Calls Try.prog 27 #[.slice A0 n1 c0, .slice A n1 c] W fun e w' => e = .returned (.tuple #[.int .i64 M, .nilIface]) ∧ Below W.heap.size W w') := Lib.hid fun i hi h1 h2 => by
      have hm := hok.2.2.2.2 i (by rw [HL0.out]; exact hi) h1 h2
      have hVi := Ph.pulsesOk_getD hok.2.1 i
      refine ⟨Ph.cost s (V.set i (V.getD i 0 + 1)), hm, fun W A c hW1 hBW hW2 => shcost_ok A0 n1 c0 s A n1 c _ W w.heap.size W.heap.size hW1 hW2 hBW (Nat.le_refl _) (costErr_zero.2 ⟨hs.1, by rw [List.length_set, hok.1], set_ok hok.2.1 _ (by omega)⟩)⟩
    have HV : Hid ((∀ i, 0 ≤ V.getD i 0 ∧ V.getD i 0 ≤ 8) ∧ ∀ i, i < n1 → l.getD i 0 = 0 → V.getD i 0 = 0) := Lib.hid ⟨Ph.pulsesOk_getD hok.2.1, fun i hi => hok.2.2.2.1 i (by rw [HL0.out]; exact hi)⟩
    have HLB : Hid (∀ i, 0 ≤ l.getD i 0 ∧ l.getD i 0 ≤ 8000) := Lib.hid fun i => by
      rw [List.getD_eq_getElem?_getD]
      rcases Nat.lt_or_ge i l.length with hi | hi
      · rw [List.getElem?_eq_getElem hi]; exact hs.2.2.1 _ (List.getElem_mem hi)
      · rw [List.getElem?_eq_none hi]; simp
    have HEND : Hid (∀ B : Bool, (B = true ↔ ∀ i, i < n1 → 2 * l.getD i 0 ≤ 8000) → (B = true → shareErr s (dbl l) bits = 0) ∧ (B = false → shareErr s (dbl l) bits ≠ 0)) := Lib.hid fun B hB => by
      have key : shareErr s (dbl l) bits = 0 ↔ ∀ i, i < n1 → 2 * l.getD i 0 ≤ 8000 := by
        rw [shareErr_zero, dbl_length]
        constructor
        · intro h i hi
          have := (h.2.2.1 _ (Ph.getD_mem (l := dbl l) (i := i) (by rw [dbl_length, HL1.out]; exact hi))).2
          rwa [dbl_getD] at this
        · intro h
          refine ⟨hs.1, hs.2.1, fun x hx => ?_, hs.2.2.2⟩
          obtain ⟨j, hj, rfl⟩ := List.mem_iff_getElem.1 hx
          rw [dbl_length, HL1.out] at hj
          have e := dbl_getD l j
          rw [List.getD_eq_getElem?_getD, List.getElem?_eq_getElem (by rw [dbl_length, HL1.out]; exact hj)] at e
          have h2 := h j hj
          have h3 := HLB.out j
          simp only [Option.getD_some] at e
          omega
      exact ⟨fun h => key.2 (hB.1 h), fun h h2 => by have := hB.2 (key.1 h2); rw [h] at this; cases this⟩
    have HEO := Lib.hid fun (W : World) (A : Option Addr) (c : Nat) hW1 hW2 h0 => shof_ok A0 n1 c0 s A n1 c (dbl l) bits W W.heap.size hW1 hW2 (Nat.le_refl _) h0
    rw [HTW.out] at HEO
    have HEN := Lib.hid fun (W : World) (A : Option Addr) (c : Nat) hW1 hW2 h0 => shof_no A0 n1 c0 s A n1 c (dbl l) bits W W.heap.size hW1 hW2 (by omega) (by omega) h0
    obtain ⟨C, hC⟩ : ∃ C, C = Ph.cost s V := ⟨_, rfl⟩
    have hle := hok.2.2.1
    rw [← hC] at hle HC1 HLF hcb
    obtain ⟨E2, hE2⟩ : ∃ E2, E2 = shareErr s (dbl l) bits := ⟨_, rfl⟩
    rw [← hE2] at HEND HEO HEN
    have hbt0 := hs.2.2.2.1
    have hbt1 := hs.2.2.2.2
    have k1 : IntKind.i64.wrap (bits - C) = bits - C := IntWalk.i64_in _ (by omega)
    have hnle : ¬ bits < C := by omega
    have hnn1 : ((n1 : Int) != (n1 : Int)) = false := by simp
    have hbc : ((bits - C) != (bits - C)) = false := by simp
    clear hE hs hok hbz hV hVL hce hcb hsl hC hle HTW hE2
    go_enter Try.func7, Try.ntmps7
    go_wp2_with fail
    refine HF.out.mono ?_
    rintro e w1 ⟨A3, c3, rfl, ho, hb⟩
    have hrr := RdI.own ho
    obtain ⟨b3, o3, rfl, _, hc3⟩ := hrr.2 (by decide)
    have d0 : w1.cell? ⟨b3, o3, none⟩ = some (.int .i64 4) := hc3 0 (by decide)
    have d1 : w1.cell? ⟨b3, o3 + 1, none⟩ = some (.int .i64 1) := hc3 1 (by decide)
    have KB := Lib.hid (below_on HB.out hb)
    clear ho hb hrr hc3 HF HB
    go_wp2_with fail
    refine (HO.out _ (H0.out.below KB.out) (H1.out.below KB.out) KB.out.size).mono ?_
    rintro e w2 ⟨A4, c4, rfl, ho, hb⟩
    rw [HVL.out] at ho ⊢
    have LB := Lib.hid (below_on KB.out hb)
    have LO := Lib.hid (own_more ho KB.out.size)
    have hform := own_form LO.out (by omega)
    clear d0 d1 ho hb HO
    obtain ⟨g4, rfl, hg4, hg4l⟩ := hform
    go_wp2_with fail
    refine (HC1.out _ _ _ (H0.out.below LB.out) LB.out.size (RdI.own LO.out)).mono ?_
    rintro e w3 ⟨rfl, hb⟩
    have MB := Lib.hid (below_on LB.out hb)
    have MO := Lib.hid (own_below' LO.out hb)
    have hg3l : g4 < w3.heap.size := Nat.lt_of_lt_of_le hg4l hb.size
    clear hb LO LB KB HC1 hg4l
    go_wp2_with fail
    refine (HLF.out _ (H0.out.below MB.out) (H1.out.below MB.out) MB.out.size).mono ?_
    rintro e w4 ⟨rfl, hb⟩
    have NB := Lib.hid (below_on MB.out hb)
    have NO := Lib.hid (own_below' MO.out hb)
    have hg4l : g4 < w4.heap.size := Nat.lt_of_lt_of_le hg3l hb.size
    clear hb MO MB HLF hg3l
    go_wp2_with fail
    go_loopw [15, 16, 17] (fun sm t i wr => ∃ (q : Nat) (B : Bool) (A6 : Option Addr) (c6 : Nat), q ≤ n1 ∧ i = .int .i64 q ∧ sm = .bool B ∧ t = .slice A6 q c6 ∧ Hid (B = true ↔ ∀ i, i < q → 2 * l.getD i 0 ≤ 8000) ∧ Hid (wr.ownsRow w4.heap.size 3 1 (.slice A6 q c6) q (ivals (dbl (l.take q)))) ∧
      Hid (wr.ownsRow w.heap.size 3 1 (.slice (some ⟨g4, 0, none⟩) n1 c4) n1 (ivals V)) ∧ Hid (Below w.heap.size w wr) ∧ w4.heap.size ≤ wr.heap.size) (fun _ _ i _ => n1 - (intOf i).toNat)
    case atStart => exact ⟨0, true, none, 0, Nat.zero_le _, rfl, rfl, rfl, Lib.hid ⟨fun _ i hi => absurd hi (by omega), fun _ => rfl⟩, Lib.hid (own_nil _ _ _), NO, NB, Nat.le_refl _⟩
    case round =>
      obtain ⟨q, B, A6, c6, hq, rfl, rfl, rfl, HBI, HT, HK, HBW, hsz⟩ := hrel
      clear NO NB
      by_cases hlt : q < n1
      · obtain ⟨b1, o1, rfl, hbb1, hc1⟩ := (H1.out.below HBW.out).at_ hlt
        have hql : q < l.length := by rw [HL1.out]; exact hlt
        have hqV : q < V.length := by rw [HVL.out]; exact hlt
        have c4' : wr.cell? ⟨g4, q, none⟩ = some (.int .i64 (V.getD q 0)) := by rw [HK.out.cellAt q (by omega), ivals_get hqV]
        have f4 : wr.frozen? ⟨g4, q, none⟩ = false := HK.out.frozenAt q
        have hy := HV.out.1 q
        have hu := HLB.out q
        have hz := HV.out.2 q hlt
        have hmo := HMORE.out q hlt
        have hdt := Lib.hid (dbl_take l q hql)
        have HSB := Lib.hid (set_back V q (V.getD q 0 + 1))
        have HBN : Hid (∀ b2 : Bool, (b2 = true ↔ (B = true ∧ 2 * l.getD q 0 ≤ 8000)) → (b2 = true ↔ ∀ i, i < q + 1 → 2 * l.getD i 0 ≤ 8000)) := Lib.hid fun b2 h => by
          rw [h, HBI.out]
          constructor
          · rintro ⟨h1, h2⟩ i hi
            rcases Nat.lt_or_ge i q with h3 | h3
            · exact h1 i h3
            · obtain rfl : i = q := by omega
              exact h2
          · intro h1
            exact ⟨fun i hi => h1 i (by omega), h1 q (by omega)⟩
        obtain ⟨u, hue⟩ : ∃ u, u = l.getD q 0 := ⟨_, rfl⟩
        obtain ⟨y, hye⟩ : ∃ y, y = V.getD q 0 := ⟨_, rfl⟩
        rw [← hue] at hc1 hu hz hmo hdt HBN
        rw [← hye] at c4' hy hz hmo HSB
        have k2 : IntKind.i64.wrap (2 * u) = 2 * u := IntWalk.i64_in _ (by omega)
        have k3 : IntKind.i64.wrap (y + 1) = y + 1 := IntWalk.i64_in _ (by omega)
        have k4 : IntKind.i64.wrap (y + 1 - 1) = y := by rw [show y + 1 - 1 = y by omega]; exact IntWalk.i64_in _ (by omega)
        have hlt' : (q : Int) < (n1 : Int) := by omega
        have y1 : ¬ y < 0 := by omega
        have y2 : ¬ 8 < y := by omega
        have hw4 : w.heap.size ≤ w4.heap.size := by omega
        clear hue hye hql hqV
        by_cases hu0 : u = 0
        · have hy0 := hz hu0
          subst hu0
          subst hy0
          clear hz hmo HSB k2 k3 k4
          cases B
          all_goals
            go_wp2_with (at_builtin; refine wpList_push _ (by rfl) _ _ (by rfl) wr w4.heap.size A6 q c6 _ 0 HT.out (Below.refl _ _) hsz (by omega) (by rfl) (by rfl) ?_; intro g cap w2 ho2 hb2; have c1' := (hb2.cell (p := ⟨b1, o1 + q, none⟩) (by show b1 < _; omega)).trans hc1; have c4b := (hb2.cell (p := ⟨g4, q, none⟩) hg4l).trans c4')
            have T2 := Lib.hid ho2
            have K2 := Lib.hid (own_below HK.out hb2 (fun g e => by simp [Value.ownBlock] at e; omega))
            have B2 := Lib.hid (HBW.out.trans (hb2.mono hw4))
            have S2 := Lib.hid (Nat.le_trans hsz hb2.size)
            clear ho2 hb2 hc1 c4' f4
            go_wp2_with fail
            go_roundw
            case rel => exact ⟨q + 1, _, some ⟨g, 0, none⟩, cap, by omega, by go_num, rfl, rfl, Lib.hid (HBN.out _ (by simp)), by rw [hdt.out]; exact T2, K2, B2, S2.out⟩
            case measure => simp [intOf]; omega
        · have hu1 : (u == 0) = false := by simpa using hu0
          by_cases hy8 : y = 8
          · subst hy8
            clear hz hmo HSB k3 k4
            cases B
            all_goals
              go_wp2_with (at_builtin; refine wpList_push _ (by rfl) _ _ (by rfl) wr w4.heap.size A6 q c6 _ (2 * u) HT.out (Below.refl _ _) hsz (by omega) (by rfl) (by rfl) ?_; intro g cap w2 ho2 hb2; have c1' := (hb2.cell (p := ⟨b1, o1 + q, none⟩) (by show b1 < _; omega)).trans hc1; have c4b := (hb2.cell (p := ⟨g4, q, none⟩) hg4l).trans c4'; have f4b := (own_below HK.out hb2 (fun g e => by simp [Value.ownBlock] at e; omega)).frozenAt q)
              have T2 := Lib.hid ho2
              have K2 := Lib.hid (own_below HK.out hb2 (fun g e => by simp [Value.ownBlock] at e; omega))
              have B2 := Lib.hid (HBW.out.trans (hb2.mono hw4))
              have S2 := Lib.hid (Nat.le_trans hsz hb2.size)
              clear ho2 hb2 hc1 c4' f4
              go_wp2_with fail
              go_roundw
              case rel => exact ⟨q + 1, _, some ⟨g, 0, none⟩, cap, by omega, by go_num, rfl, rfl, Lib.hid (HBN.out _ (by simp)), by rw [hdt.out]; exact T2, K2, B2, S2.out⟩
              case measure => simp [intOf]; omega
          · have hy9 : (y == 8) = false := by simpa using hy8
            obtain ⟨M, hM, HM0⟩ := hmo hu0 hy8
            have HM := Lib.hid HM0
            have hM1 : ¬ M ≤ bits := by omega
            have HVQ : Hid ((V.set q (y + 1)).getD q 0 = y + 1) := Lib.hid (set_getD_same V q _ (by rw [HVL.out]; exact hlt))
            clear hz hmo HM0 hM
            cases B
            all_goals
              go_wp2_with (at_builtin; refine wpList_push _ (by rfl) _ _ (by rfl) wr w4.heap.size A6 q c6 _ (2 * u) HT.out (Below.refl _ _) hsz (by omega) (by rfl) (by rfl) ?_; intro g cap w2 ho2 hb2; have c1' := (hb2.cell (p := ⟨b1, o1 + q, none⟩) (by show b1 < _; omega)).trans hc1; have c4b := (hb2.cell (p := ⟨g4, q, none⟩) hg4l).trans c4'; have f4b := (own_below HK.out hb2 (fun g e => by simp [Value.ownBlock] at e; omega)).frozenAt q)
              have hgg := (ho2.lt g rfl).1
              have T2 := Lib.hid ho2
              have K2 := Lib.hid (own_below HK.out hb2 (fun g e => by simp [Value.ownBlock] at e; omega))
              have B2 := Lib.hid (HBW.out.trans (hb2.mono hw4))
              have S2 := Lib.hid (Nat.le_trans hsz hb2.size)
              have ks := (K2.out.stored q (.int .i64 (y + 1))).1
              rw [ivals_set] at ks
              have K3 := Lib.hid ks
              have T3 := Lib.hid (own_setFar T2.out (p := ⟨g4, q, none⟩) (fun e => by simp [Value.ownBlock] at e; omega) (.int .i64 (y + 1)))
              have B3 := Lib.hid (B2.out.setCell (p := ⟨g4, q, none⟩) hg4 (.int .i64 (y + 1)))
              clear ho2 hb2 hc1 c4' f4 ks
              go_wp2_with fail
              refine (HM.out _ _ _ (H0.out.below B3.out) B3.out.size (RdI.own K3.out)).mono ?_
              rintro e w5 ⟨rfl, hb5⟩
              have K5 := Lib.hid (own_below' K3.out hb5)
              have T5 := Lib.hid (own_below' T3.out hb5)
              have B5 := Lib.hid (below_on B3.out hb5)
              have S5 : Hid (w4.heap.size ≤ w5.heap.size) := Lib.hid (Nat.le_trans (by simpa using S2.out) hb5.size)
              have c5 : w5.cell? ⟨g4, q, none⟩ = some (.int .i64 (y + 1)) := by
                rw [K5.out.cellAt q (by omega), ivals_get (by rw [List.length_set, HVL.out]; exact hlt), HVQ.out]
              have f5 : w5.frozen? ⟨g4, q, none⟩ = false := K5.out.frozenAt q
              have ks := (K5.out.stored q (.int .i64 y)).1
              rw [ivals_set, HSB.out] at ks
              have K6 := Lib.hid ks
              have T6 := Lib.hid (own_setFar T5.out (p := ⟨g4, q, none⟩) (fun e => by simp [Value.ownBlock] at e; omega) (.int .i64 y))
              have B6 := Lib.hid (B5.out.setCell (p := ⟨g4, q, none⟩) hg4 (.int .i64 y))
              clear hb5 ks c1' c4b f4b
              go_wp2_with fail
              go_roundw
              case rel => exact ⟨q + 1, _, some ⟨g, 0, none⟩, cap, by omega, by go_num, rfl, rfl, Lib.hid (HBN.out _ (by simp)), by rw [hdt.out]; exact T6, K6, B6, by simpa using S5.out⟩
              case measure => simp [intOf]; omega
      · obtain rfl : q = n1 := by omega
        have hall : l.take q = l := List.take_of_length_le (by rw [HL1.out]; omega)
        rw [hall] at HT
        have HE1 := Lib.hid (HEND.out B HBI.out)
        have HTR := Lib.hid (RdI.own HT.out)
        have hV2 := HVL.out
        clear hall HT
        cases B with
        | true =>
          have hE0 := HE1.out.1 rfl
          go_wp2_with fail
          refine (HEO.out _ _ _ (H0.out.on HBW.out) HTR.out hE0).mono ?_
          rintro e w5 ⟨A7, c7, rfl, ho, hb5⟩
          rw [HVL.out] at ho ⊢
          have HX := Lib.hid (RdI.own ho)
          have HKR := Lib.hid ((RdI.own HK.out).on hb5)
          have B5 := Lib.hid (below_on HBW.out hb5)
          clear ho hb5
          go_wp2_with fail
          refine (ints_any A7 (some ⟨g4, 0, none⟩) q c7 q c4 V V _ _ _ HX.out HKR.out (Nat.le_refl _) (Nat.le_refl _) (by omega)).mono ?_
          rintro e w6 ⟨rfl, hb6⟩
          rw [sameI_true.2 (rfl : V = V)]
          have B6 := Lib.hid (below_on B5.out hb6)
          clear hb6
          go_wp2_with fail
          go_ret
          exact ⟨ret_true (by simp), B6.out⟩
        | false =>
          have hE0 := HE1.out.2 rfl
          have hev := errV_ne hE0
          have HN := Lib.hid (HEN.out wr A6 c6 (H0.out.on HBW.out) HTR.out hE0)
          rw [hev] at HN
          clear hE0 hev
          go_wp2_with fail
          refine (HN.out).mono ?_
          rintro e wk ⟨rfl, rfl⟩
          go_wp2_with fail
          go_ret
          exact ⟨ret_true (by simp), HBW.out⟩
  · have HN := Lib.hid fun W hW1 hW2 => shof_no A0 n0 c0 s A1 n1 c1 l bits W w.heap.size hW1 hW2 (by omega) (by omega) hE
    have he := errV_ne hE
    obtain ⟨E, hE2⟩ : ∃ E, E = shareErr s l bits := ⟨_, rfl⟩
    rw [← hE2] at HN he
    rw [he] at HN
    clear hE hE2 he
    go_enter Try.func7, Try.ntmps7
    go_wp2_with fail
    refine HF.out.mono ?_
    rintro e w1 ⟨A3, c3, rfl, ho, hb⟩
    have hrr := RdI.own ho
    obtain ⟨b3, o3, rfl, _, hc3⟩ := hrr.2 (by decide)
    have d0 : w1.cell? ⟨b3, o3, none⟩ = some (.int .i64 4) := hc3 0 (by decide)
    have d1 : w1.cell? ⟨b3, o3 + 1, none⟩ = some (.int .i64 1) := hc3 1 (by decide)
    have KB := Lib.hid (below_on HB.out hb)
    clear ho hb hrr hc3 HF HB
    go_wp2_with fail
    refine (HN.out _ (H0.out.below KB.out) (H1.out.below KB.out)).mono ?_
    rintro e wk ⟨rfl, rfl⟩
    go_wp2_with fail
    go_ret
    exact ⟨rfl, KB.out⟩
end Go.Proofs.Ytgadgpkhkncnnaa
