/- The walk of the law TopBudget. -/
import Derived.Test.YtapjnfhbjmeniaaFrame
import Derived.Test.YtapjnfhbjmeniaaOne
import Derived.Test.YtapjnfhbjmeniaaTank
import Derived.Test.YtapjnfhbjmeniaaWidth3
import Derived.Test.YtapjnfhbjmeniaaOpen
namespace Go.Proofs.Ytapjnfhbjmeniaa
open Go.RowKit

theorem vals_len (ps : List Ph.Part) : (Ph.vals ps).length = ps.length := by unfold Ph.vals; simp
/-- The pulses of each part. -/
def louds (ps : List Ph.Part) : List Int := ps.map fun p => Ph.loud p.pulses
theorem louds_len (ps : List Ph.Part) : (louds ps).length = ps.length := by unfold louds; simp
theorem louds_take (ps : List Ph.Part) (k : Nat) (h : k < ps.length) : (louds ps).take (k + 1) = (louds ps).take k ++ [Ph.loud (ps.getD k ⟨0, []⟩).pulses] := by
  unfold louds
  rw [List.take_succ_eq_append_getElem (by simpa using h), List.getElem_map, List.getD_eq_getElem?_getD, List.getElem?_eq_getElem h]
  rfl
set_option maxHeartbeats 4000000 in
set_option maxRecDepth 1000000 in
theorem topBudget_walk (w : World) (A0 : Option Addr) (n0 c0 : Nat) (l : List Int) (h0 : RdI w w.heap.size A0 n0 l) (hb0 : n0 ≤ c0 ∧ c0 ≤ 17592186044415) (_ : ∀ x ∈ l, Is64 x) (A1 : Option Addr) (n1 c1 : Nat) (s : List Int) (h1 : RdI w w.heap.size A1 n1 s) (hb1 : n1 ≤ c1 ∧ c1 ≤ 17592186044415) (_ : ∀ x ∈ s, Is64 x) (ts te th : Int) :
    Calls Try.prog 7 #[.slice A0 n0 c0, .slice A1 n1 c1, .agg #[.int .i64 ts, .int .i64 te, .int .i64 th]] w fun e w' => e = .returned (.bool true) ∧ Below w.heap.size w w' := by
  have HL1 := Lib.hid h1.len
  have HB0 : Hid (Below w.heap.size w (w.alloc (.cells #[.int .i64 ts, .int .i64 te, .int .i64 th] 51))) := Lib.hid (below_alloc0 _ _)
  have HT0 : Hid ((w.alloc (.cells #[.int .i64 ts, .int .i64 te, .int .i64 th] 51)).cell? ⟨w.heap.size, 0, none⟩ = some (.int .i64 ts) ∧ (w.alloc (.cells #[.int .i64 ts, .int .i64 te, .int .i64 th] 51)).cell? ⟨w.heap.size, 1, none⟩ = some (.int .i64 te) ∧ (w.alloc (.cells #[.int .i64 ts, .int .i64 te, .int .i64 th] 51)).cell? ⟨w.heap.size, 2, none⟩ = some (.int .i64 th)) := Lib.hid (by simp)
  obtain ⟨W0, hW0⟩ : ∃ W0, W0 = w.alloc (.cells #[.int .i64 ts, .int .i64 te, .int .i64 th] 51) := ⟨_, rfl⟩
  have hsz0 : W0.heap.size = w.heap.size + 1 := by rw [hW0]; simp
  rw [← hW0] at HB0 HT0
  have HW0 := Lib.hid hW0
  have H0 := Lib.hid (h0.below HB0.out)
  have H1 := Lib.hid (h1.below HB0.out)
  clear h0 h1 hW0
  go_enter Try.func7, Try.ntmps7
  go_wp2_with fail
  rw [← HW0.out]
  refine (one_any _).mono ?_
  rintro e w1 ⟨rfl, hb⟩
  have KB := Lib.hid (HB0.out.trans (hb.mono HB0.out.size))
  obtain ⟨z0, z1, z2⟩ : w1.cell? ⟨w.heap.size, 0, none⟩ = some (.int .i64 ts) ∧ w1.cell? ⟨w.heap.size, 1, none⟩ = some (.int .i64 te) ∧ w1.cell? ⟨w.heap.size, 2, none⟩ = some (.int .i64 th) :=
    ⟨(hb.cell (p := ⟨w.heap.size, 0, none⟩) (by show w.heap.size < _; omega)).trans HT0.out.1, (hb.cell (p := ⟨w.heap.size, 1, none⟩) (by show w.heap.size < _; omega)).trans HT0.out.2.1, (hb.cell (p := ⟨w.heap.size, 2, none⟩) (by show w.heap.size < _; omega)).trans HT0.out.2.2⟩
  have hsz1 : w.heap.size + 1 ≤ w1.heap.size := by have := hb.size; omega
  have K0 := Lib.hid (H0.out.below (hb.mono HB0.out.size))
  have K1 := Lib.hid (H1.out.below (hb.mono HB0.out.size))
  clear hb H0 H1 HB0 HT0 HW0 hsz0
  by_cases ht : Ph.tankErr ⟨ts, te, th⟩ = 0
  · have htz := Ph.tankErr_zero.1 ht
    simp only at htz
    have HMA := Lib.hid fun W => tmay_ok ts te th W (by omega) (by omega) (by omega)
    have HTT := Lib.hid fun b W => tturn_ok ts te th b W (by omega) (by omega) (by omega)
    unfold tankV at HMA HTT
    have hfb : 0 ≤ Ph.full ⟨ts, te, th⟩ ∧ Ph.full ⟨ts, te, th⟩ ≤ 1000000 := by unfold Ph.full; simp only; split <;> omega
    obtain ⟨F, hF⟩ : ∃ F, F = Ph.full ⟨ts, te, th⟩ := ⟨_, rfl⟩
    rw [← hF] at HMA HTT hfb
    clear ht htz hF
    by_cases h4 : 400 < F
    · go_wp2_with fail
      refine (HMA.out _).mono ?_
      rintro e w2 ⟨rfl, hb⟩
      have LB := Lib.hid (below_on KB.out hb)
      clear hb
      go_wp2_with fail
      go_ret
      exact ⟨rfl, LB.out⟩
    · have HEN := Lib.hid fun W hW1 hW2 hBW => encode_any A0 n0 c0 l A1 n1 c1 s F W w.heap.size hW1 hW2 hBW (by omega) (by omega)
      go_wp2_with fail
      refine (HMA.out _).mono ?_
      rintro e w2 ⟨rfl, hb⟩
      have y0 := (hb.cell (p := ⟨w.heap.size, 0, none⟩) (by show w.heap.size < _; omega)).trans z0
      have y1 := (hb.cell (p := ⟨w.heap.size, 1, none⟩) (by show w.heap.size < _; omega)).trans z1
      have y2 := (hb.cell (p := ⟨w.heap.size, 2, none⟩) (by show w.heap.size < _; omega)).trans z2
      have LB := Lib.hid (below_on KB.out hb)
      have L0 := Lib.hid (K0.out.below (hb.mono KB.out.size))
      have L1 := Lib.hid (K1.out.below (hb.mono KB.out.size))
      have hsz2 : w.heap.size + 1 ≤ w2.heap.size := Nat.le_trans hsz1 hb.size
      clear hb z0 z1 z2 K0 K1 KB
      by_cases hE : Ph.encErr l s F = 0
      · have hri := Ph.enc_right hE
        have hfz := Ph.frameErr_zero.1 hri.1
        have hel := Ph.enc_length (l := l) (sizes := s) (bits := F)
        have hsf := Ph.shared_facts hE
        have helo := Ph.enc_loud hE
        have hve := Ph.vals_enc (l := l) (sizes := s) (bits := F)
        rw [hE, gotP_zero] at HEN
        rw [HL1.out] at hel
        have hx : Ph.shareOf s (Ph.vals (Ph.encoded l s F)) F = louds (Ph.encoded l s F) := by
          rw [hve]; exact helo.symm
        have hcb : Ph.cost s (louds (Ph.encoded l s F)) ≤ F := hri.2
        have hpo : Ph.pulsesOk (louds (Ph.encoded l s F)) := by
          have : louds (Ph.encoded l s F) = _ := helo
          rw [this]; exact hsf.2.1
        have hce : costErr s (louds (Ph.encoded l s F)) = 0 := costErr_zero.2 ⟨hfz.1, by rw [louds_len, hel, HL1.out], hpo⟩
        have hvb : ∀ x ∈ Ph.vals (Ph.encoded l s F), 0 ≤ x ∧ x ≤ 8000 := fun x hx => by
          obtain ⟨p, hp, rfl⟩ := List.mem_map.1 hx
          exact val_bd (hfz.2.2.1 p hp).1
        have hse : shareErr s (Ph.vals (Ph.encoded l s F)) F = 0 := shareErr_zero.2 ⟨hfz.1, by rw [vals_len, hel, HL1.out], hvb, hfb.1, by omega⟩
        have hcn := (cost_bd s (louds (Ph.encoded l s F)) ((Ph.bandErr_zero.1 hfz.1).2.2.1) hpo).1
        have HPE : Hid (∀ p ∈ Ph.encoded l s F, Ph.gainOk p.gain = true ∧ Ph.pulsesErr p.pulses = 0) := Lib.hid hfz.2.2.1
        have HCO := Lib.hid fun A c W (hW1 : RdI W w.heap.size A1 n1 s) (hW2 : RdI W W.heap.size A n1 (louds (Ph.encoded l s F))) hBW => shcost_ok A1 n1 c1 s A n1 c (louds (Ph.encoded l s F)) W w.heap.size W.heap.size hW1 hW2 hBW (Nat.le_refl _) hce
        have HSO := Lib.hid fun A c W (hW1 : RdI W W.heap.size A1 n1 s) (hW2 : RdI W W.heap.size A n1 (Ph.vals (Ph.encoded l s F))) => shof_ok A1 n1 c1 s A n1 c (Ph.vals (Ph.encoded l s F)) F W W.heap.size hW1 hW2 (Nat.le_refl _) hse
        rw [hx] at HSO
        have hn8 : n1 ≤ 8 := by have := (Ph.bandErr_zero.1 hfz.1).2.1; have := HL1.out; omega
        obtain ⟨P, hP⟩ : ∃ P, P = Ph.encoded l s F := ⟨_, rfl⟩
        rw [← hP] at HEN hel hcb HPE HCO HSO hcn
        obtain ⟨C, hC⟩ : ∃ C, C = Ph.cost s (louds P) := ⟨_, rfl⟩
        rw [← hC] at hcb HCO hcn
        have HTC := Lib.hid fun W => HTT.out C W ⟨hcn, by omega⟩ hcb
        have HPL := Lib.hid hel
        clear hE hri hfz hel hsf helo hve hx hpo hce hvb hse hP hC HTT HMA
        go_wp2_with fail
        refine (HEN.out _ L0.out L1.out LB.out.size).mono ?_
        rintro e w3 ⟨A3, n3, c3, rfl, ho, hb⟩
        have hn3 : n3 = n1 := by have := ho.len; have := HPL.out; omega
        subst hn3
        have HP3 := Lib.hid ho.rd
        have hsz3 : w.heap.size + 1 ≤ w3.heap.size := Nat.le_trans hsz2 hb.size
        have x0 := (hb.cell (p := ⟨w.heap.size, 0, none⟩) (by show w.heap.size < _; omega)).trans y0
        have x1 := (hb.cell (p := ⟨w.heap.size, 1, none⟩) (by show w.heap.size < _; omega)).trans y1
        have x2 := (hb.cell (p := ⟨w.heap.size, 2, none⟩) (by show w.heap.size < _; omega)).trans y2
        have MB := Lib.hid (below_on LB.out hb)
        have M1 := Lib.hid (L1.out.below (hb.mono LB.out.size))
        rw [errV_zero]
        clear ho hb y0 y1 y2 L0 L1 LB HEN hsz2 hsz1
        go_wp2_with fail
        go_loopw [11, 12, 13, 14, 15, 16, 17] (fun sk sl i _ _ _ _ wr => ∃ (k : Nat) (v1 v2 : Value), k ≤ n3 ∧ i = .int .i64 k ∧ sk = v1 ∧ sl = v2 ∧ Hid (TwoS w3.heap.size k k v1 v2 ((louds P).take k) ((Ph.vals P).take k) wr) ∧ Hid (Below w3.heap.size w3 wr)) (fun _ _ i _ _ _ _ _ => n3 - (intOf i).toNat)
        case atStart => exact ⟨0, .slice none 0 0, .slice none 0 0, Nat.zero_le _, rfl, rfl, rfl, Lib.hid ⟨own_nil _ _ _, own_nil _ _ _, fun q hq => by simp [Value.ownBlock] at hq, Nat.le_refl _⟩, Lib.hid (Below.refl _ _)⟩
        case round =>
          obtain ⟨k, v1, v2, hk, rfl, rfl, rfl, HT, HBW⟩ := hrel
          obtain ⟨A11, k11, rfl⟩ := own_slice HT.out.1
          obtain ⟨A12, k12, rfl⟩ := own_slice HT.out.2.1
          by_cases hlt : k < n3
          · obtain ⟨b5, o5, A5, c5, hA5, hb5, d1, d2, hcc, hrd⟩ := (HP3.out.below HBW.out).at_ hlt
            subst hA5
            have hpk := HPE.out _ (partD_mem (by rw [HPL.out]; exact hlt))
            have hlt1 := louds_take P k (by rw [HPL.out]; exact hlt)
            have hlt2 := vals_take P k (by rw [HPL.out]; exact hlt)
            obtain ⟨p, hp⟩ : ∃ p, p = P.getD k ⟨0, []⟩ := ⟨_, rfl⟩
            rw [← hp] at d1 d2 hcc hrd hpk hlt1 hlt2
            obtain ⟨g, v⟩ := p
            simp only at d1 d2 hcc hrd hpk hlt1 hlt2
            have hvl : v.length ≤ 6 := (Ph.pulsesErr_zero.1 hpk.2).1
            have hrd2 := hrd.more HBW.out.size
            obtain ⟨q, hq⟩ : ∃ q, q = v.length := ⟨_, rfl⟩
            rw [← hq] at d2 hcc hrd2 hvl
            have hpc := pCheck_any A5 q c5 v wr wr.heap.size hrd2 (Nat.le_refl _) (by omega)
            rw [hpk.2, if_pos rfl, errV_zero] at hpc
            have HPC := Lib.hid hpc
            have HGV := Lib.hid fun W => gv_ok g W hpk.1
            have HT1 := Lib.hid hlt1
            have HT2 := Lib.hid hlt2
            obtain ⟨X, hX⟩ : ∃ X, X = Ph.loud v := ⟨_, rfl⟩
            rw [← hX] at HPC HT1
            obtain ⟨Y, hY⟩ : ∃ Y, Y = Ph.val g := ⟨_, rfl⟩
            rw [← hY] at HGV HT2
            clear hp hpk hlt1 hlt2 hrd hrd2 hq hpc hX hY
            go_wp2_with fail
            refine HPC.out.mono ?_
            rintro e w4 ⟨rfl, hb⟩
            have d3 := (hb.cell (World.block_lt_of_cell? wr _ d1)).trans d1
            have HT4 : Hid (TwoS w3.heap.size k k (.slice A11 k k11) (.slice A12 k k12) ((louds P).take k) ((Ph.vals P).take k) w4) := Lib.hid ⟨own_below' HT.out.1 hb, own_below' HT.out.2.1 hb, HT.out.2.2.1, Nat.le_trans HT.out.2.2.2 hb.size⟩
            have HB4 := Lib.hid (below_on HBW.out hb)
            clear hb d1 d2
            go_wp2_with fail
            refine (HGV.out _).mono ?_
            rintro e w5 ⟨rfl, nq, rfl⟩
            obtain ⟨W5, hW5⟩ : ∃ W5, W5 = w4.drewN nq := ⟨_, rfl⟩
            have HT5 : Hid (TwoS w3.heap.size k k (.slice A11 k k11) (.slice A12 k k12) ((louds P).take k) ((Ph.vals P).take k) W5) := Lib.hid (by rw [hW5]; exact HT4.out.drewN _)
            have HB5 : Hid (Below w3.heap.size w3 W5) := Lib.hid (by rw [hW5]; exact below_drewN' HB4.out _)
            rw [← hW5]
            clear hW5 HT4 HB4 d3
            go_wp2_with (first
              | (at_builtin; refine wpList_twoS1 _ (by rfl) _ _ (by rfl) w3 X HT5.out HB5.out (by omega) (by rfl) (by rfl) ?_; intro g1 cp1 wa hta hba; have HTA := Lib.hid hta; have HBA1 := Lib.hid hba; clear hta hba)
              | (at_builtin; refine wpList_twoS2 _ (by rfl) _ _ (by rfl) w3 Y HTA.out HBA1.out (by omega) (by rfl) (by rfl) ?_; intro g2 cp2 wb htb hbb; have HTB := Lib.hid htb; have HBB := Lib.hid hbb; clear htb hbb))
            go_roundw
            case rel => exact ⟨k + 1, _, _, by omega, by go_num, rfl, rfl, Lib.hid (by rw [HT1.out, HT2.out]; exact HTB.out), HBB⟩
            case measure => simp [intOf]; omega
          · obtain rfl : k = n3 := by omega
            have ht := HT.out
            rw [List.take_of_length_le (by rw [louds_len, HPL.out]; omega), List.take_of_length_le (by rw [vals_len, HPL.out]; omega)] at ht
            have HT9 := Lib.hid ht
            have NB := Lib.hid (MB.out.trans (HBW.out.mono MB.out.size))
            have N1 := Lib.hid (M1.out.below (HBW.out.mono MB.out.size))
            have y0 := (HBW.out.cell (p := ⟨w.heap.size, 0, none⟩) (by show w.heap.size < _; omega)).trans x0
            have y1 := (HBW.out.cell (p := ⟨w.heap.size, 1, none⟩) (by show w.heap.size < _; omega)).trans x1
            have y2 := (HBW.out.cell (p := ⟨w.heap.size, 2, none⟩) (by show w.heap.size < _; omega)).trans x2
            clear ht HT x0 x1 x2 MB M1
            go_wp2_with fail
            refine (HCO.out _ _ _ N1.out (RdI.own HT9.out.1) NB.out.size).mono ?_
            rintro e w4 ⟨rfl, hb⟩
            have x0 := (hb.cell (World.block_lt_of_cell? wr _ y0)).trans y0
            have x1 := (hb.cell (World.block_lt_of_cell? wr _ y1)).trans y1
            have x2 := (hb.cell (World.block_lt_of_cell? wr _ y2)).trans y2
            have HL4 := Lib.hid ((RdI.own HT9.out.1).on hb)
            have HV4 := Lib.hid ((RdI.own HT9.out.2.1).on hb)
            have S4 := Lib.hid ((N1.out.more NB.out.size).on hb)
            have B4 := Lib.hid (below_on NB.out hb)
            clear hb y0 y1 y2 HT9 NB N1 HCO HBW
            go_wp2_with fail
            refine (HSO.out _ _ _ S4.out HV4.out).mono ?_
            rintro e w5 ⟨A6, c6, rfl, ho, hb⟩
            have y0 := (hb.cell (World.block_lt_of_cell? w4 _ x0)).trans x0
            have y1 := (hb.cell (World.block_lt_of_cell? w4 _ x1)).trans x1
            have y2 := (hb.cell (World.block_lt_of_cell? w4 _ x2)).trans x2
            have HL5 := Lib.hid (HL4.out.on hb)
            have HO5 := Lib.hid (RdI.own ho)
            have B5 := Lib.hid (below_on B4.out hb)
            clear hb ho x0 x1 x2 HL4 HV4 S4 B4 HSO
            go_wp2_with fail
            refine (HTC.out _).mono ?_
            rintro e w6 ⟨rfl, hb⟩
            have HL6 := Lib.hid (HL5.out.on hb)
            have HO6 := Lib.hid (HO5.out.on hb)
            have B6 := Lib.hid (below_on B5.out hb)
            obtain ⟨N, hN⟩ : ∃ N, N = (louds P).length := ⟨_, rfl⟩
            rw [← hN] at HO6 ⊢
            have hNb : N ≤ 100000000000000 := by rw [hN, louds_len, HPL.out]; omega
            obtain ⟨W7, hW7⟩ : ∃ W7, W7 = w6.alloc (.cells #[.int .i64 ts, .int .i64 te, .int .i64 (F - C)] 51) := ⟨_, rfl⟩
            have HB7 : Hid (Below w6.heap.size w6 W7) := Lib.hid (by rw [hW7]; exact below_alloc0 _ _)
            have q2 : W7.cell? ⟨w6.heap.size, 2, none⟩ = some (.int .i64 (F - C)) := by rw [hW7]; simp
            have hq : w6.heap.size < W7.heap.size := by rw [hW7]; simp
            have HIN := Lib.hid (ints_any A6 A11 N c6 k k11 (louds P) (louds P) W7 _ _ (HO6.out.on HB7.out) (HL6.out.on HB7.out) (Nat.le_refl _) (Nat.le_refl _) hNb)
            rw [sameI_true.2 rfl] at HIN
            have HW7 := Lib.hid hW7
            have B7 := Lib.hid (below_on B6.out HB7.out)
            clear hb hN hW7 y0 y1 y2 HL5 HO5 B5 HTC
            have k1 : IntKind.i64.wrap (F - C) = F - C := IntWalk.i64_in _ (by omega)
            go_wp2_with fail
            rw [← HW7.out]
            refine HIN.out.mono ?_
            rintro e w8 ⟨rfl, hb⟩
            have q3 := (hb.cell (p := ⟨w6.heap.size, 2, none⟩) hq).trans q2
            have B8 := Lib.hid (below_on B7.out hb)
            clear hb q2
            go_wp2_with fail
            go_ret
            exact ⟨ret_true (by simp), B8.out⟩
      · rw [gotP_ne hE] at HEN
        obtain ⟨E, hEE⟩ : ∃ E, E = Ph.encErr l s F := ⟨_, rfl⟩
        rw [← hEE] at HEN hE
        rw [show (ToldP E ([] : List Ph.Part)) = ToldP E [] from rfl] at HEN
        clear hEE
        go_wp2_with fail
        refine (HEN.out _ L0.out L1.out LB.out.size).mono ?_
        rintro e w3 ⟨A3, n3, c3, rfl, ho, hb⟩
        have MB := Lib.hid (below_on LB.out hb)
        rw [errV_ne hE]
        clear ho hb
        go_wp2_with fail
        go_ret
        exact ⟨rfl, MB.out⟩
  · have HMA := Lib.hid fun W => tmay_no ts te th W ht
    unfold tankV at HMA
    rw [errV_ne (by omega)] at HMA
    clear ht
    go_wp2_with fail
    refine (HMA.out _).mono ?_
    rintro e w2 ⟨rfl, hb⟩
    have LB := Lib.hid (below_on KB.out hb)
    clear hb
    go_wp2_with fail
    go_ret
    exact ⟨rfl, LB.out⟩
end Go.Proofs.Ytapjnfhbjmeniaa
