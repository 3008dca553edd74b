/- The walk of the law FrameRight. -/
import Derived.Test.YtoejhfkaomlknaaDoorTold
import Derived.Test.YtoejhfkaomlknaaDoorSilent
import Derived.Test.YtoejhfkaomlknaaDoorFrameC
import Derived.Test.YtoejhfkaomlknaaDoorLouds
import Derived.Test.YtoejhfkaomlknaaDoorOpen
import Derived.Deep.DeepCutAuto
import Derived.Deep.CutBlock
import Derived.Deep.Cut
namespace Go.Proofs.YtoejhfkaomlknaaDoor
open Go.RowKit

theorem fact_err : Ph.encErr [8, 8] [2] 10 = 0 := by decide +kernel
theorem fact_enc : Ph.encoded [8, 8] [2] 10 = [⟨13, [8, 0]⟩] := by kernel_rfl
theorem loud_most {m : Int} : ∀ {l : List Int}, (∀ x ∈ l, Ph.far x ≤ m) → Ph.loud l ≤ l.length * m
  | [], _ => by simp [Ph.loud]
  | x :: l, h => by
    have h1 := loud_most (l := l) fun y hy => h y (by simp [hy])
    have h2 := h x (by simp)
    simp only [Ph.loud, List.length_cons]
    rw [Int.natCast_add, Int.add_mul]
    simp
    omega
set_option maxHeartbeats 8000000 in
set_option maxRecDepth 1000000 in
theorem frameRight_walk (w : World) (A0 : Option Addr) (n0 c0 : Nat) (l : List Int) (h0 : RdI w w.heap.size A0 n0 l) (hb0 : n0 ≤ c0 ∧ c0 ≤ 17592186044415) (_ : ∀ x ∈ l, Is64 x) (A1 : Option Addr) (n1 c1 : Nat) (s : List Int) (h1 : RdI w w.heap.size A1 n1 s) (hb1 : n1 ≤ c1 ∧ c1 ≤ 17592186044415) (_ : ∀ x ∈ s, Is64 x) (bits : Int) (hg : Laid w) :
    Calls Tryd.prog 4 #[.slice A0 n0 c0, .slice A1 n1 c1, .int .i64 bits] w fun e w' => e = .returned (.bool true) ∧ Below w.heap.size w w' := by
  have HG := Lib.hid hg
  have hn0 : n0 ≤ 100000000000000 := by omega
  have hn1 : n1 ≤ 100000000000000 := by omega
  have H0 := Lib.hid h0
  have H1 := Lib.hid h1
  have HL0 := Lib.hid h0.len
  have HL1 := Lib.hid h1.len
  obtain ⟨W1, hW1⟩ : ∃ W1, W1 = w.alloc (.cells #[.int .i64 8, .int .i64 8] 3) := ⟨_, rfl⟩
  obtain ⟨W2, hW2⟩ : ∃ W2, W2 = W1.alloc (.cells #[.int .i64 2] 3) := ⟨_, rfl⟩
  have HB2 : Hid (Below w.heap.size w W2) := Lib.hid (by rw [hW2, hW1]; exact below_onAlloc (below_alloc0 _ _) _)
  have HRA : Hid (RdI W2 W2.heap.size (some ⟨w.heap.size, 0, none⟩) 2 [8, 8]) := Lib.hid (by
    have hx : RdI W1 W1.heap.size (some ⟨w.heap.size, 0, none⟩) 2 [8, 8] := by rw [hW1]; exact RdI.lit' w [8, 8] 3 #[.int .i64 8, .int .i64 8] rfl
    rw [hW2]; exact hx.onAlloc _)
  have hs1 : W1.heap.size = w.heap.size + 1 := by rw [hW1]; simp
  have HRB : Hid (RdI W2 W2.heap.size (some ⟨w.heap.size + 1, 0, none⟩) 1 [2]) := Lib.hid (by rw [hW2, ← hs1]; exact RdI.lit' W1 [2] 3 #[.int .i64 2] rfl)
  have hen := encode_any (some ⟨w.heap.size, 0, none⟩) 2 2 [8, 8] (some ⟨w.heap.size + 1, 0, none⟩) 1 1 [2] 10 W2 W2.heap.size HRA.out HRB.out (Nat.le_refl _) (by omega) (by omega)
  rw [fact_err, gotP_zero, fact_enc] at hen
  have HEN := Lib.hid hen
  have HWW := Lib.hid (hW2.trans (by rw [hW1]))
  clear h0 h1 hg hen hW1 hW2 hs1 HRA HRB
  go_enter Tryd.func4, Tryd.ntmps4
  go_wp2_with fail
  rw [← HWW.out]
  refine HEN.out.mono ?_
  rintro e w3 ⟨A3, n3, c3, rfl, ho, hb⟩
  have hn3 : n3 = 1 := ho.len.symm
  subst hn3
  obtain ⟨g3, rfl, hg3, hg3l⟩ := ho.form (by omega)
  obtain ⟨⟨p1, _⟩, ⟨A4, c4, p3, hov⟩, _⟩ := ho.cells (k := 0) (by omega)
  obtain ⟨A5, c5, hA5, hi5⟩ := hov
  have h45 : A4 = A5 ∧ c4 = c5 := by injection hA5 with a1 a2 a3; exact ⟨a1, a3⟩
  obtain ⟨rfl, rfl⟩ := h45
  have hrd5 := RdI.own hi5
  obtain ⟨b6, o6, hA6, _, q0⟩ := hrd5.at_ (k := 0) (by simp)
  subst hA6
  obtain ⟨b7, o7, hA7, _, q1⟩ := hrd5.at_ (k := 1) (by simp)
  obtain ⟨rfl, rfl⟩ : b6 = b7 ∧ o6 = o7 := by simpa using hA7
  have p1' : w3.cell? ⟨g3, 0, none⟩ = some (.int .i64 13) := p1
  have p3' : w3.cell? ⟨g3, 1, none⟩ = some (.slice (some ⟨b6, o6, none⟩) 2 c4) := p3
  have q0' : w3.cell? ⟨b6, o6, none⟩ = some (.int .i64 8) := q0
  have q1' : w3.cell? ⟨b6, o6 + 1, none⟩ = some (.int .i64 0) := q1
  have HB3 := Lib.hid (below_on HB2.out hb)
  clear ho hb p1 p3 hA5 hi5 hrd5 q0 q1 hA7 HEN HWW HB2
  rw [errV_zero]
  go_wp2_with fail
  have HEN := Lib.hid (encode_any A0 n0 c0 l A1 n1 c1 s bits w3 w.heap.size (H0.out.below HB3.out) (H1.out.below HB3.out) HB3.out.size hn0 hn1)
  clear p1' p3' q0' q1'
  by_cases hE : Ph.encErr l s bits = 0
  · have hri := Ph.enc_right hE
    have hfz := Ph.frameErr_zero.1 hri.1
    have hb8 := Ph.bandErr_zero.1 hfz.1
    have hel := Ph.enc_length (l := l) (sizes := s) (bits := bits)
    have helo := Ph.enc_loud hE
    have hsf := Ph.shared_facts hE
    have hme := Ph.enc_many hE
    have hfe := Ph.enc_facts hE
    have hde := Ph.enc_decErr hE
    rw [hE, gotP_zero] at HEN
    have hel1 : (Ph.encoded l s bits).length = n1 := by rw [hel, HL1.out]
    have hn8 : n1 ≤ 8 := by have := hb8.2.1; have := HL1.out; omega
    have hcb : Ph.cost s (louds (Ph.encoded l s bits)) ≤ bits := hri.2
    have hpo : Ph.pulsesOk (louds (Ph.encoded l s bits)) := by
      have h : louds (Ph.encoded l s bits) = _ := helo
      rw [h]; exact hsf.2.1
    have hce : costErr s (louds (Ph.encoded l s bits)) = 0 := costErr_zero.2 ⟨hfz.1, by rw [louds_len, hel1, HL1.out], hpo⟩
    have hp6 : ∀ p ∈ Ph.encoded l s bits, p.pulses.length ≤ 100000000000000 := fun p hp => by have := (Ph.pulsesErr_zero.1 (hfz.2.2.1 p hp).2).1; omega
    have hfr := hri.1
    have HPE : Hid (∀ p ∈ Ph.encoded l s bits, Ph.gainOk p.gain = true ∧ Ph.pulsesErr p.pulses = 0) := Lib.hid hfz.2.2.1
    have HQS : Hid ((∀ x ∈ l, x = 0) → (∀ p ∈ Ph.encoded l s bits, p.gain = 0) ∧ Ph.decErr (Ph.encoded l s bits) = 0 ∧ ∀ x ∈ Ph.lapI (Ph.decAll (Ph.encoded l s bits)), x = 0) := Lib.hid fun hz => by
      have hl : l = List.replicate n0 0 := by
        apply List.ext_getElem
        · rw [HL0.out, List.length_replicate]
        · intro i a b
          rw [List.getElem_replicate]
          exact hz _ (List.getElem_mem a)
      rw [hl] at hE ⊢
      have h1 := silent_parts hE
      have h2 := silent_told hE
      exact ⟨fun p hp => (h1 p hp).1, h2.1, fun x hx => by rw [h2.2] at hx; exact List.eq_of_mem_replicate hx⟩
    have hml : Ph.manyOf (Ph.encoded l s bits) = n0 := by have := hfe.2.1; have := HL0.out; omega
    have hev : n0 % 2 = 0 := by have := (Ph.lapErr_zero.1 hfe.2.2.1).2.1; rw [HL0.out] at this; exact this
    have h32 : n0 ≤ 32 := by have := (Ph.lapErr_zero.1 hfe.2.2.1).1; rw [HL0.out] at this; exact this
    have HCH := Lib.hid fun A c W (hW1 : RdP W W.heap.size A n1 (Ph.encoded l s bits)) (hW2 : RdI W W.heap.size A1 n1 s) => frcheck_any A n1 c (Ph.encoded l s bits) A1 n1 c1 s bits W W.heap.size hW1 hW2 (Nat.le_refl _) hn1 hn1 hp6
    rw [hfr, errV_zero] at HCH
    have HCO := Lib.hid fun A c W (hW1 : RdI W W.heap.size A1 n1 s) (hW2 : RdI W W.heap.size A n1 (louds (Ph.encoded l s bits))) => shcost_ok A1 n1 c1 s A n1 c (louds (Ph.encoded l s bits)) W W.heap.size W.heap.size hW1 hW2 (Nat.le_refl _) (Nat.le_refl _) hce
    have HDE := Lib.hid fun A c W (hW1 : RdP W W.heap.size A n1 (Ph.encoded l s bits)) => decode_any A n1 c (Ph.encoded l s bits) W W.heap.size hW1 (Nat.le_refl _) hn1 hp6
    obtain ⟨P, hP⟩ : ∃ P, P = Ph.encoded l s bits := ⟨_, rfl⟩
    rw [← hP] at HEN hel1 hcb HPE HQS HCH HCO HDE hde hml
    obtain ⟨C, hC⟩ : ∃ C, C = Ph.cost s (louds P) := ⟨_, rfl⟩
    rw [← hC] at hcb HCO
    have HPL := Lib.hid hel1
    have HDD := Lib.hid hde
    have HML := Lib.hid hml
    have hcb' : ¬ bits < C := by omega
    clear hE hri hfz hb8 hel helo hsf hme hfe hpo hce hp6 hfr hP hC hel1 hde hml
    go_wp2_with fail
    refine HEN.out.mono ?_
    rintro e w4 ⟨A4, n4, c4, rfl, ho, hb⟩
    have hn4 : n4 = n1 := by have := ho.len; have := HPL.out; omega
    subst hn4
    have HP4 := Lib.hid ho.rd
    have HB4 := Lib.hid (below_on HB3.out hb)
    have hnn : ((n4 : Int) != (n4 : Int)) = false := by simp
    rw [errV_zero]
    clear ho hb HEN HB3
    go_wp2_with fail
    refine (HCH.out _ _ _ HP4.out ((H1.out.below HB4.out).more HB4.out.size)).mono ?_
    rintro e w5 ⟨rfl, hb⟩
    have HP5 := Lib.hid (HP4.out.on hb)
    have HB5 := Lib.hid (below_on HB4.out hb)
    clear hb HP4 HB4 HCH
    go_wp2_with fail
    go_loopw [11, 12, 13, 14] (fun sk i _ _ wr => ∃ (k : Nat) (A11 : Option Addr) (k11 : Nat), k ≤ n4 ∧ i = .int .i64 k ∧ sk = .slice A11 k k11 ∧ Hid (wr.ownsRow w5.heap.size 3 1 (.slice A11 k k11) k (ivals ((louds P).take k))) ∧ Hid (Below w5.heap.size w5 wr)) (fun _ i _ _ _ => n4 - (intOf i).toNat)
    case atStart => exact ⟨0, none, 0, Nat.zero_le _, rfl, rfl, Lib.hid (own_nil _ _ _), Lib.hid (Below.refl _ _)⟩
    case round =>
      obtain ⟨k, A11, k11, hk, rfl, rfl, HK, HBW⟩ := hrel
      by_cases hlt : k < n4
      · obtain ⟨b5, o5, A5, c5, hA5, hb5, d1, d2, hcc, hrd⟩ := (HP5.out.below HBW.out).at_ hlt
        subst hA5
        have hpk := HPE.out _ (partD_mem (by rw [HPL.out]; exact hlt))
        have hlt1 := louds_take P k (by rw [HPL.out]; exact hlt)
        obtain ⟨p, hp⟩ : ∃ p, p = P.getD k ⟨0, []⟩ := ⟨_, rfl⟩
        rw [← hp] at d1 d2 hcc hrd hpk hlt1
        obtain ⟨g, v⟩ := p
        simp only at d1 d2 hcc hrd hpk hlt1
        have hvl : v.length ≤ 6 := (Ph.pulsesErr_zero.1 hpk.2).1
        have hrd2 := hrd.more HBW.out.size
        obtain ⟨q, hq⟩ : ∃ q, q = v.length := ⟨_, rfl⟩
        rw [← hq] at d2 hcc hrd2 hvl
        have hpc := pCheck_any A5 q c5 v wr wr.heap.size hrd2 (Nat.le_refl _) (by omega)
        rw [hpk.2, if_pos rfl, errV_zero] at hpc
        have HPC := Lib.hid hpc
        have HT1 := Lib.hid hlt1
        obtain ⟨X, hX⟩ : ∃ X, X = Ph.loud v := ⟨_, rfl⟩
        rw [← hX] at HPC HT1
        clear hp hpk hlt1 hrd hrd2 hq hpc hX
        go_wp2_with fail
        refine HPC.out.mono ?_
        rintro e w6 ⟨rfl, hb⟩
        have HK6 := Lib.hid (own_below' HK.out hb)
        have HB6 := Lib.hid (below_on HBW.out hb)
        clear hb d1 d2
        go_wp2_with (at_builtin; refine wpList_push _ (by rfl) _ _ (by rfl) w5 w5.heap.size A11 k k11 _ X HK6.out HB6.out HB6.out.size (by omega) (by rfl) (by rfl) ?_; intro gg cap w7 ho7 hb7)
        have HO7 := Lib.hid ho7
        have HB7 := Lib.hid hb7
        clear ho7 hb7
        go_wp2_with fail
        go_roundw
        case rel => exact ⟨k + 1, some ⟨gg, 0, none⟩, cap, by omega, by go_num, rfl, Lib.hid (by rw [HT1.out]; exact HO7.out), HB7⟩
        case measure => simp [intOf]; omega
      · obtain rfl : k = n4 := by omega
        have hk7 := HK.out
        rw [List.take_of_length_le (by rw [louds_len, HPL.out]; omega)] at hk7
        have HK7 := Lib.hid (RdI.own hk7)
        have HP7 := Lib.hid (HP5.out.on HBW.out)
        have HB7 := Lib.hid (below_on HB5.out HBW.out)
        clear hk7 HK HBW HP5 HB5
        go_wp2_with fail
        refine (HCO.out _ _ _ ((H1.out.below HB7.out).more HB7.out.size) HK7.out).mono ?_
        rintro e w8 ⟨rfl, hb⟩
        have HK8 := Lib.hid (HK7.out.on hb)
        have HP8 := Lib.hid (HP7.out.on hb)
        have HB8 := Lib.hid (below_on HB7.out hb)
        clear hb HK7 HP7 HB7 HCO
        go_wp2_with fail
        refine (HDE.out _ _ _ HP8.out).mono ?_
        rintro e w9 ⟨A9, c9, rfl, ho, hb⟩
        have HO9 := Lib.hid (RdI.own ho)
        have HK9 := Lib.hid (HK8.out.on hb)
        have HP9 := Lib.hid (HP8.out.on hb)
        have HB9 := Lib.hid (below_on HB8.out hb)
        clear ho hb HK8 HP8 HB8 HDE
        by_cases hD : Ph.decErr P = 0
        · have hdl : (Ph.decAll P).length = n0 := by rw [Ph.decAll_length]; exact HML.out
          have hol : (Ph.lapI (Ph.decAll P)).length = n0 := by rw [Ph.lapI_length]; omega
          have hfi := Ph.lapF_lapI (Ph.decAll P) (by rw [hdl]; exact hev)
          have ho9 := HO9.out
          rw [hD, got_zero] at ho9
          have hQO : Hid ((∀ x ∈ l, x = 0) → (∀ p ∈ P, p.gain = 0) ∧ ∀ x ∈ Ph.lapI (Ph.decAll P), x = 0) := Lib.hid fun h => ⟨(HQS.out h).1, (HQS.out h).2.2⟩
          rw [hD, got_zero, errV_zero]
          obtain ⟨O, hO⟩ : ∃ O, O = Ph.lapI (Ph.decAll P) := ⟨_, rfl⟩
          rw [← hO] at hol hfi ho9 hQO ⊢
          rw [hol] at ho9 ⊢
          have HOL := Lib.hid hol
          have HOR := Lib.hid ho9
          have HSC := Lib.hid fun W (hW : RdI W W.heap.size A9 n0 O) => check_any A9 n0 c9 O W W.heap.size hW (Nat.le_refl _) (by omega)
          have HFW := Lib.hid fun W (hW : RdI W W.heap.size A9 n0 O) => lapF_told A9 n0 c9 O W W.heap.size hW (Nat.le_refl _) (by omega)
          rw [hfi] at HFW
          have HDP := Lib.hid fun k hk => Ph.decAll_part P k hk
          have HDL := Lib.hid hdl
          obtain ⟨D, hDe⟩ : ∃ D, D = Ph.decAll P := ⟨_, rfl⟩
          rw [← hDe] at HFW HDP HDL
          have HFI : Hid (D = Ph.lapF O) := Lib.hid (by rw [hDe]; exact hfi.symm)
          clear hdl hol hfi ho9 HO9 HQS hO hDe HDD hD
          by_cases hS : Ph.soundErr O = 0
          · have hsz := Ph.soundErr_zero.1 hS
            have hle : Ph.lapErr O 1000 = 0 := Ph.lapErr_zero.2 ⟨hsz.1, by rw [HOL.out]; exact hev, hsz.2⟩
            have HIN : Hid (Ph.allIn D 2001 = true) := Lib.hid (by rw [HFI.out]; exact Ph.lapF_allIn hsz.2)
            rw [hS, errV_zero] at HSC
            rw [hle] at HFW
            clear hS hsz hle HFI
            go_wp2_with fail
            refine (HSC.out _ HOR.out).mono ?_
            rintro e w10 ⟨rfl, hb⟩
            have HO10 := Lib.hid (HOR.out.on hb)
            have HK10 := Lib.hid (HK9.out.on hb)
            have HP10 := Lib.hid (HP9.out.on hb)
            have HB10 := Lib.hid (below_on HB9.out hb)
            clear hb HOR HK9 HP9 HB9 HSC
            go_wp2_with fail
            refine (HFW.out _ HO10.out).mono ?_
            rintro e w11 ⟨X, rfl, hX, hb⟩
            obtain ⟨A18, c18, rfl, hc18, hr18⟩ := hX rfl
            have HT := Lib.hid hr18
            have HO11 := Lib.hid (HO10.out.on hb)
            have HK11 := Lib.hid (HK10.out.on hb)
            have HP11 := Lib.hid (HP10.out.on hb)
            have HB11 := Lib.hid (below_on HB10.out hb)
            have hn00 : ((n0 : Int) != (n0 : Int)) = false := by simp
            rw [errV_zero]
            clear hb hX hr18 HO10 HK10 HP10 HB10 HFW
            go_wp2_with fail
            go_loopw [19, 20, 21, 22, 23, 24, 25] (fun at_ si i _ _ _ _ wr => ∃ (j : Nat) (S : Bool), j ≤ k ∧ i = .int .i64 j ∧ at_ = .int .i64 (Ph.manyOf (P.take j) : Nat) ∧ si = .bool S ∧ Hid ((∀ x ∈ l, x = 0) → S = true) ∧ Hid (Below w11.heap.size w11 wr)) (fun _ _ i _ _ _ _ _ => k - (intOf i).toNat)
            case atStart => exact ⟨0, true, Nat.zero_le _, rfl, rfl, rfl, Lib.hid (fun _ => rfl), Lib.hid (Below.refl _ _)⟩
            case round =>
              obtain ⟨j, S, hj, rfl, rfl, rfl, HQ, HBW⟩ := hrel
              by_cases hlt : j < k
              · have hjl : j < P.length := by rw [HPL.out]; exact hlt
                obtain ⟨b5, o5, A5, c5, hA5, hb5, d1, d2, hcc, hrd⟩ := (HP11.out.below HBW.out).at_ hlt
                subst hA5
                obtain ⟨b6, o6, hA6, hb6, d6⟩ := (HK11.out.below HBW.out).at_ hlt
                subst hA6
                have hpk := HPE.out _ (partD_mem hjl)
                have hmt := many_take P j hjl
                have hdp := HDP.out j hjl
                have hm2 := decAll_le P (j + 1)
                rw [Ph.decAll_length, HML.out] at hm2
                have hlg := louds_get P j hjl
                rw [hlg] at d6
                have hPj : P[j] = P.getD j ⟨0, []⟩ := by rw [List.getD_eq_getElem?_getD, List.getElem?_eq_getElem hjl]; rfl
                rw [hPj] at hdp
                have hgz : (∀ x ∈ l, x = 0) → (P.getD j ⟨0, []⟩).gain = 0 := fun h => (hQO.out h).1 _ (partD_mem hjl)
                obtain ⟨p, hp⟩ : ∃ p, p = P.getD j ⟨0, []⟩ := ⟨_, rfl⟩
                rw [← hp] at d1 d2 d6 hcc hrd hpk hmt hdp hgz
                obtain ⟨g, v⟩ := p
                simp only at d1 d2 d6 hcc hrd hpk hmt hdp hgz
                have hvl : v.length ≤ 6 := (Ph.pulsesErr_zero.1 hpk.2).1
                have hvb := val_bd hpk.1
                have HGV := Lib.hid fun W => gv_ok g W hpk.1
                have hKn := Ph.loud_nonneg v
                have hnl := fun h => Ph.numbers_loud ⟨g, v⟩ h hvb.1
                have hns := fun h => Ph.numbers_silent ⟨g, v⟩ h
                simp only at hnl hns
                have hNlen : (Ph.numbers ⟨g, v⟩).length = v.length := by unfold Ph.numbers; simp
                obtain ⟨N, hN⟩ : ∃ N, N = Ph.numbers ⟨g, v⟩ := ⟨_, rfl⟩
                rw [← hN] at hdp hnl hns hNlen
                obtain ⟨M, hM⟩ : ∃ M, M = Ph.manyOf (P.take j) := ⟨_, rfl⟩
                rw [← hM] at hmt hdp ⊢
                obtain ⟨V, hV⟩ : ∃ V, V = Ph.val g := ⟨_, rfl⟩
                rw [← hV] at HGV hnl hvb
                obtain ⟨K, hK⟩ : ∃ K, K = Ph.loud v := ⟨_, rfl⟩
                rw [← hK] at d6 hKn hnl hns
                obtain ⟨Lv, hLv⟩ : ∃ q, q = v.length := ⟨_, rfl⟩
                rw [← hLv] at d2 hmt hdp hvl hNlen hnl
                have HMT := Lib.hid hmt
                have HGZ := Lib.hid hgz
                have HNL := Lib.hid hnl
                have HNS := Lib.hid hns
                have HNLEN := Lib.hid hNlen
                have HDPN := Lib.hid hdp
                have hMn : M + Lv ≤ n0 := by omega
                have hg5w : b5 < wr.heap.size := World.block_lt_of_cell? wr _ d1
                have hg6w : b6 < wr.heap.size := World.block_lt_of_cell? wr _ d6
                clear hpk hmt hdp hm2 hlg hPj hgz hp hrd hcc hnl hns hNlen hN hM hV hK hLv
                go_wp2_with fail
                refine (HGV.out _).mono ?_
                rintro e w12 ⟨rfl, nq, rfl⟩
                obtain ⟨W12, hW12⟩ : ∃ W12, W12 = wr.drewN nq := ⟨_, rfl⟩
                have e1 : W12.cell? ⟨b5, o5 + j * 2, none⟩ = some (.int .i64 g) := by rw [hW12]; exact d1
                have e2 : W12.cell? ⟨b5, o5 + j * 2 + 1, none⟩ = some (.slice A5 Lv c5) := by rw [hW12]; exact d2
                have e6 : W12.cell? ⟨b6, o6 + j, none⟩ = some (.int .i64 K) := by rw [hW12]; exact d6
                have HB12 : Hid (Below w11.heap.size w11 W12) := Lib.hid (by rw [hW12]; exact below_drewN' HBW.out _)
                rw [← hW12]
                clear hW12 d1 d2 d6 HGV HBW hg5w hg6w
                go_wp2_with fail
                rename World => wa
                go_loop [19, 24, 25] (fun at_ n i => ∃ q : Nat, q ≤ Lv ∧ i = .int .i64 q ∧ at_ = .int .i64 ((M + q : Nat) : Int) ∧ n = .int .i64 (Ph.loud (N.take q))) (fun _ _ i => Lv - (intOf i).toNat)
                case atStart => exact ⟨0, Nat.zero_le _, rfl, rfl, rfl⟩
                case round =>
                  obtain ⟨q, hq, rfl, rfl, rfl⟩ := hrel
                  by_cases hql : q < Lv
                  · have hMq : M + q < n0 := by omega
                    obtain ⟨b8, o8, hA8, hb8, d8⟩ := (HT.out.below HB12.out).at_ hMq
                    subst hA8
                    have hDN : D.getD (M + q) 0 = N.getD q 0 := by
                      have h := HDPN.out
                      rw [← h, List.getD_eq_getElem?_getD, List.getD_eq_getElem?_getD, List.getElem?_take, if_pos hql, List.getElem?_drop]
                    have hxb := Ph.allIn_getD HIN.out (by omega) (M + q)
                    have hts := Ph.take_snoc N q (by rw [HNLEN.out]; exact hql)
                    have hlb := Ph.loud_take_le N q
                    have hlB : Ph.loud (N.take q) ≤ 2001 * 6 := by
                      have h1 := loud_most (m := 2001) (l := N) fun x hx => by
                        have h2 := HDPN.out
                        rw [← h2] at hx
                        have := Ph.allIn_iff.1 HIN.out x (List.mem_of_mem_drop (List.mem_of_mem_take hx))
                        exact Ph.far_le.2 (by omega)
                      rw [HNLEN.out] at h1
                      omega
                    have hl0 := Ph.loud_nonneg (N.take q)
                    rw [hDN] at d8 hxb
                    obtain ⟨x, hx⟩ : ∃ x, x = N.getD q 0 := ⟨_, rfl⟩
                    rw [← hx] at d8 hxb hts
                    have hfx := Ph.far_nonneg x
                    have hfx2 : Ph.far x ≤ 2001 := Ph.far_le.2 (by omega)
                    have HFA := Lib.hid fun W => rfar_any x W (by omega)
                    have hln : Ph.loud (N.take (q + 1)) = Ph.loud (N.take q) + Ph.far x := by rw [hts, Ph.loud_snoc]
                    have HLN := Lib.hid hln
                    obtain ⟨Z, hZ⟩ : ∃ Z, Z = Ph.loud (N.take q) := ⟨_, rfl⟩
                    rw [← hZ] at hlB hl0 HLN ⊢
                    obtain ⟨F, hF⟩ : ∃ F, F = Ph.far x := ⟨_, rfl⟩
                    rw [← hF] at hfx hfx2 HFA HLN
                    obtain ⟨I, hI⟩ : ∃ I, I = M + q := ⟨_, rfl⟩
                    rw [← hI] at d8 hMq ⊢
                    have HI := Lib.hid hI
                    have hIi : (I : Int) < (n0 : Int) := by omega
                    have hqi : (q : Int) < (Lv : Int) := by omega
                    have k1 : IntKind.i64.wrap (Z + F) = Z + F := IntWalk.i64_in _ (by omega)
                    clear hDN hts hlb hx hln hZ hF hI
                    go_wp2_with fail
                    refine (HFA.out _).mono ?_
                    rintro e w' ⟨rfl, rfl⟩
                    go_wp2_with fail
                    go_round
                    case rel => exact ⟨q + 1, by omega, by go_num, by rw [show M + (q + 1) = I + 1 by have := HI.out; omega]; go_num, by rw [HLN.out]⟩
                    case measure => simp [intOf]; omega
                  · obtain rfl : q = Lv := by omega
                    have hNq : N.take q = N := List.take_of_length_le (by rw [HNLEN.out]; omega)
                    rw [hNq]
                    have hl0 := Ph.loud_nonneg N
                    obtain ⟨Z, hZ⟩ : ∃ Z, Z = Ph.loud N := ⟨_, rfl⟩
                    have hnl := HNL.out
                    have hns := HNS.out
                    rw [← hZ] at hnl hns hl0 ⊢
                    have hMT : M + q = Ph.manyOf (P.take (j + 1)) := HMT.out.symm
                    have HMM := Lib.hid hMT
                    have hv1 : ¬ V < Z := by
                      by_cases h : 0 < K
                      · have := (hnl h).1; omega
                      · have := hns (by omega); omega
                    have k1 : IntKind.i64.wrap (V - (q : Int)) = V - (q : Int) := IntWalk.i64_in _ (by omega)
                    have k2 : IntKind.i64.wrap (V - (q : Int) + 1) = V - (q : Int) + 1 := IntWalk.i64_in _ (by omega)
                    clear hNq hZ hMT
                    have hcs : (¬ 0 < K ∧ (K == 0) = true ∧ (Z != 0) = false) ∨ (0 < K ∧ (K == 0) = false ∧ ¬ Z < V - (q : Int) + 1) := by
                      by_cases h : 0 < K
                      · right
                        have := (hnl h).2
                        exact ⟨h, by simp; omega, by omega⟩
                      · left
                        have := hns (by omega)
                        exact ⟨h, by simp; omega, by simp [this]⟩
                    have HCS := Lib.hid hcs
                    clear hnl hns hcs HNL HNS hvb hKn hl0
                    rcases HCS.out with ⟨q1, q2, q3⟩ | ⟨q1, q2, q3⟩
                    all_goals
                      cases S with
                      | true =>
                        have HQ2 : Hid ((∀ x ∈ l, x = 0) → (g == 0) = true) := Lib.hid fun h => by simp [HGZ.out h]
                        clear HQ
                        go_wp2_with fail
                        go_roundw
                        case rel => exact ⟨j + 1, (g == 0), by omega, by go_num, by rw [← HMM.out], rfl, HQ2, HB12⟩
                        case measure => simp [intOf]; omega
                      | false =>
                        have HQ2 : Hid ((∀ x ∈ l, x = 0) → false = true) := HQ
                        clear HQ
                        go_wp2_with fail
                        go_roundw
                        case rel => exact ⟨j + 1, false, by omega, by go_num, by rw [← HMM.out], rfl, HQ2, HB12⟩
                        case measure => simp [intOf]; omega
              · obtain rfl : j = k := by omega
                have HO12 := Lib.hid (HO11.out.below HBW.out)
                have H012 := Lib.hid ((H0.out.below HB11.out).below (HBW.out.mono HB11.out.size))
                have HB12 := Lib.hid (below_on HB11.out HBW.out)
                clear HDP HT HK11 HP11 HBW hlt
                go_wp2_with fail
                rename World => wz
                go_loop [20, 26] (fun si i => ∃ (q : Nat) (S : Bool), q ≤ n0 ∧ i = .int .i64 q ∧ si = .bool S ∧ Hid ((∀ x ∈ l, x = 0) → S = true)) (fun _ i => n0 - (intOf i).toNat)
                case atStart => exact ⟨0, S, Nat.zero_le _, rfl, rfl, HQ⟩
                case round =>
                  clear HQ
                  obtain ⟨q, S, hq, rfl, rfl, HQ⟩ := hrel
                  by_cases hql : q < n0
                  · obtain ⟨b8, o8, hA8, hb8, d8⟩ := HO12.out.at_ hql
                    subst hA8
                    have hoz : (∀ x ∈ l, x = 0) → O.getD q 0 = 0 := fun h => (hQO.out h).2 _ (Ph.getD_mem (by rw [HOL.out]; exact hql))
                    obtain ⟨x, hx⟩ : ∃ x, x = O.getD q 0 := ⟨_, rfl⟩
                    rw [← hx] at d8 hoz
                    have hqi : (q : Int) < (n0 : Int) := by omega
                    have HOZ := Lib.hid hoz
                    clear hx hoz
                    cases S with
                    | true =>
                      have HQ2 : Hid ((∀ x ∈ l, x = 0) → (x == 0) = true) := Lib.hid fun h => by simp [HOZ.out h]
                      clear HQ
                      go_wp2_with fail
                      go_round
                      case rel => exact ⟨q + 1, (x == 0), by omega, by go_num, rfl, HQ2⟩
                      case measure => simp [intOf]; omega
                    | false =>
                      go_wp2_with fail
                      go_round
                      case rel => exact ⟨q + 1, false, by omega, by go_num, rfl, HQ⟩
                      case measure => simp [intOf]; omega
                  · obtain rfl : q = n0 := by omega
                    go_wp2_with fail
                    go_loop [27, 28] (fun qi i => ∃ (u : Nat) (Z : Bool), u ≤ q ∧ i = .int .i64 u ∧ qi = .bool Z ∧ Hid (Z = true → ∀ j, j < u → l.getD j 0 = 0)) (fun _ i => q - (intOf i).toNat)
                    case atStart => exact ⟨0, true, Nat.zero_le _, rfl, rfl, Lib.hid (fun _ j hj => absurd hj (by omega))⟩
                    case round =>
                      obtain ⟨u, Z, hu, rfl, rfl, HZ⟩ := hrel
                      by_cases hul : u < q
                      · obtain ⟨b9, o9, hA0, hb9, d9⟩ := H012.out.at_ hul
                        subst hA0
                        obtain ⟨x, hx⟩ : ∃ x, x = l.getD u 0 := ⟨_, rfl⟩
                        rw [← hx] at d9
                        have HX := Lib.hid hx
                        have hui : (u : Int) < (q : Int) := by omega
                        clear hx
                        cases Z with
                        | true =>
                          have HZ2 : Hid ((x == 0) = true → ∀ j, j < u + 1 → l.getD j 0 = 0) := Lib.hid fun h j hj => by
                            by_cases hju : j < u
                            · exact HZ.out rfl j hju
                            · obtain rfl : j = u := by omega
                              rw [← HX.out]; simpa using h
                          clear HZ
                          go_wp2_with fail
                          go_round
                          case rel => exact ⟨u + 1, (x == 0), by omega, by go_num, rfl, HZ2⟩
                          case measure => simp [intOf]; omega
                        | false =>
                          go_wp2_with fail
                          go_round
                          case rel => exact ⟨u + 1, false, by omega, by go_num, rfl, Lib.hid (fun h => by cases h)⟩
                          case measure => simp [intOf]; omega
                      · obtain rfl : u = q := by omega
                        cases Z with
                        | true =>
                          have hS : S = true := HQ.out fun x hx => by
                            obtain ⟨i, hi, rfl⟩ := List.mem_iff_getElem.1 hx
                            have := HZ.out rfl i (by rw [← HL0.out]; exact hi)
                            rw [List.getD_eq_getElem?_getD, List.getElem?_eq_getElem hi] at this
                            exact this
                          subst hS
                          go_wp2_with fail
                          go_ret
                          exact ⟨rfl, HB12.out⟩
                        | false =>
                          go_wp2_with fail
                          go_ret
                          exact ⟨rfl, HB12.out⟩
          · obtain ⟨E, hE⟩ : ∃ E, E = Ph.soundErr O := ⟨_, rfl⟩
            rw [← hE] at HSC hS
            clear hE HFW
            go_wp2_with fail
            refine (HSC.out _ HOR.out).mono ?_
            rintro e w10 ⟨rfl, hb⟩
            have HB10 := Lib.hid (below_on HB9.out hb)
            rw [errV_ne hS]
            clear hb
            go_wp2_with fail
            go_ret
            exact ⟨rfl, HB10.out⟩
        · have hD1 : Ph.decErr P = 1 := by have := HDD.out; omega
          rw [hD1, errV_ne (by omega)]
          go_wp2_with fail
          refine (herr_yes 1 _ (HG.out.below HB9.out) (by omega)).mono ?_
          rintro e w10 ⟨rfl, hb⟩
          have HB10 := Lib.hid (below_on HB9.out hb)
          clear hb
          go_wp2_with fail
          go_ret
          exact ⟨rfl, HB10.out⟩
  · obtain ⟨E, hEE⟩ : ∃ E, E = Ph.encErr l s bits := ⟨_, rfl⟩
    rw [← hEE] at HEN hE
    rw [gotP_ne hE] at HEN
    clear hEE
    go_wp2_with fail
    refine HEN.out.mono ?_
    rintro e w4 ⟨A4, n4, c4, rfl, ho, hb⟩
    have HB4 := Lib.hid (below_on HB3.out hb)
    rw [errV_ne hE]
    clear ho hb
    go_wp2_with fail
    go_ret
    exact ⟨rfl, HB4.out⟩
end Go.Proofs.YtoejhfkaomlknaaDoor
