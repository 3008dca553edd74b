/- Walks of the reference (hornref2): the answer to a line. -/
import Derived.Test.YtjdpgakkphdjlaaGreatDoorRefLnr
import Derived.Test.YtjdpgakkphdjlaaGreatDoorRound
namespace Go.Proofs.YtjdpgakkphdjlaaGreatDoor
open Go.RowKit

set_option maxHeartbeats 8000000 in
set_option maxRecDepth 1000000 in
theorem rline_any (t : Ph.Tank) (s : ByteArray) (w : World) (ht : TankOk t) (hs : s.size ≤ 3000) :
    Calls Tryz.prog 8 #[.agg #[.int .i64 t.size, .int .i64 t.each, .int .i64 t.has], .string s] w (LineR t s.data.toList w) := by
  have HSP := Lib.hid fun W => rcut_any s 32 W (by omega)
  have hcl := Pr.cutL_len 32 s.data.toList
  have hss : s.data.toList.length = s.size := (Lib.size_eq s).symm
  have hcn := Pr.cutL_ne 32 s.data.toList
  obtain ⟨l, hl⟩ : ∃ l, l = Pr.cutL 32 s.data.toList := ⟨_, rfl⟩
  rw [← hl] at HSP hcl hcn
  have hl0 : 0 < l.length := List.length_pos_iff.2 hcn
  have HLN : Hid (l.length ≤ 3001) := Lib.hid (by omega)
  have HTK := Lib.hid ht
  have HNU := Lib.hid fun (x : ByteArray) W (hx : x.size ≤ 100000) => rnumber_any x W (by omega)
  clear hcl hcn hss ht
  go_enter Tryz.func8, Tryz.ntmps8
  go_wp2_with fail
  refine (HSP.out _).mono ?_
  rintro e w1 ⟨A, c, ws, rfl, hr, hws, hlc, hb1⟩
  have hLn : LnW w t w1 := by
    refine LnW.below (W := (w.alloc (.cells #[.int .i64 t.size, .int .i64 t.each, .int .i64 t.has] 26)).alloc (.cells #[.int .i64 0, .int .i64 0, .int .i64 0] 26)) ⟨?_, ?_, (below_alloc0 w _).alloc (by simp) _⟩ hb1
    · rw [Below.heap_alloc _ _ _ (by simp)]
      exact heap_alloc_new w _
    · have := heap_alloc_new (w.alloc (.cells #[.int .i64 t.size, .int .i64 t.each, .int .i64 t.has] 26)) (.cells #[.int .i64 0, .int .i64 0, .int .i64 0] 26)
      rwa [World.size_alloc] at this
  have HLW := Lib.hid hLn
  have HR1 := Lib.hid hr
  obtain ⟨b8, o8, rfl, hb8, d8⟩ := hr.at0 hl0
  obtain ⟨s0, hs0⟩ : ∃ s0, s0 = ws.getD 0 ByteArray.empty := ⟨_, rfl⟩
  rw [← hs0] at d8
  have HMEM : Hid (∀ y ∈ ws, y.size ≤ 100000) := Lib.hid fun y hy => by
    have h1 : y.data.toList ∈ l := by rw [← hws]; exact List.mem_map.2 ⟨y, hy, rfl⟩
    rw [hl] at h1
    have h2 := cutL_mem 32 _ h1
    rw [← Lib.size_eq, ← Lib.size_eq] at h2
    omega
  have HHD : Hid (l.headD [] = s0.data.toList) := Lib.hid (by rw [hs0, ← hws]; cases ws <;> rfl)
  have HLE : Hid (s0.data.toList = (Pr.cutL 32 s.data.toList).headD [] ∧ l = Pr.cutL 32 s.data.toList) := Lib.hid ⟨by rw [← hl]; exact HHD.out.symm, hl⟩
  have hsz : s0 = strL s0.data.toList := (strL_data s0).symm
  obtain ⟨w0, hw0⟩ : ∃ w0, w0 = s0.data.toList := ⟨_, rfl⟩
  rw [← hw0] at hsz HLE
  obtain ⟨N, hN⟩ : ∃ N, N = l.length := ⟨_, rfl⟩
  rw [← hN] at hl0 hlc HR1 ⊢
  have hl0' : (0 : Int) < (N : Int) := by omega
  have HWS := Lib.hid hws
  have HLC := Lib.hid hlc
  have HN := Lib.hid hN
  have HSZ := Lib.hid hsz
  obtain ⟨tm, htm⟩ : ∃ x, x = (wantI w0).1 := ⟨_, rfl⟩
  obtain ⟨tmo, htmo⟩ : ∃ x, x = (wantI w0).2.1 := ⟨_, rfl⟩
  obtain ⟨tb, htb⟩ : ∃ x, x = (wantI w0).2.2 := ⟨_, rfl⟩
  have HWI : Hid (tm = (wantI w0).1 ∧ tmo = (wantI w0).2.1 ∧ tb = (wantI w0).2.2) := Lib.hid ⟨htm, htmo, htb⟩
  have HD8 := Lib.hid d8
  have HB8 := Lib.hid hb8
  clear hr hb1 HSP hs0 hN hws hlc hLn hl hsz hw0 htm htmo htb
  go_upto_block 0 with (fail)
  go_cut [7, 8, 9] (fun s7 s8 s9 wx => s7 = .int .i64 tm ∧ s8 = .bool tmo ∧ s9 = .int .i64 (tb : Nat) ∧ wx = w1)
  case first =>
    as_aux_lemma =>
      have hsz := HSZ.out
      have hwi := HWI.out
      by_cases h1 : w0 = Pr.wCount
      · rw [h1] at hsz hwi
        obtain ⟨rfl, rfl, rfl⟩ : tm = 2 ∧ tmo = false ∧ tb = 99 := hwi
        have e1 := word_eq (m := [99, 111, 117, 110, 116]) hsz (by decide)
        clear hsz HSZ HWI HLE h1
        go_wp2_with fail
        go_meet
        case rel => exact ⟨rfl, rfl, rfl, rfl⟩
      · by_cases h2 : w0 = Pr.wRank
        · rw [h2] at hsz hwi
          obtain ⟨rfl, rfl, rfl⟩ : tm = 1 ∧ tmo = true ∧ tb = 0 := hwi
          have e1 := word_ne (m := [99, 111, 117, 110, 116]) hsz (by decide)
          have e2 := word_eq (m := [114, 97, 110, 107]) hsz (by decide)
          clear hsz HSZ HWI HLE h1 h2
          go_wp2_with fail
          go_meet
          case rel => exact ⟨rfl, rfl, rfl, rfl⟩
        · by_cases h3 : w0 = Pr.wRow
          · rw [h3] at hsz hwi
            obtain ⟨rfl, rfl, rfl⟩ : tm = 3 ∧ tmo = false ∧ tb = 99 := hwi
            have e1 := word_ne (m := [99, 111, 117, 110, 116]) hsz (by decide)
            have e2 := word_ne (m := [114, 97, 110, 107]) hsz (by decide)
            have e3 := word_eq (m := [114, 111, 119]) hsz (by decide)
            clear hsz HSZ HWI HLE h1 h2 h3
            go_wp2_with fail
            go_meet
            case rel => exact ⟨rfl, rfl, rfl, rfl⟩
          · by_cases h4 : w0 = Pr.wNear
            · rw [h4] at hsz hwi
              obtain ⟨rfl, rfl, rfl⟩ : tm = 2 ∧ tmo = true ∧ tb = 1 := hwi
              have e1 := word_ne (m := [99, 111, 117, 110, 116]) hsz (by decide)
              have e2 := word_ne (m := [114, 97, 110, 107]) hsz (by decide)
              have e3 := word_ne (m := [114, 111, 119]) hsz (by decide)
              have e4 := word_eq (m := [110, 101, 97, 114]) hsz (by decide)
              clear hsz HSZ HWI HLE h1 h2 h3 h4
              go_wp2_with fail
              go_meet
              case rel => exact ⟨rfl, rfl, rfl, rfl⟩
            · by_cases h5 : w0 = Pr.wGain
              · rw [h5] at hsz hwi
                obtain ⟨rfl, rfl, rfl⟩ : tm = 1 ∧ tmo = false ∧ tb = 99 := hwi
                have e1 := word_ne (m := [99, 111, 117, 110, 116]) hsz (by decide)
                have e2 := word_ne (m := [114, 97, 110, 107]) hsz (by decide)
                have e3 := word_ne (m := [114, 111, 119]) hsz (by decide)
                have e4 := word_ne (m := [110, 101, 97, 114]) hsz (by decide)
                have e5 := word_eq (m := [103, 97, 105, 110]) hsz (by decide)
                clear hsz HSZ HWI HLE h1 h2 h3 h4 h5
                go_wp2_with fail
                go_meet
                case rel => exact ⟨rfl, rfl, rfl, rfl⟩
              · by_cases h6 : w0 = Pr.wTurn
                · rw [h6] at hsz hwi
                  obtain ⟨rfl, rfl, rfl⟩ : tm = 1 ∧ tmo = false ∧ tb = 99 := hwi
                  have e1 := word_ne (m := [99, 111, 117, 110, 116]) hsz (by decide)
                  have e2 := word_ne (m := [114, 97, 110, 107]) hsz (by decide)
                  have e3 := word_ne (m := [114, 111, 119]) hsz (by decide)
                  have e4 := word_ne (m := [110, 101, 97, 114]) hsz (by decide)
                  have e5 := word_ne (m := [103, 97, 105, 110]) hsz (by decide)
                  have e6 := word_eq (m := [116, 117, 114, 110]) hsz (by decide)
                  clear hsz HSZ HWI HLE h1 h2 h3 h4 h5 h6
                  go_wp2_with fail
                  go_meet
                  case rel => exact ⟨rfl, rfl, rfl, rfl⟩
                · by_cases h7 : w0 = Pr.wMay
                  · rw [h7] at hsz hwi
                    obtain ⟨rfl, rfl, rfl⟩ : tm = 0 ∧ tmo = false ∧ tb = 99 := hwi
                    have e1 := word_ne (m := [99, 111, 117, 110, 116]) hsz (by decide)
                    have e2 := word_ne (m := [114, 97, 110, 107]) hsz (by decide)
                    have e3 := word_ne (m := [114, 111, 119]) hsz (by decide)
                    have e4 := word_ne (m := [110, 101, 97, 114]) hsz (by decide)
                    have e5 := word_ne (m := [103, 97, 105, 110]) hsz (by decide)
                    have e6 := word_ne (m := [116, 117, 114, 110]) hsz (by decide)
                    have e7 := word_eq (m := [109, 97, 121]) hsz (by decide)
                    clear hsz HSZ HWI HLE h1 h2 h3 h4 h5 h6 h7
                    go_wp2_with fail
                    go_meet
                    case rel => exact ⟨rfl, rfl, rfl, rfl⟩
                  · obtain ⟨rfl, rfl, rfl⟩ : tm = -1 ∧ tmo = false ∧ tb = 99 := by
                      have hn : Pr.wantOf w0 = none := by unfold Pr.wantOf; rw [if_neg h1, if_neg h2, if_neg h3, if_neg h4, if_neg h5, if_neg h6, if_neg h7]
                      unfold wantI at hwi
                      rw [hn] at hwi
                      exact hwi
                    have e1 := word_ne (m := [99, 111, 117, 110, 116]) hsz (beq_false_of_ne h1)
                    have e2 := word_ne (m := [114, 97, 110, 107]) hsz (beq_false_of_ne h2)
                    have e3 := word_ne (m := [114, 111, 119]) hsz (beq_false_of_ne h3)
                    have e4 := word_ne (m := [110, 101, 97, 114]) hsz (beq_false_of_ne h4)
                    have e5 := word_ne (m := [103, 97, 105, 110]) hsz (beq_false_of_ne h5)
                    have e6 := word_ne (m := [116, 117, 114, 110]) hsz (beq_false_of_ne h6)
                    have e7 := word_ne (m := [109, 97, 121]) hsz (beq_false_of_ne h7)
                    clear hwi hsz HSZ HWI HLE h1 h2 h3 h4 h5 h6 h7
                    go_wp2_with fail
                    go_meet
                    case rel => exact ⟨rfl, rfl, rfl, rfl⟩
  case rest =>
    obtain ⟨rfl, rfl, rfl, rfl⟩ := hcut
    rename World => w1
    have HTBD : Hid (tb ≤ 99 ∧ tm ≤ 3) := Lib.hid (by
      rw [HWI.out.1, HWI.out.2.2]
      exact wantI_bd w0)
    go_upto_block 1 with (fail)
    go_cut [10, 11, 12, 13, 14, 15] (fun s10 _ _ _ _ _ wx => ∃ A n c ns, s10 = .slice A n c ∧ Hid (Pr.argsL tb 0 l.tail = some ns ∧ ns.length = n) ∧ Hid (wx.ownsRow w1.heap.size 3 1 (.slice A n c) n (ivals ns)) ∧ Hid (Below w1.heap.size w1 wx))
    case first =>
      as_aux_lemma =>
        have htl : l.tail.length = N - 1 := by rw [List.length_tail, ← HN.out]
        have HTL := Lib.hid htl
        have HB0 : Hid (∀ (j : Nat), Pr.argsL tb 0 (l.tail.take j) = none → Pr.lineL t s.data.toList = (Pr.badW, t)) := Lib.hid fun j h =>
          line_bad1 HLE.out.1 (.inr (by rw [← HLE.out.2, ← HWI.out.2.2]; exact Pr.args_fail tb l.tail h))
        clear htl HWI HLE HSZ HTBD HD8 HB8 HHD HTK
        go_wp2_with fail
        go_loopw [10, 11, 12, 13, 14, 15] (fun out i _ _ _ _ wr => ∃ (j c' : Nat) (A' : Option Addr) (ns : List Int), j + 1 ≤ N ∧ i = .int .i64 ((j + 1 : Nat) : Int) ∧ out = .slice A' j c' ∧ Hid (Pr.argsL tb 0 (l.tail.take j) = some ns ∧ ns.length = j) ∧ Hid (wr.ownsRow w1.heap.size 3 1 (.slice A' j c') j (ivals ns)) ∧ Hid (Below w1.heap.size w1 wr)) (fun _ i _ _ _ _ _ => N - (intOf i).toNat)
        case atStart => exact ⟨0, 0, none, [], hl0, rfl, rfl, Lib.hid ⟨by simp [Pr.argsL], rfl⟩, Lib.hid (own_nil _ _ _), Lib.hid (Below.refl _ _)⟩
        case round =>
          obtain ⟨j, c', A', ns, hj, rfl, rfl, HAR, HO, HB⟩ := hrel
          rename World => wr
          obtain ⟨k, hk⟩ : ∃ k, k = j + 1 := ⟨_, rfl⟩
          have hki : ((j + 1 : Nat) : Int) = (k : Int) := by omega
          rw [hki]
          have HKJ := Lib.hid hk
          by_cases hlt : k < N
          · have hlt' : (k : Int) < (N : Int) := by omega
            have hk0 : (0 : Int) ≤ (k : Int) := by omega
            obtain ⟨b9, o9, hA9, hb9, d9⟩ := (HR1.out.below HB.out).at_ hlt
            obtain ⟨rfl, rfl⟩ : b8 = b9 ∧ o8 = o9 := by simpa using hA9
            have hjl : j < l.tail.length := by rw [HTL.out]; omega
            have hwl := HR1.out.len
            have hqm : ws.getD k ByteArray.empty ∈ ws := by rw [List.getD_eq_getElem?_getD, List.getElem?_eq_getElem (by omega)]; exact List.getElem_mem (by omega)
            have hqz := HMEM.out _ hqm
            have hqt : (ws.getD k ByteArray.empty).data.toList = l.tail.getD j [] := by
              rw [← HWS.out, hk]
              unfold bytesL
              rw [List.getD_eq_getElem?_getD, List.getD_eq_getElem?_getD, List.getElem?_tail, List.getElem?_map, List.getElem?_eq_getElem (by omega : j + 1 < ws.length)]
              rfl
            obtain ⟨q, hq⟩ : ∃ q, q = ws.getD k ByteArray.empty := ⟨_, rfl⟩
            rw [← hq] at d9 hqz hqt
            have hstep := Pr.args_at tb l.tail HAR.out.1 hjl
            obtain ⟨x, hx⟩ : ∃ x, x = l.tail.getD j [] := ⟨_, rfl⟩
            rw [← hx] at hstep hqt
            have hxl : x.length = q.size := by rw [← hqt]; exact (Lib.size_eq q).symm
            have w1' : IntKind.i64.wrap ((k : Int) + 1) = (k : Int) + 1 := IntWalk.i64_in _ (by have := HLN.out; have := HN.out; omega)
            have w2' : IntKind.i64.wrap ((k : Int) - 1) = (j : Int) := by rw [IntWalk.i64_in _ (by have := HLN.out; have := HN.out; omega)]; omega
            obtain ⟨mb, hmb⟩ : ∃ mb, mb = decide (1 < x.length ∧ x.head? = some 45 ∧ tb ≤ j) := ⟨_, rfl⟩
            have HMB := Lib.hid hmb
            have HST := Lib.hid hstep
            have HQT := Lib.hid hqt
            have HXL := Lib.hid hxl
            have HQZ := Lib.hid hqz
            have HLWR := Lib.hid (HLW.out.below HB.out)
            clear hjl hwl hqm hqt hq hx hxl hstep hb9 hA9 hmb hk hki
            go_upto_region 28 with (fail)
            go_cut [13] (fun s13 wx => s13 = .bool mb ∧ wx = wr)
            case first =>
              as_aux_lemma =>
                have hmb := HMB.out
                have hxl := HXL.out
                by_cases h1 : 1 < q.size
                · have h1' : (1 : Int) < (q.size : Int) := by omega
                  have hp0 : (0 : Int) < (q.size : Int) := by omega
                  obtain ⟨y, r, hxr⟩ : ∃ y r, x = y :: r := by
                    cases x with
                    | nil => simp at hxl; omega
                    | cons y r => exact ⟨y, r, rfl⟩
                  have hq00 : 0 < q.size := by omega
                  have hq0 : (q[0]'hq00).toNat = y.toNat := by
                    have : (q[0]'hq00) = q.data.toList.getD 0 0 := by
                      rw [List.getD_eq_getElem?_getD, List.getElem?_eq_getElem (by rw [← Lib.size_eq]; omega)]
                      rfl
                    rw [this, HQT.out, hxr]
                    rfl
                  rw [hxr] at hmb
                  by_cases h2 : y = 45
                  · have h2n : y.toNat = 45 := by rw [h2]; rfl
                    by_cases h3 : tb ≤ j
                    · have h3' : (tb : Int) ≤ (j : Int) := by omega
                      obtain rfl : mb = true := by rw [hmb]; simp [h2, h3]; have := congrArg List.length hxr; simp at this; omega
                      rw [h2n] at hq0
                      clear hmb hxl h2 h2n hxr HMB HXL HQT
                      go_wp2_with fail
                      go_meet
                      case rel => exact ⟨rfl, rfl⟩
                    · have h3' : ¬ (tb : Int) ≤ (j : Int) := by omega
                      obtain rfl : mb = false := by rw [hmb]; simp [h3]
                      rw [h2n] at hq0
                      clear hmb hxl h2 h2n hxr HMB HXL HQT
                      go_wp2_with fail
                      go_meet
                      case rel => exact ⟨rfl, rfl⟩
                  · obtain rfl : mb = false := by rw [hmb]; simp [h2]
                    obtain ⟨Y, hY⟩ : ∃ Y, Y = y.toNat := ⟨_, rfl⟩
                    rw [← hY] at hq0
                    have h4 : ¬ (Y : Int) = 45 := by
                      intro e
                      refine h2 (UInt8.toNat_inj.1 ?_)
                      rw [← hY]
                      show Y = 45
                      omega
                    have h5 : ¬ Y = 45 := by omega
                    clear hmb hxl h2 hxr hY HMB HXL HQT
                    go_wp2_with fail
                    go_meet
                    case rel => exact ⟨rfl, rfl⟩
                · have h1' : ¬ (1 : Int) < (q.size : Int) := by omega
                  obtain rfl : mb = false := by rw [hmb]; simp [show ¬ 1 < x.length by omega]
                  clear hmb hxl HMB HXL HQT
                  go_wp2_with fail
                  go_meet
                  case rel => exact ⟨rfl, rfl⟩
            case rest =>
              obtain ⟨rfl, hwx⟩ := hcut
              subst hwx
              rename World => wr
              clear d9
              cases mb with
              | false =>
                have HWP : Hid (Pr.wordL (decide (tb ≤ j)) x = if Pr.numOk x = true then some (Pr.valL x : Int) else none) := Lib.hid (Pr.word_plain fun h => by
                  have := HMB.out
                  simp only [decide_eq_true_eq] at h
                  exact absurd this.symm (by simp [h]))
                cases hok : Pr.numOk x with
                | false =>
                  have HN1 : Hid (Calls Tryz.prog 15 #[.string q] wr fun e w' => ∃ n : Int, e = .returned (.tuple #[.int .i64 n, .bool false]) ∧ w' = wr) := Lib.hid (by
                    refine (HNU.out q wr HQZ.out).mono ?_
                    rintro e w' ⟨n, rfl, _, rfl⟩
                    exact ⟨n, by rw [HQT.out, hok], rfl⟩)
                  have HBD : Hid (Pr.lineL t s.data.toList = (Pr.badW, t)) := Lib.hid (HB0.out (j + 1) (by rw [HST.out, HWP.out, hok]; rfl))
                  clear hok
                  go_wp2_with fail
                  refine HN1.out.mono ?_
                  rintro e w' ⟨n, rfl, rfl⟩
                  clear HN1
                  go_wp2_with fail
                  refine reg33 w _ t _ (Nat.le_of_eq rfl) rfl rfl (HLWR.out) (fun A' W' hA hW => ?_)
                  go_wp2_with fail
                  exact line_end hA rfl hW HBD.out
                | true =>
                  have HN1 : Hid (Calls Tryz.prog 15 #[.string q] wr fun e w' => e = .returned (.tuple #[.int .i64 (Pr.valL x : Nat), .bool true]) ∧ w' = wr) := Lib.hid (by
                    refine (HNU.out q wr HQZ.out).mono ?_
                    rintro e w' ⟨n, rfl, hn, rfl⟩
                    rw [HQT.out, hok] at hn ⊢
                    exact ⟨by rw [hn rfl], rfl⟩)
                  have HA2 : Hid (Pr.argsL tb 0 (l.tail.take (j + 1)) = some (ns ++ [(Pr.valL x : Int)])) := Lib.hid (by rw [HST.out, HWP.out, hok]; rfl)
                  obtain ⟨V, hV⟩ : ∃ V : Int, V = ((Pr.valL x : Nat) : Int) := ⟨_, rfl⟩
                  rw [← hV] at HN1 HA2
                  clear hok hV
                  have hk4 : j + 1 ≤ 17592186044415 := by have := HLN.out; have := HN.out; omega
                  go_wp2_with fail
                  refine HN1.out.mono ?_
                  rintro e w' ⟨rfl, rfl⟩
                  clear HN1
                  go_wp2_with (at_builtin; refine wpList_push _ (by rfl) _ _ (by rfl) w1 w1.heap.size A' j c' _ V HO.out HB.out HB.out.size (by omega) (by rfl) (by rfl) ?_; intro g cap w9 ho9 hb9)
                  have HO9 := Lib.hid ho9
                  have HB9' := Lib.hid hb9
                  clear ho9 hb9
                  go_wp2_with fail
                  go_roundw
                  case rel => exact ⟨j + 1, cap, some ⟨g, 0, none⟩, ns ++ [V], by have := HKJ.out; omega, by have := HKJ.out; go_num, rfl, Lib.hid ⟨HA2.out, by rw [List.length_append, HAR.out.2]; rfl⟩, HO9, HB9'⟩
                  case measure => have := HKJ.out; simp [intOf]; omega
              | true =>
                obtain ⟨r, hr⟩ : ∃ r, x = 45 :: r := by
                  have h := HMB.out
                  have h2 : x.head? = some 45 := by have := of_decide_eq_true h.symm; exact this.2.1
                  cases x with
                  | nil => cases h2
                  | cons y r => exact ⟨r, by injection h2 with h2; rw [h2]⟩
                have htj : decide (tb ≤ j) = true := by have := of_decide_eq_true HMB.out.symm; simpa using this.2.2
                have HWP : Hid (Pr.wordL (decide (tb ≤ j)) x = if Pr.numOk r = true ∧ Pr.valL r ≠ 0 then some (-(Pr.valL r : Int)) else none) := Lib.hid (by rw [htj, hr]; exact Pr.word_minus r)
                have hq1 : 1 < q.size := by have := of_decide_eq_true HMB.out.symm; have := HXL.out; omega
                have hqe : (q.extract 1 q.size).data.toList = r := by
                  rw [ByteArray.data_extract, Array.toList_extract, HQT.out, hr]
                  have hz : q.size = r.length + 1 := by rw [← HXL.out, hr]; rfl
                  rw [hz]
                  simp [List.extract_eq_take_drop]
                obtain ⟨q1, hq1e⟩ : ∃ q1, q1 = q.extract 1 q.size := ⟨_, rfl⟩
                have hq1z : q1.size ≤ 100000 := by rw [hq1e, ByteArray.size_extract]; have := HQZ.out; omega
                have hqe' : q1.data.toList = r := by rw [hq1e]; exact hqe
                have i1 : (1 : Int) ≤ (q.size : Int) := by omega
                have HQ1 := Lib.hid hq1e
                cases hok : Pr.numOk r with
                | false =>
                  have HN1 : Hid (Calls Tryz.prog 15 #[.string (q.extract 1 q.size)] wr fun e w' => ∃ n : Int, e = .returned (.tuple #[.int .i64 n, .bool false]) ∧ w' = wr) := Lib.hid (by
                    rw [← hq1e]
                    refine (HNU.out q1 wr hq1z).mono ?_
                    rintro e w' ⟨n, rfl, _, rfl⟩
                    exact ⟨n, by rw [hqe', hok], rfl⟩)
                  have HBD : Hid (Pr.lineL t s.data.toList = (Pr.badW, t)) := Lib.hid (HB0.out (j + 1) (by rw [HST.out, HWP.out, hok]; rfl))
                  clear hok hqe hqe' hq1e hq1z hr htj hq1 HQ1
                  go_wp2_with fail
                  refine HN1.out.mono ?_
                  rintro e w' ⟨n, rfl, rfl⟩
                  clear HN1
                  go_wp2_with fail
                  refine reg33 w _ t _ (Nat.le_of_eq rfl) rfl rfl (HLWR.out) (fun A' W' hA hW => ?_)
                  go_wp2_with fail
                  exact line_end hA rfl hW HBD.out
                | true =>
                  have HN1 : Hid (Calls Tryz.prog 15 #[.string (q.extract 1 q.size)] wr fun e w' => e = .returned (.tuple #[.int .i64 (Pr.valL r : Nat), .bool true]) ∧ w' = wr) := Lib.hid (by
                    rw [← hq1e]
                    refine (HNU.out q1 wr hq1z).mono ?_
                    rintro e w' ⟨n, rfl, hn, rfl⟩
                    rw [hqe', hok] at hn ⊢
                    exact ⟨by rw [hn rfl], rfl⟩)
                  have hvb := (Pr.numOk_val hok).1
                  by_cases hv0 : Pr.valL r = 0
                  · have HBD : Hid (Pr.lineL t s.data.toList = (Pr.badW, t)) := Lib.hid (HB0.out (j + 1) (by rw [HST.out, HWP.out, if_neg (fun h => h.2 hv0)]; rfl))
                    rw [hv0] at HN1
                    clear hok hqe hqe' hq1e hq1z hr htj hq1 HQ1 hvb hv0
                    go_wp2_with fail
                    refine HN1.out.mono ?_
                    rintro e w' ⟨rfl, rfl⟩
                    clear HN1
                    go_wp2_with fail
                    refine reg33 w _ t _ (Nat.le_of_eq rfl) rfl rfl (HLWR.out) (fun A' W' hA hW => ?_)
                    go_wp2_with fail
                    exact line_end hA rfl hW HBD.out
                  · have HA2 : Hid (Pr.argsL tb 0 (l.tail.take (j + 1)) = some (ns ++ [-(Pr.valL r : Int)])) := Lib.hid (by rw [HST.out, HWP.out, if_pos ⟨hok, hv0⟩]; rfl)
                    obtain ⟨U, hU⟩ : ∃ U, U = Pr.valL r := ⟨_, rfl⟩
                    rw [← hU] at HN1 HA2 hvb hv0
                    obtain ⟨V, hV⟩ : ∃ V : Int, V = -(U : Int) := ⟨_, rfl⟩
                    rw [← hV] at HA2
                    have hwn : IntKind.i64.wrap (-(U : Int)) = V := by rw [IntWalk.i64_in _ (by omega)]; exact hV.symm
                    have hv0' : ¬ (U : Int) = 0 := by omega
                    have hk4 : j + 1 ≤ 17592186044415 := by have := HLN.out; have := HN.out; omega
                    clear hok hqe hqe' hq1e hq1z hr htj hq1 HQ1 hvb hU hV
                    go_wp2_with fail
                    refine HN1.out.mono ?_
                    rintro e w' ⟨rfl, rfl⟩
                    clear HN1
                    go_wp2_with (at_builtin; refine wpList_push _ (by rfl) _ _ (by rfl) w1 w1.heap.size A' j c' _ V HO.out HB.out HB.out.size (by omega) (by rfl) (by rfl) ?_; intro g cap w9 ho9 hb9)
                    have HO9 := Lib.hid ho9
                    have HB9' := Lib.hid hb9
                    clear ho9 hb9
                    go_wp2_with fail
                    go_roundw
                    case rel => exact ⟨j + 1, cap, some ⟨g, 0, none⟩, ns ++ [V], by have := HKJ.out; omega, by have := HKJ.out; go_num, rfl, Lib.hid ⟨HA2.out, by rw [List.length_append, HAR.out.2]; rfl⟩, HO9, HB9'⟩
                    case measure => have := HKJ.out; simp [intOf]; omega
          · obtain rfl : k = N := by omega
            have hlt' : ¬ (k : Int) < (k : Int) := by omega
            have hj1 : j = l.tail.length := by rw [HTL.out]; omega
            have HA2 : Hid (Pr.argsL tb 0 l.tail = some ns ∧ ns.length = j) := Lib.hid ⟨by have := HAR.out.1; rwa [hj1, List.take_length] at this, HAR.out.2⟩
            clear hj1 hk hki
            go_wp2_with fail
            go_meet
            case rel => exact ⟨A', j, c', ns, rfl, HA2, HO, HB⟩
    case rest =>
      obtain ⟨A9, n9, c9, ns, rfl, HAR, HO9, HB9⟩ := hcut
      rename World => w9
      have HL9 := Lib.hid (HLW.out.below HB9.out)
      have HLW9 : Hid (w.heap.size + 2 ≤ w1.heap.size) := Lib.hid HLW.out.sz
      have d8 := (HB9.out.cell (p := ⟨b8, o8, none⟩) HB8.out).trans HD8.out
      clear HNU
      have hk25 : w.heap.size ≠ w.heap.size + 1 := by omega
      obtain ⟨htm, htmo, htb⟩ := HWI.out
      cases hw : Pr.wantOf w0 with
      | none =>
        as_aux_lemma =>
          have HBD := Lib.hid (line_bad1 (t := t) HLE.out.1 (.inl hw))
          obtain rfl : tm = -1 := by rw [htm]; unfold wantI; rw [hw]
          clear htm htmo htb hw HWI HLE HSZ HTBD HAR HTK HHD HLN HMEM HLW HWS HLC HN HR1 HB8 HD8 hl0'
          go_wp2_with fail
          refine reg38 w w9 t _ (Nat.le_of_eq rfl) rfl rfl HL9.out (fun A' W' hA hW => ?_)
          go_wp2_with fail
          exact line_end hA rfl hW HBD.out
      | some x =>
        obtain ⟨hxm, hxo, hxb⟩ : tm = (x.many : Int) ∧ tmo = x.more ∧ tb = x.below := by
          unfold wantI at htm htmo htb
          rw [hw] at htm htmo htb
          exact ⟨htm, htmo, htb⟩
        have hHA := HAR.out
        have HAX : Hid (Pr.argsL x.below 0 (Pr.cutL 32 s.data.toList).tail = some ns) := Lib.hid (by rw [← hxb, ← HLE.out.2]; exact hHA.1)
        have hm0 : ¬ tm < 0 := by omega
        cases hok : Pr.okArgs x ns with
        | false =>
          as_aux_lemma =>
            have HBD := Lib.hid (line_bad2 (t := t) HLE.out.1 hw HAX.out hok)
            have hnl := hHA.2
            by_cases hlm : (n9 : Int) < tm
            · clear htm htmo htb hw HWI HLE HSZ HTBD HAR HTK HHD HLN HMEM HLW HWS HLC HN HR1 HB8 HD8 hl0' hxm hxo hxb hHA HAX hok hnl
              go_wp2_with fail
              refine reg38 w w9 t _ (Nat.le_of_eq rfl) rfl rfl HL9.out (fun A' W' hA hW => ?_)
              go_wp2_with fail
              exact line_end hA rfl hW HBD.out
            · have h2 : tm < (n9 : Int) ∧ tmo = false := by
                unfold Pr.okArgs at hok
                rw [← hxo] at hok
                cases tmo with
                | true => simp at hok; omega
                | false => simp at hok; have hok3 := hok (by omega); exact ⟨by omega, rfl⟩
              obtain ⟨h2a, rfl⟩ := h2
              clear htm htmo htb hw HWI HLE HSZ HTBD HAR HTK HHD HLN HMEM HLW HWS HLC HN HR1 HB8 HD8 hl0' hxm hxo hxb hHA HAX hok hnl
              go_wp2_with fail
              refine reg38 w w9 t _ (Nat.le_of_eq rfl) rfl rfl HL9.out (fun A' W' hA hW => ?_)
              go_wp2_with fail
              exact line_end hA rfl hW HBD.out
        | true =>
          have hnl := hHA.2
          have hok2 : ¬ (n9 : Int) < tm ∧ (tmo = true ∨ ¬ tm < (n9 : Int)) := by
            unfold Pr.okArgs at hok
            rw [← hxo] at hok
            cases tmo with
            | true => simp at hok; exact ⟨by omega, .inl rfl⟩
            | false => simp at hok; exact ⟨by omega, .inr (by omega)⟩
          have HLG := Lib.hid (line_good (t := t) HLE.out.1 hw HAX.out hok)
          have HBDS := Lib.hid (Pr.argsL_bd x.below _ 0 ns HAX.out)
          have HLNN : Hid (ns.length ≤ 3001) := Lib.hid (by
            have h1 := Pr.argsL_len x.below _ 0 ns HAX.out
            rw [List.length_tail, ← HLE.out.2] at h1
            have := HLN.out
            omega)
          have hcs := want_cases (w0 := w0) (by rw [hw]; rfl)
          have hxw : x = wantX w0 := by unfold wantX; rw [hw]; rfl
          have HOA := Lib.hid hok
          have HNL := Lib.hid hnl
          clear htm htmo htb HTBD HAR HHD HLN HMEM HLW HWS HLC HN HR1 HB8 HD8 hl0' hxm hxo hxb hHA HAX hok hw HWI
          go_upto_region 37 with (fail)
          go_cut [108] (fun s108 wx => s108 = .bool false ∧ wx = w9)
          case first =>
            as_aux_lemma =>
              obtain ⟨h2, h3⟩ := hok2
              rcases h3 with rfl | h3
              · by_cases h4 : tm < (n9 : Int)
                · go_wp2_with fail
                  go_meet
                  case rel => exact ⟨rfl, rfl⟩
                · go_wp2_with fail
                  go_meet
                  case rel => exact ⟨rfl, rfl⟩
              · go_wp2_with fail
                go_meet
                case rel => exact ⟨rfl, rfl⟩
          case rest =>
            obtain ⟨rfl, hwx⟩ := hcut
            subst hwx
            rename World => w9
            clear hok2 hm0
            have hsz := HSZ.out
            rcases hcs with ⟨rfl, hxe⟩ | ⟨rfl, hxe⟩ | ⟨rfl, hxe⟩ | ⟨rfl, hxe⟩ | ⟨rfl, hxe⟩ | ⟨rfl, hxe⟩ | ⟨rfl, hxe⟩
            · as_aux_lemma =>
                have e1 := word_eq (m := [99, 111, 117, 110, 116]) hsz (by decide)
                have hl1 : ns.length = 2 := by
                  have h := HOA.out
                  rw [hxw, hxe] at h
                  unfold Pr.okArgs at h
                  simp at h
                  omega
                obtain ⟨a, b, rfl⟩ := len_two hl1
                have ha : 0 ≤ a ∧ a ≤ 9999 := ⟨by have := (HBDS.out 0 (by simp)).2.2 (by rw [hxw, hxe]; show 0 + 0 < 99; omega); simpa using this, by simpa using (HBDS.out 0 (by simp)).2.1⟩
                have hb : 0 ≤ b ∧ b ≤ 9999 := ⟨by have := (HBDS.out 1 (by simp)).2.2 (by rw [hxw, hxe]; show 0 + 1 < 99; omega); simpa using this, by simpa using (HBDS.out 1 (by simp)).2.1⟩
                obtain rfl : n9 = 2 := HNL.out.symm
                obtain ⟨g9, rfl, hgB, hg9⟩ := own_form HO9.out (by omega)
                have hg5 : g9 ≠ w.heap.size + 1 := by have := HLW9.out; omega
                have a0 : w9.cell? ⟨g9, 0, none⟩ = some (.int .i64 a) := HO9.out.cellAt 0 (by omega)
                have a1 : w9.cell? ⟨g9, 1, none⟩ = some (.int .i64 b) := HO9.out.cellAt 1 (by omega)
                have i0 : (0 : Int) < 2 := by omega
                have i1 : (1 : Int) < 2 := by omega
                by_cases h6 : a ≤ 6
                · by_cases h8 : b ≤ 8
                  · have hck := fun W => rcount_any a.toNat b.toNat W (by omega) (by omega)
                    rw [Int.toNat_of_nonneg ha.1, Int.toNat_of_nonneg hb.1] at hck
                    have hrb := Ph.cnt_le a.toNat b.toNat (by omega) (by omega)
                    have HLL : Hid (Pr.lineL t s.data.toList = (Pr.toldL [((Ph.cnt a.toNat b.toNat : Nat) : Int)], t)) := Lib.hid (by
                      rw [HLG.out]
                      unfold Pr.doL
                      rw [if_pos rfl, if_pos (by simpa using ⟨h6, h8⟩)]
                      rfl)
                    obtain ⟨R, hR⟩ : ∃ R : Int, R = ((Ph.cnt a.toNat b.toNat : Nat) : Int) := ⟨_, rfl⟩
                    rw [← hR] at hck HLL
                    have HRB : Hid (-1000000000 ≤ R ∧ R ≤ 1000000000) := Lib.hid (by omega)
                    have HCK := Lib.hid hck
                    have h6' : ¬ 6 < a := by omega
                    have h8' : ¬ 8 < b := by omega
                    clear hR hrb hck hl1 h6 h8 ha hb hgB hg9
                    clear hsz HSZ HLE hxe hxw HLG HBDS HOA HNL HLNN HTK
                    go_wp2_with fail
                    refine reg43 w w9 t _ (Nat.le_of_eq rfl) rfl rfl g9 c9 a b R hg5 rfl a0 a1 HRB.out HCK.out HL9.out (fun A' W' hA hW => ?_)
                    go_wp2_with fail
                    exact line_end hA rfl hW HLL.out
                  · have HLL : Hid (Pr.lineL t s.data.toList = (Pr.nameL 1, t)) := Lib.hid (by
                      rw [HLG.out]
                      unfold Pr.doL
                      rw [if_pos rfl, if_neg (by simp; omega)]
                      rfl)
                    have h6' : ¬ 6 < a := by omega
                    have h8' : 8 < b := by omega
                    clear hl1 h6 h8 ha hb hgB hg9
                    clear hsz HSZ HLE hxe hxw HLG HBDS HOA HNL HLNN HTK
                    go_wp2_with fail
                    refine reg42 w w9 t _ (Nat.le_of_eq rfl) rfl rfl  HL9.out (fun A' W' hA hW => ?_)
                    go_wp2_with fail
                    exact line_end hA rfl hW HLL.out
                · have HLL : Hid (Pr.lineL t s.data.toList = (Pr.nameL 1, t)) := Lib.hid (by
                    rw [HLG.out]
                    unfold Pr.doL
                    rw [if_pos rfl, if_neg (by simp; omega)]
                    rfl)
                  have h6' : 6 < a := by omega
                  clear hl1 h6 ha hb hgB hg9
                  clear hsz HSZ HLE hxe hxw HLG HBDS HOA HNL HLNN HTK
                  go_wp2_with fail
                  refine reg42 w w9 t _ (Nat.le_of_eq rfl) rfl rfl  HL9.out (fun A' W' hA hW => ?_)
                  go_wp2_with fail
                  exact line_end hA rfl hW HLL.out
            · as_aux_lemma =>
                have e1 := word_ne (m := [99, 111, 117, 110, 116]) hsz (by decide)
                have e2 := word_eq (m := [114, 97, 110, 107]) hsz (by decide)
                have HRI := Lib.hid (RdI.own HO9.out)
                have hcap := own_cap HO9.out
                have hpn : n9 ≤ 100000000000000 := by have := HLNN.out; have := HNL.out; omega
                have hpu := fun W (h : RdI W w9.heap.size A9 n9 ns) => rpulses_any A9 n9 c9 ns W w9.heap.size h hpn
                by_cases hp : Ph.pulsesErr ns = 0
                · have hz := Ph.pulsesErr_zero.1 hp
                  have hrb : 0 ≤ ((Ph.rank ns : Nat) : Int) ∧ ((Ph.rank ns : Nat) : Int) ≤ 1048576 := by
                    have h := Ph.rank_fits hz.1 hz.2.2
                    have h2 : 2 ^ (Ph.wid ns.length (Ph.loud ns)).toNat ≤ 2 ^ 20 := Nat.pow_le_pow_right (by decide) h.2
                    have h3 : (2 : Nat) ^ 20 = 1048576 := by decide
                    omega
                  have hck := rrank_any ns A9 n9 c9 w9.drew w9.heap.size (HRI.out.below ⟨rfl, rfl, rfl, Nat.le_refl _, fun _ _ => rfl⟩) (Nat.le_refl _) hcap hp
                  have HLL : Hid (Pr.lineL t s.data.toList = (Pr.toldL [((Ph.rank ns : Nat) : Int)], t)) := Lib.hid (by
                    rw [HLG.out]
                    unfold Pr.doL
                    rw [if_neg (by decide), if_pos rfl, hp]
                    rfl)
                  obtain ⟨R, hR⟩ : ∃ R : Int, R = ((Ph.rank ns : Nat) : Int) := ⟨_, rfl⟩
                  rw [← hR] at hck HLL hrb
                  have HRB : Hid (-1000000000 ≤ R ∧ R ≤ 1000000000) := Lib.hid (by omega)
                  have HCK := Lib.hid hck
                  rw [hp, if_pos rfl] at hpu
                  have HPU := Lib.hid (hpu w9 HRI.out)
                  clear hR hrb hck hz hp hpu hcap hpn HRI
                  clear hsz HSZ HLE hxe hxw HLG HBDS HOA HNL HLNN HTK
                  go_wp2_with fail
                  refine HPU.out.mono ?_
                  rintro e wq ⟨rfl, rfl⟩
                  go_wp2_with fail
                  refine reg48 w w9 t _ (Nat.le_of_eq rfl) rfl rfl A9 n9 c9 R rfl HRB.out HCK.out HL9.out (fun A' W' hA hW => ?_)
                  go_wp2_with fail
                  exact line_end hA rfl hW HLL.out
                · have hE : Ph.pulsesErr ns = 1 ∨ Ph.pulsesErr ns = 4 := by
                    unfold Ph.pulsesErr at hp ⊢
                    split
                    · exact .inr rfl
                    · split
                      · split
                        · exact .inr rfl
                        · rename_i h1 h2 h3; rw [if_neg h1, if_pos h2, if_neg h3] at hp; exact absurd rfl hp
                      · exact .inl rfl
                  have HLL : Hid (Pr.lineL t s.data.toList = (Pr.nameL (Ph.pulsesErr ns), t)) := Lib.hid (by
                    rw [HLG.out]
                    unfold Pr.doL
                    rw [if_neg (by decide), if_pos rfl]
                    unfold Pr.ansL
                    rw [if_neg hp])
                  have HPU := Lib.hid (hpu w9 HRI.out)
                  rw [if_neg hp] at HPU
                  obtain ⟨E, hEE⟩ : ∃ E, E = Ph.pulsesErr ns := ⟨_, rfl⟩
                  rw [← hEE] at hE HLL hp HPU
                  have hE4 : E = 1 ∨ E = 4 ∨ E = 5 ∨ E = 8 := by omega
                  have HE4 := Lib.hid hE4
                  clear hEE hE hE4 hpu hcap hpn HRI
                  clear hsz HSZ HLE hxe hxw HLG HBDS HOA HNL HLNN HTK
                  go_wp2_with fail
                  refine HPU.out.mono ?_
                  rintro e wq ⟨rfl, rfl⟩
                  go_wp2_with fail
                  refine reg47 w w9 t _ (Nat.le_of_eq rfl) rfl rfl E HE4.out rfl HL9.out (fun A' W' hA hW => ?_)
                  go_wp2_with fail
                  exact line_end hA rfl hW HLL.out
            · as_aux_lemma =>
                have e1 := word_ne (m := [99, 111, 117, 110, 116]) hsz (by decide)
                have e2 := word_ne (m := [114, 97, 110, 107]) hsz (by decide)
                have e3 := word_eq (m := [114, 111, 119]) hsz (by decide)
                have hl1 : ns.length = 3 := by
                  have h := HOA.out
                  rw [hxw, hxe] at h
                  unfold Pr.okArgs at h
                  simp at h
                  omega
                obtain ⟨a, b, c, rfl⟩ := len_three hl1
                have ha : 0 ≤ a ∧ a ≤ 9999 := ⟨by have := (HBDS.out 0 (by simp)).2.2 (by rw [hxw, hxe]; show 0 + 0 < 99; omega); simpa using this, by simpa using (HBDS.out 0 (by simp)).2.1⟩
                have hb : 0 ≤ b ∧ b ≤ 9999 := ⟨by have := (HBDS.out 1 (by simp)).2.2 (by rw [hxw, hxe]; show 0 + 1 < 99; omega); simpa using this, by simpa using (HBDS.out 1 (by simp)).2.1⟩
                have hc : 0 ≤ c ∧ c ≤ 9999 := ⟨by have := (HBDS.out 2 (by simp)).2.2 (by rw [hxw, hxe]; show 0 + 2 < 99; omega); simpa using this, by simpa using (HBDS.out 2 (by simp)).2.1⟩
                obtain rfl : n9 = 3 := HNL.out.symm
                obtain ⟨g9, rfl, hgB, hg9⟩ := own_form HO9.out (by omega)
                have hg5 : g9 ≠ w.heap.size + 1 := by have := HLW9.out; omega
                have a0 : w9.cell? ⟨g9, 0, none⟩ = some (.int .i64 a) := HO9.out.cellAt 0 (by omega)
                have a1 : w9.cell? ⟨g9, 1, none⟩ = some (.int .i64 b) := HO9.out.cellAt 1 (by omega)
                have a2 : w9.cell? ⟨g9, 2, none⟩ = some (.int .i64 c) := HO9.out.cellAt 2 (by omega)
                have i0 : (0 : Int) < 3 := by omega
                have i1 : (1 : Int) < 3 := by omega
                have i2 : (2 : Int) < 3 := by omega
                by_cases h6 : a ≤ 6
                · by_cases h8 : b ≤ 8
                  · have hck := fun W => rcount_any a.toNat b.toNat W (by omega) (by omega)
                    rw [Int.toNat_of_nonneg ha.1, Int.toNat_of_nonneg hb.1] at hck
                    have hrb := Ph.cnt_le a.toNat b.toNat (by omega) (by omega)
                    have h6' : ¬ 6 < a := by omega
                    have h8' : ¬ 8 < b := by omega
                    by_cases hc9 : c < ((Ph.cnt a.toNat b.toNat : Nat) : Int)
                    · have hrw := fun W => rrow_any a.toNat b.toNat c.toNat W (by omega) (by omega) (by omega)
                      rw [Int.toNat_of_nonneg ha.1, Int.toNat_of_nonneg hb.1, Int.toNat_of_nonneg hc.1] at hrw
                      have hlb : ∀ y ∈ Ph.rowOf a.toNat b.toNat c.toNat, -1000000000 ≤ y ∧ y ≤ 1000000000 := loud_bd (by rw [(Ph.rank_rowOf _ _ _ (by omega)).2]; omega)
                      have HLL : Hid (Pr.lineL t s.data.toList = (Pr.toldL (Ph.rowOf a.toNat b.toNat c.toNat), t)) := Lib.hid (by
                        rw [HLG.out]
                        unfold Pr.doL
                        rw [if_neg (by decide), if_neg (by decide), if_pos rfl, if_pos (by simpa using ⟨⟨h6, h8⟩, hc9⟩)]
                        rfl)
                      obtain ⟨R, hR⟩ : ∃ R : Int, R = ((Ph.cnt a.toNat b.toNat : Nat) : Int) := ⟨_, rfl⟩
                      obtain ⟨L, hL⟩ : ∃ L, L = Ph.rowOf a.toNat b.toNat c.toNat := ⟨_, rfl⟩
                      obtain ⟨m, hm⟩ : ∃ m, m = a.toNat := ⟨_, rfl⟩
                      have hm6 : m ≤ 1000 := by omega
                      rw [← hR] at hck hc9
                      rw [← hL] at hrw hlb HLL
                      rw [← hm] at hrw
                      have HRW : Hid (∀ W, Calls Tryz.prog 21 #[.int .i64 a, .int .i64 b, .int .i64 c] W fun e w' => ∃ A c, e = .returned (.slice A m c) ∧ RdI w' w'.heap.size A m L ∧ Below W.heap.size W w') := Lib.hid fun W => by
                        refine (hrw W).mono ?_
                        rintro e w' ⟨A, c, rfl, _, h1, h2⟩
                        exact ⟨A, c, rfl, h1, h2⟩
                      have HLBX := Lib.hid hlb
                      have HCK := Lib.hid hck
                      have hc9' : ¬ R ≤ c := by omega
                      clear hR hrb hck hl1 h6 h8 ha hb hc hgB hg9 hrw hlb hL hm
                      clear hsz HSZ HLE hxe hxw HLG HBDS HOA HNL HLNN HTK
                      go_wp2_with fail
                      replace a0 : w9.drew.cell? ⟨g9, 0, none⟩ = some (.int .i64 a) := a0
                      replace a1 : w9.drew.cell? ⟨g9, 1, none⟩ = some (.int .i64 b) := a1
                      replace a2 : w9.drew.cell? ⟨g9, 2, none⟩ = some (.int .i64 c) := a2
                      refine region_till (fun _ w' => (w'.cell? ⟨g9, 0, none⟩ = some (.int .i64 a) ∧ w'.cell? ⟨g9, 1, none⟩ = some (.int .i64 b) ∧ w'.cell? ⟨g9, 2, none⟩ = some (.int .i64 c))) (by kernel_rfl) ?_
                      refine wpTill_take (d := 1) (i := 0) (v := .slice (some ⟨g9, 0, none⟩) 3 c9) (S := fun w' => (w'.cell? ⟨g9, 0, none⟩ = some (.int .i64 a) ∧ w'.cell? ⟨g9, 1, none⟩ = some (.int .i64 b) ∧ w'.cell? ⟨g9, 2, none⟩ = some (.int .i64 c))) rfl (by kernel_rfl) (by kernel_rfl) (by kernel_rfl) (by kernel_rfl) (fun _ _ _ h => h) (fun _ _ _ h => h) (fun _ _ h => h) ⟨a0, a1, a2⟩ (Or.inl ⟨by rfl, fun w hSw => by obtain ⟨y0, y1, y2⟩ := hSw; go_simp⟩) ?_
                      try simp only [Act.put, List.getElem_toArray, List.getElem_cons_zero, List.setIfInBounds_toArray, List.set_cons_zero, List.set_cons_succ]
                      refine wpTill_take (d := 2) (i := 1) (v := .pointer (some ⟨g9, 0, none⟩)) (S := fun w' => (w'.cell? ⟨g9, 0, none⟩ = some (.int .i64 a) ∧ w'.cell? ⟨g9, 1, none⟩ = some (.int .i64 b) ∧ w'.cell? ⟨g9, 2, none⟩ = some (.int .i64 c))) rfl (by kernel_rfl) (by kernel_rfl) (by kernel_rfl) (by kernel_rfl) (fun _ _ _ h => h) (fun _ _ _ h => h) (fun _ _ h => h) ⟨a0, a1, a2⟩ (Or.inl ⟨by rfl, fun w hSw => by obtain ⟨y0, y1, y2⟩ := hSw; go_simp⟩) ?_
                      try simp only [Act.put, List.getElem_toArray, List.getElem_cons_zero, List.getElem_cons_succ, List.setIfInBounds_toArray, List.set_cons_zero, List.set_cons_succ]
                      refine wpTill_take (d := 3) (i := 2) (v := .int .i64 a) (S := fun w' => (w'.cell? ⟨g9, 0, none⟩ = some (.int .i64 a) ∧ w'.cell? ⟨g9, 1, none⟩ = some (.int .i64 b) ∧ w'.cell? ⟨g9, 2, none⟩ = some (.int .i64 c))) rfl (by kernel_rfl) (by kernel_rfl) (by kernel_rfl) (by kernel_rfl) (fun _ _ _ h => h) (fun _ _ _ h => h) (fun _ _ h => h) ⟨a0, a1, a2⟩ (Or.inl ⟨by rfl, fun w hSw => by obtain ⟨y0, y1, y2⟩ := hSw; go_simp⟩) ?_
                      try simp only [Act.put, List.getElem_toArray, List.getElem_cons_zero, List.getElem_cons_succ, List.setIfInBounds_toArray, List.set_cons_zero, List.set_cons_succ]
                      refine wpTill_take (d := 4) (i := 3) (v := .bool false) (S := fun w' => (w'.cell? ⟨g9, 0, none⟩ = some (.int .i64 a) ∧ w'.cell? ⟨g9, 1, none⟩ = some (.int .i64 b) ∧ w'.cell? ⟨g9, 2, none⟩ = some (.int .i64 c))) rfl (by kernel_rfl) (by kernel_rfl) (by kernel_rfl) (by kernel_rfl) (fun _ _ _ h => h) (fun _ _ _ h => h) (fun _ _ h => h) ⟨a0, a1, a2⟩ (Or.inl ⟨by rfl, fun w hSw => by obtain ⟨y0, y1, y2⟩ := hSw; go_simp⟩) ?_
                      try simp only [Act.put, List.getElem_toArray, List.getElem_cons_zero, List.getElem_cons_succ, List.setIfInBounds_toArray, List.set_cons_zero, List.set_cons_succ]
                      refine wpTill_take (d := 5) (i := 4) (v := .bool false) (S := fun w' => (w'.cell? ⟨g9, 0, none⟩ = some (.int .i64 a) ∧ w'.cell? ⟨g9, 1, none⟩ = some (.int .i64 b) ∧ w'.cell? ⟨g9, 2, none⟩ = some (.int .i64 c))) rfl (by kernel_rfl) (by kernel_rfl) (by kernel_rfl) (by kernel_rfl) (fun _ _ _ h => h) (fun _ _ _ h => h) (fun _ _ h => h) ⟨a0, a1, a2⟩ (Or.inl ⟨by rfl, fun w hSw => by obtain ⟨y0, y1, y2⟩ := hSw; go_simp⟩) ?_
                      try simp only [Act.put, List.getElem_toArray, List.getElem_cons_zero, List.getElem_cons_succ, List.setIfInBounds_toArray, List.set_cons_zero, List.set_cons_succ]
                      refine wpTill_take (d := 6) (i := 5) (v := .slice (some ⟨g9, 0, none⟩) 3 c9) (S := fun w' => (w'.cell? ⟨g9, 0, none⟩ = some (.int .i64 a) ∧ w'.cell? ⟨g9, 1, none⟩ = some (.int .i64 b) ∧ w'.cell? ⟨g9, 2, none⟩ = some (.int .i64 c))) rfl (by kernel_rfl) (by kernel_rfl) (by kernel_rfl) (by kernel_rfl) (fun _ _ _ h => h) (fun _ _ _ h => h) (fun _ _ h => h) ⟨a0, a1, a2⟩ (Or.inl ⟨by rfl, fun w hSw => by obtain ⟨y0, y1, y2⟩ := hSw; go_simp⟩) ?_
                      try simp only [Act.put, List.getElem_toArray, List.getElem_cons_zero, List.getElem_cons_succ, List.setIfInBounds_toArray, List.set_cons_zero, List.set_cons_succ]
                      refine wpTill_take (d := 7) (i := 6) (v := .pointer (some ⟨g9, 1, none⟩)) (S := fun w' => (w'.cell? ⟨g9, 0, none⟩ = some (.int .i64 a) ∧ w'.cell? ⟨g9, 1, none⟩ = some (.int .i64 b) ∧ w'.cell? ⟨g9, 2, none⟩ = some (.int .i64 c))) rfl (by kernel_rfl) (by kernel_rfl) (by kernel_rfl) (by kernel_rfl) (fun _ _ _ h => h) (fun _ _ _ h => h) (fun _ _ h => h) ⟨a0, a1, a2⟩ (Or.inl ⟨by rfl, fun w hSw => by obtain ⟨y0, y1, y2⟩ := hSw; go_simp⟩) ?_
                      try simp only [Act.put, List.getElem_toArray, List.getElem_cons_zero, List.getElem_cons_succ, List.setIfInBounds_toArray, List.set_cons_zero, List.set_cons_succ]
                      refine wpTill_take (d := 8) (i := 7) (v := .int .i64 b) (S := fun w' => (w'.cell? ⟨g9, 0, none⟩ = some (.int .i64 a) ∧ w'.cell? ⟨g9, 1, none⟩ = some (.int .i64 b) ∧ w'.cell? ⟨g9, 2, none⟩ = some (.int .i64 c))) rfl (by kernel_rfl) (by kernel_rfl) (by kernel_rfl) (by kernel_rfl) (fun _ _ _ h => h) (fun _ _ _ h => h) (fun _ _ h => h) ⟨a0, a1, a2⟩ (Or.inl ⟨by rfl, fun w hSw => by obtain ⟨y0, y1, y2⟩ := hSw; go_simp⟩) ?_
                      try simp only [Act.put, List.getElem_toArray, List.getElem_cons_zero, List.getElem_cons_succ, List.setIfInBounds_toArray, List.set_cons_zero, List.set_cons_succ]
                      refine wpTill_take (d := 9) (i := 8) (v := .bool false) (S := fun w' => (w'.cell? ⟨g9, 0, none⟩ = some (.int .i64 a) ∧ w'.cell? ⟨g9, 1, none⟩ = some (.int .i64 b) ∧ w'.cell? ⟨g9, 2, none⟩ = some (.int .i64 c))) rfl (by kernel_rfl) (by kernel_rfl) (by kernel_rfl) (by kernel_rfl) (fun _ _ _ h => h) (fun _ _ _ h => h) (fun _ _ h => h) ⟨a0, a1, a2⟩ (Or.inl ⟨by rfl, fun w hSw => by obtain ⟨y0, y1, y2⟩ := hSw; go_simp⟩) ?_
                      try simp only [Act.put, List.getElem_toArray, List.getElem_cons_zero, List.getElem_cons_succ, List.setIfInBounds_toArray, List.set_cons_zero, List.set_cons_succ]
                      refine wpTill_take (d := 10) (i := 9) (v := .bool false) (S := fun w' => (w'.cell? ⟨g9, 0, none⟩ = some (.int .i64 a) ∧ w'.cell? ⟨g9, 1, none⟩ = some (.int .i64 b) ∧ w'.cell? ⟨g9, 2, none⟩ = some (.int .i64 c))) rfl (by kernel_rfl) (by kernel_rfl) (by kernel_rfl) (by kernel_rfl) (fun _ _ _ h => h) (fun _ _ _ h => h) (fun _ _ h => h) ⟨a0, a1, a2⟩ (Or.inl ⟨by rfl, fun w hSw => by obtain ⟨y0, y1, y2⟩ := hSw; go_simp⟩) ?_
                      try simp only [Act.put, List.getElem_toArray, List.getElem_cons_zero, List.getElem_cons_succ, List.setIfInBounds_toArray, List.set_cons_zero, List.set_cons_succ]
                      refine wpTill_take (d := 11) (i := 10) (v := .bool false) (S := fun w' => (w'.cell? ⟨g9, 0, none⟩ = some (.int .i64 a) ∧ w'.cell? ⟨g9, 1, none⟩ = some (.int .i64 b) ∧ w'.cell? ⟨g9, 2, none⟩ = some (.int .i64 c))) rfl (by kernel_rfl) (by kernel_rfl) (by kernel_rfl) (by kernel_rfl) (fun _ _ _ h => h) (fun _ _ _ h => h) (fun _ _ h => h) ⟨a0, a1, a2⟩ (Or.inl ⟨by rfl, fun w hSw => by obtain ⟨y0, y1, y2⟩ := hSw; go_simp⟩) ?_
                      try simp only [Act.put, List.getElem_toArray, List.getElem_cons_zero, List.getElem_cons_succ, List.setIfInBounds_toArray, List.set_cons_zero, List.set_cons_succ]
                      refine wpTill_take (d := 12) (i := 11) (v := .slice (some ⟨g9, 0, none⟩) 3 c9) (S := fun w' => (w'.cell? ⟨g9, 0, none⟩ = some (.int .i64 a) ∧ w'.cell? ⟨g9, 1, none⟩ = some (.int .i64 b) ∧ w'.cell? ⟨g9, 2, none⟩ = some (.int .i64 c))) rfl (by kernel_rfl) (by kernel_rfl) (by kernel_rfl) (by kernel_rfl) (fun _ _ _ h => h) (fun _ _ _ h => h) (fun _ _ h => h) ⟨a0, a1, a2⟩ (Or.inl ⟨by rfl, fun w hSw => by obtain ⟨y0, y1, y2⟩ := hSw; go_simp⟩) ?_
                      try simp only [Act.put, List.getElem_toArray, List.getElem_cons_zero, List.getElem_cons_succ, List.setIfInBounds_toArray, List.set_cons_zero, List.set_cons_succ]
                      refine wpTill_take (d := 13) (i := 12) (v := .pointer (some ⟨g9, 2, none⟩)) (S := fun w' => (w'.cell? ⟨g9, 0, none⟩ = some (.int .i64 a) ∧ w'.cell? ⟨g9, 1, none⟩ = some (.int .i64 b) ∧ w'.cell? ⟨g9, 2, none⟩ = some (.int .i64 c))) rfl (by kernel_rfl) (by kernel_rfl) (by kernel_rfl) (by kernel_rfl) (fun _ _ _ h => h) (fun _ _ _ h => h) (fun _ _ h => h) ⟨a0, a1, a2⟩ (Or.inl ⟨by rfl, fun w hSw => by obtain ⟨y0, y1, y2⟩ := hSw; go_simp⟩) ?_
                      try simp only [Act.put, List.getElem_toArray, List.getElem_cons_zero, List.getElem_cons_succ, List.setIfInBounds_toArray, List.set_cons_zero, List.set_cons_succ]
                      refine wpTill_take (d := 21) (i := 13) (v := .int .i64 c) (S := fun w' => (w'.cell? ⟨g9, 0, none⟩ = some (.int .i64 a) ∧ w'.cell? ⟨g9, 1, none⟩ = some (.int .i64 b) ∧ w'.cell? ⟨g9, 2, none⟩ = some (.int .i64 c))) rfl (by kernel_rfl) (by kernel_rfl) (by kernel_rfl) (by kernel_rfl) (fun _ _ _ h => h) (fun _ _ _ h => h) (fun _ _ h => h) ⟨a0, a1, a2⟩ (Or.inl ⟨by rfl, fun w hSw => by obtain ⟨y0, y1, y2⟩ := hSw; go_simp⟩) ?_
                      try simp only [Act.put, List.getElem_toArray, List.getElem_cons_zero, List.getElem_cons_succ, List.setIfInBounds_toArray, List.set_cons_zero, List.set_cons_succ]
                      refine wpTill_take (d := 15) (i := 14) (v := .slice (some ⟨g9, 0, none⟩) 3 c9) (S := fun w' => (w'.cell? ⟨g9, 0, none⟩ = some (.int .i64 a) ∧ w'.cell? ⟨g9, 1, none⟩ = some (.int .i64 b) ∧ w'.cell? ⟨g9, 2, none⟩ = some (.int .i64 c))) rfl (by kernel_rfl) (by kernel_rfl) (by kernel_rfl) (by kernel_rfl) (fun _ _ _ h => h) (fun _ _ _ h => h) (fun _ _ h => h) ⟨a0, a1, a2⟩ (Or.inl ⟨by rfl, fun w hSw => by obtain ⟨y0, y1, y2⟩ := hSw; go_simp⟩) ?_
                      try simp only [Act.put, List.getElem_toArray, List.getElem_cons_zero, List.getElem_cons_succ, List.setIfInBounds_toArray, List.set_cons_zero, List.set_cons_succ]
                      refine wpTill_take (d := 16) (i := 15) (v := .pointer (some ⟨g9, 0, none⟩)) (S := fun w' => (w'.cell? ⟨g9, 0, none⟩ = some (.int .i64 a) ∧ w'.cell? ⟨g9, 1, none⟩ = some (.int .i64 b) ∧ w'.cell? ⟨g9, 2, none⟩ = some (.int .i64 c))) rfl (by kernel_rfl) (by kernel_rfl) (by kernel_rfl) (by kernel_rfl) (fun _ _ _ h => h) (fun _ _ _ h => h) (fun _ _ h => h) ⟨a0, a1, a2⟩ (Or.inl ⟨by rfl, fun w hSw => by obtain ⟨y0, y1, y2⟩ := hSw; go_simp⟩) ?_
                      try simp only [Act.put, List.getElem_toArray, List.getElem_cons_zero, List.getElem_cons_succ, List.setIfInBounds_toArray, List.set_cons_zero, List.set_cons_succ]
                      refine wpTill_take (d := 20) (i := 16) (v := .int .i64 a) (S := fun w' => (w'.cell? ⟨g9, 0, none⟩ = some (.int .i64 a) ∧ w'.cell? ⟨g9, 1, none⟩ = some (.int .i64 b) ∧ w'.cell? ⟨g9, 2, none⟩ = some (.int .i64 c))) rfl (by kernel_rfl) (by kernel_rfl) (by kernel_rfl) (by kernel_rfl) (fun _ _ _ h => h) (fun _ _ _ h => h) (fun _ _ h => h) ⟨a0, a1, a2⟩ (Or.inl ⟨by rfl, fun w hSw => by obtain ⟨y0, y1, y2⟩ := hSw; go_simp⟩) ?_
                      try simp only [Act.put, List.getElem_toArray, List.getElem_cons_zero, List.getElem_cons_succ, List.setIfInBounds_toArray, List.set_cons_zero, List.set_cons_succ]
                      refine wpTill_take (d := 18) (i := 17) (v := .slice (some ⟨g9, 0, none⟩) 3 c9) (S := fun w' => (w'.cell? ⟨g9, 0, none⟩ = some (.int .i64 a) ∧ w'.cell? ⟨g9, 1, none⟩ = some (.int .i64 b) ∧ w'.cell? ⟨g9, 2, none⟩ = some (.int .i64 c))) rfl (by kernel_rfl) (by kernel_rfl) (by kernel_rfl) (by kernel_rfl) (fun _ _ _ h => h) (fun _ _ _ h => h) (fun _ _ h => h) ⟨a0, a1, a2⟩ (Or.inl ⟨by rfl, fun w hSw => by obtain ⟨y0, y1, y2⟩ := hSw; go_simp⟩) ?_
                      try simp only [Act.put, List.getElem_toArray, List.getElem_cons_zero, List.getElem_cons_succ, List.setIfInBounds_toArray, List.set_cons_zero, List.set_cons_succ]
                      refine wpTill_take (d := 19) (i := 18) (v := .pointer (some ⟨g9, 1, none⟩)) (S := fun w' => (w'.cell? ⟨g9, 0, none⟩ = some (.int .i64 a) ∧ w'.cell? ⟨g9, 1, none⟩ = some (.int .i64 b) ∧ w'.cell? ⟨g9, 2, none⟩ = some (.int .i64 c))) rfl (by kernel_rfl) (by kernel_rfl) (by kernel_rfl) (by kernel_rfl) (fun _ _ _ h => h) (fun _ _ _ h => h) (fun _ _ h => h) ⟨a0, a1, a2⟩ (Or.inl ⟨by rfl, fun w hSw => by obtain ⟨y0, y1, y2⟩ := hSw; go_simp⟩) ?_
                      try simp only [Act.put, List.getElem_toArray, List.getElem_cons_zero, List.getElem_cons_succ, List.setIfInBounds_toArray, List.set_cons_zero, List.set_cons_succ]
                      refine wpTill_take (d := 20) (i := 19) (v := .int .i64 b) (S := fun w' => (w'.cell? ⟨g9, 0, none⟩ = some (.int .i64 a) ∧ w'.cell? ⟨g9, 1, none⟩ = some (.int .i64 b) ∧ w'.cell? ⟨g9, 2, none⟩ = some (.int .i64 c))) rfl (by kernel_rfl) (by kernel_rfl) (by kernel_rfl) (by kernel_rfl) (fun _ _ _ h => h) (fun _ _ _ h => h) (fun _ _ h => h) ⟨a0, a1, a2⟩ (Or.inl ⟨by rfl, fun w hSw => by obtain ⟨y0, y1, y2⟩ := hSw; go_simp⟩) ?_
                      try simp only [Act.put, List.getElem_toArray, List.getElem_cons_zero, List.getElem_cons_succ, List.setIfInBounds_toArray, List.set_cons_zero, List.set_cons_succ]
                      refine wpTill_ready (rs := [20]) (by kernel_rfl) (by simp) ?_
                      refine TillAll.cons rfl (fun K hK => ?_) TillAll.nil
                      go_simp
                      refine (HCK.out _).mono ?_
                      rintro e w21 ⟨rfl, hb21⟩
                      have HB21 := Lib.hid hb21
                      have HL21 := Lib.hid (HL9.out.drew.below hb21)
                      dsimp only
                      refine hK.out _ _ ⟨keepB a0 hb21, keepB a1 hb21, keepB a2 hb21⟩ ?_
                      try simp only [Act.put, List.getElem_toArray, List.getElem_cons_zero, List.getElem_cons_succ, List.setIfInBounds_toArray, List.set_cons_zero, List.set_cons_succ]
                      clear hK K
                      refine wpTill_ready (rs := [21]) (by kernel_rfl) (by simp) ?_
                      refine TillAll.cons rfl (fun K hK => ?_) TillAll.nil
                      go_simp
                      refine hK.out _ _ ⟨keepB a0 HB21.out, keepB a1 HB21.out, keepB a2 HB21.out⟩ ?_
                      try simp only [Act.put, List.getElem_toArray, List.getElem_cons_zero, List.getElem_cons_succ, List.setIfInBounds_toArray, List.set_cons_zero, List.set_cons_succ]
                      clear hK K
                      refine wpTill_ready (rs := [22]) (by kernel_rfl) (by simp) ?_
                      refine TillAll.cons rfl (fun K hK => ?_) TillAll.nil
                      go_simp
                      refine hK.out _ _ ⟨keepB a0 HB21.out, keepB a1 HB21.out, keepB a2 HB21.out⟩ ?_
                      try simp only [Act.put, List.getElem_toArray, List.getElem_cons_zero, List.getElem_cons_succ, List.setIfInBounds_toArray, List.set_cons_zero, List.set_cons_succ]
                      clear hK K
                      refine wpTill_done (by kernel_rfl) ?_ _
                      go_wp2_with fail
                      refine reg52 w w21 t _ (Nat.le_of_eq rfl) rfl rfl g9 c9 m a b c L hg5 rfl (keepB a0 HB21.out) (keepB a1 HB21.out) (keepB a2 HB21.out) hm6 HLBX.out (HRW.out _) HL21.out (fun A' W' hA hW => ?_)
                      go_wp2_with fail
                      exact line_end hA rfl hW HLL.out
                    · have HLL : Hid (Pr.lineL t s.data.toList = (Pr.nameL 1, t)) := Lib.hid (by
                        rw [HLG.out]
                        unfold Pr.doL
                        rw [if_neg (by decide), if_neg (by decide), if_pos rfl, if_neg (by simp; omega)]
                        rfl)
                      obtain ⟨R, hR⟩ : ∃ R : Int, R = ((Ph.cnt a.toNat b.toNat : Nat) : Int) := ⟨_, rfl⟩
                      rw [← hR] at hck hc9
                      have HCK := Lib.hid hck
                      have hc9' : R ≤ c := by omega
                      clear hR hrb hck hl1 h6 h8 ha hb hc hgB hg9
                      clear hsz HSZ HLE hxe hxw HLG HBDS HOA HNL HLNN HTK
                      go_wp2_with fail
                      replace a0 : w9.drew.cell? ⟨g9, 0, none⟩ = some (.int .i64 a) := a0
                      replace a1 : w9.drew.cell? ⟨g9, 1, none⟩ = some (.int .i64 b) := a1
                      replace a2 : w9.drew.cell? ⟨g9, 2, none⟩ = some (.int .i64 c) := a2
                      refine region_till (fun _ w' => (w'.cell? ⟨g9, 0, none⟩ = some (.int .i64 a) ∧ w'.cell? ⟨g9, 1, none⟩ = some (.int .i64 b) ∧ w'.cell? ⟨g9, 2, none⟩ = some (.int .i64 c))) (by kernel_rfl) ?_
                      refine wpTill_take (d := 1) (i := 0) (v := .slice (some ⟨g9, 0, none⟩) 3 c9) (S := fun w' => (w'.cell? ⟨g9, 0, none⟩ = some (.int .i64 a) ∧ w'.cell? ⟨g9, 1, none⟩ = some (.int .i64 b) ∧ w'.cell? ⟨g9, 2, none⟩ = some (.int .i64 c))) rfl (by kernel_rfl) (by kernel_rfl) (by kernel_rfl) (by kernel_rfl) (fun _ _ _ h => h) (fun _ _ _ h => h) (fun _ _ h => h) ⟨a0, a1, a2⟩ (Or.inl ⟨by rfl, fun w hSw => by obtain ⟨y0, y1, y2⟩ := hSw; go_simp⟩) ?_
                      try simp only [Act.put, List.getElem_toArray, List.getElem_cons_zero, List.setIfInBounds_toArray, List.set_cons_zero, List.set_cons_succ]
                      refine wpTill_take (d := 2) (i := 1) (v := .pointer (some ⟨g9, 0, none⟩)) (S := fun w' => (w'.cell? ⟨g9, 0, none⟩ = some (.int .i64 a) ∧ w'.cell? ⟨g9, 1, none⟩ = some (.int .i64 b) ∧ w'.cell? ⟨g9, 2, none⟩ = some (.int .i64 c))) rfl (by kernel_rfl) (by kernel_rfl) (by kernel_rfl) (by kernel_rfl) (fun _ _ _ h => h) (fun _ _ _ h => h) (fun _ _ h => h) ⟨a0, a1, a2⟩ (Or.inl ⟨by rfl, fun w hSw => by obtain ⟨y0, y1, y2⟩ := hSw; go_simp⟩) ?_
                      try simp only [Act.put, List.getElem_toArray, List.getElem_cons_zero, List.getElem_cons_succ, List.setIfInBounds_toArray, List.set_cons_zero, List.set_cons_succ]
                      refine wpTill_take (d := 3) (i := 2) (v := .int .i64 a) (S := fun w' => (w'.cell? ⟨g9, 0, none⟩ = some (.int .i64 a) ∧ w'.cell? ⟨g9, 1, none⟩ = some (.int .i64 b) ∧ w'.cell? ⟨g9, 2, none⟩ = some (.int .i64 c))) rfl (by kernel_rfl) (by kernel_rfl) (by kernel_rfl) (by kernel_rfl) (fun _ _ _ h => h) (fun _ _ _ h => h) (fun _ _ h => h) ⟨a0, a1, a2⟩ (Or.inl ⟨by rfl, fun w hSw => by obtain ⟨y0, y1, y2⟩ := hSw; go_simp⟩) ?_
                      try simp only [Act.put, List.getElem_toArray, List.getElem_cons_zero, List.getElem_cons_succ, List.setIfInBounds_toArray, List.set_cons_zero, List.set_cons_succ]
                      refine wpTill_take (d := 4) (i := 3) (v := .bool false) (S := fun w' => (w'.cell? ⟨g9, 0, none⟩ = some (.int .i64 a) ∧ w'.cell? ⟨g9, 1, none⟩ = some (.int .i64 b) ∧ w'.cell? ⟨g9, 2, none⟩ = some (.int .i64 c))) rfl (by kernel_rfl) (by kernel_rfl) (by kernel_rfl) (by kernel_rfl) (fun _ _ _ h => h) (fun _ _ _ h => h) (fun _ _ h => h) ⟨a0, a1, a2⟩ (Or.inl ⟨by rfl, fun w hSw => by obtain ⟨y0, y1, y2⟩ := hSw; go_simp⟩) ?_
                      try simp only [Act.put, List.getElem_toArray, List.getElem_cons_zero, List.getElem_cons_succ, List.setIfInBounds_toArray, List.set_cons_zero, List.set_cons_succ]
                      refine wpTill_take (d := 5) (i := 4) (v := .bool false) (S := fun w' => (w'.cell? ⟨g9, 0, none⟩ = some (.int .i64 a) ∧ w'.cell? ⟨g9, 1, none⟩ = some (.int .i64 b) ∧ w'.cell? ⟨g9, 2, none⟩ = some (.int .i64 c))) rfl (by kernel_rfl) (by kernel_rfl) (by kernel_rfl) (by kernel_rfl) (fun _ _ _ h => h) (fun _ _ _ h => h) (fun _ _ h => h) ⟨a0, a1, a2⟩ (Or.inl ⟨by rfl, fun w hSw => by obtain ⟨y0, y1, y2⟩ := hSw; go_simp⟩) ?_
                      try simp only [Act.put, List.getElem_toArray, List.getElem_cons_zero, List.getElem_cons_succ, List.setIfInBounds_toArray, List.set_cons_zero, List.set_cons_succ]
                      refine wpTill_take (d := 6) (i := 5) (v := .slice (some ⟨g9, 0, none⟩) 3 c9) (S := fun w' => (w'.cell? ⟨g9, 0, none⟩ = some (.int .i64 a) ∧ w'.cell? ⟨g9, 1, none⟩ = some (.int .i64 b) ∧ w'.cell? ⟨g9, 2, none⟩ = some (.int .i64 c))) rfl (by kernel_rfl) (by kernel_rfl) (by kernel_rfl) (by kernel_rfl) (fun _ _ _ h => h) (fun _ _ _ h => h) (fun _ _ h => h) ⟨a0, a1, a2⟩ (Or.inl ⟨by rfl, fun w hSw => by obtain ⟨y0, y1, y2⟩ := hSw; go_simp⟩) ?_
                      try simp only [Act.put, List.getElem_toArray, List.getElem_cons_zero, List.getElem_cons_succ, List.setIfInBounds_toArray, List.set_cons_zero, List.set_cons_succ]
                      refine wpTill_take (d := 7) (i := 6) (v := .pointer (some ⟨g9, 1, none⟩)) (S := fun w' => (w'.cell? ⟨g9, 0, none⟩ = some (.int .i64 a) ∧ w'.cell? ⟨g9, 1, none⟩ = some (.int .i64 b) ∧ w'.cell? ⟨g9, 2, none⟩ = some (.int .i64 c))) rfl (by kernel_rfl) (by kernel_rfl) (by kernel_rfl) (by kernel_rfl) (fun _ _ _ h => h) (fun _ _ _ h => h) (fun _ _ h => h) ⟨a0, a1, a2⟩ (Or.inl ⟨by rfl, fun w hSw => by obtain ⟨y0, y1, y2⟩ := hSw; go_simp⟩) ?_
                      try simp only [Act.put, List.getElem_toArray, List.getElem_cons_zero, List.getElem_cons_succ, List.setIfInBounds_toArray, List.set_cons_zero, List.set_cons_succ]
                      refine wpTill_take (d := 8) (i := 7) (v := .int .i64 b) (S := fun w' => (w'.cell? ⟨g9, 0, none⟩ = some (.int .i64 a) ∧ w'.cell? ⟨g9, 1, none⟩ = some (.int .i64 b) ∧ w'.cell? ⟨g9, 2, none⟩ = some (.int .i64 c))) rfl (by kernel_rfl) (by kernel_rfl) (by kernel_rfl) (by kernel_rfl) (fun _ _ _ h => h) (fun _ _ _ h => h) (fun _ _ h => h) ⟨a0, a1, a2⟩ (Or.inl ⟨by rfl, fun w hSw => by obtain ⟨y0, y1, y2⟩ := hSw; go_simp⟩) ?_
                      try simp only [Act.put, List.getElem_toArray, List.getElem_cons_zero, List.getElem_cons_succ, List.setIfInBounds_toArray, List.set_cons_zero, List.set_cons_succ]
                      refine wpTill_take (d := 9) (i := 8) (v := .bool false) (S := fun w' => (w'.cell? ⟨g9, 0, none⟩ = some (.int .i64 a) ∧ w'.cell? ⟨g9, 1, none⟩ = some (.int .i64 b) ∧ w'.cell? ⟨g9, 2, none⟩ = some (.int .i64 c))) rfl (by kernel_rfl) (by kernel_rfl) (by kernel_rfl) (by kernel_rfl) (fun _ _ _ h => h) (fun _ _ _ h => h) (fun _ _ h => h) ⟨a0, a1, a2⟩ (Or.inl ⟨by rfl, fun w hSw => by obtain ⟨y0, y1, y2⟩ := hSw; go_simp⟩) ?_
                      try simp only [Act.put, List.getElem_toArray, List.getElem_cons_zero, List.getElem_cons_succ, List.setIfInBounds_toArray, List.set_cons_zero, List.set_cons_succ]
                      refine wpTill_take (d := 10) (i := 9) (v := .bool false) (S := fun w' => (w'.cell? ⟨g9, 0, none⟩ = some (.int .i64 a) ∧ w'.cell? ⟨g9, 1, none⟩ = some (.int .i64 b) ∧ w'.cell? ⟨g9, 2, none⟩ = some (.int .i64 c))) rfl (by kernel_rfl) (by kernel_rfl) (by kernel_rfl) (by kernel_rfl) (fun _ _ _ h => h) (fun _ _ _ h => h) (fun _ _ h => h) ⟨a0, a1, a2⟩ (Or.inl ⟨by rfl, fun w hSw => by obtain ⟨y0, y1, y2⟩ := hSw; go_simp⟩) ?_
                      try simp only [Act.put, List.getElem_toArray, List.getElem_cons_zero, List.getElem_cons_succ, List.setIfInBounds_toArray, List.set_cons_zero, List.set_cons_succ]
                      refine wpTill_take (d := 11) (i := 10) (v := .bool false) (S := fun w' => (w'.cell? ⟨g9, 0, none⟩ = some (.int .i64 a) ∧ w'.cell? ⟨g9, 1, none⟩ = some (.int .i64 b) ∧ w'.cell? ⟨g9, 2, none⟩ = some (.int .i64 c))) rfl (by kernel_rfl) (by kernel_rfl) (by kernel_rfl) (by kernel_rfl) (fun _ _ _ h => h) (fun _ _ _ h => h) (fun _ _ h => h) ⟨a0, a1, a2⟩ (Or.inl ⟨by rfl, fun w hSw => by obtain ⟨y0, y1, y2⟩ := hSw; go_simp⟩) ?_
                      try simp only [Act.put, List.getElem_toArray, List.getElem_cons_zero, List.getElem_cons_succ, List.setIfInBounds_toArray, List.set_cons_zero, List.set_cons_succ]
                      refine wpTill_take (d := 12) (i := 11) (v := .slice (some ⟨g9, 0, none⟩) 3 c9) (S := fun w' => (w'.cell? ⟨g9, 0, none⟩ = some (.int .i64 a) ∧ w'.cell? ⟨g9, 1, none⟩ = some (.int .i64 b) ∧ w'.cell? ⟨g9, 2, none⟩ = some (.int .i64 c))) rfl (by kernel_rfl) (by kernel_rfl) (by kernel_rfl) (by kernel_rfl) (fun _ _ _ h => h) (fun _ _ _ h => h) (fun _ _ h => h) ⟨a0, a1, a2⟩ (Or.inl ⟨by rfl, fun w hSw => by obtain ⟨y0, y1, y2⟩ := hSw; go_simp⟩) ?_
                      try simp only [Act.put, List.getElem_toArray, List.getElem_cons_zero, List.getElem_cons_succ, List.setIfInBounds_toArray, List.set_cons_zero, List.set_cons_succ]
                      refine wpTill_take (d := 13) (i := 12) (v := .pointer (some ⟨g9, 2, none⟩)) (S := fun w' => (w'.cell? ⟨g9, 0, none⟩ = some (.int .i64 a) ∧ w'.cell? ⟨g9, 1, none⟩ = some (.int .i64 b) ∧ w'.cell? ⟨g9, 2, none⟩ = some (.int .i64 c))) rfl (by kernel_rfl) (by kernel_rfl) (by kernel_rfl) (by kernel_rfl) (fun _ _ _ h => h) (fun _ _ _ h => h) (fun _ _ h => h) ⟨a0, a1, a2⟩ (Or.inl ⟨by rfl, fun w hSw => by obtain ⟨y0, y1, y2⟩ := hSw; go_simp⟩) ?_
                      try simp only [Act.put, List.getElem_toArray, List.getElem_cons_zero, List.getElem_cons_succ, List.setIfInBounds_toArray, List.set_cons_zero, List.set_cons_succ]
                      refine wpTill_take (d := 21) (i := 13) (v := .int .i64 c) (S := fun w' => (w'.cell? ⟨g9, 0, none⟩ = some (.int .i64 a) ∧ w'.cell? ⟨g9, 1, none⟩ = some (.int .i64 b) ∧ w'.cell? ⟨g9, 2, none⟩ = some (.int .i64 c))) rfl (by kernel_rfl) (by kernel_rfl) (by kernel_rfl) (by kernel_rfl) (fun _ _ _ h => h) (fun _ _ _ h => h) (fun _ _ h => h) ⟨a0, a1, a2⟩ (Or.inl ⟨by rfl, fun w hSw => by obtain ⟨y0, y1, y2⟩ := hSw; go_simp⟩) ?_
                      try simp only [Act.put, List.getElem_toArray, List.getElem_cons_zero, List.getElem_cons_succ, List.setIfInBounds_toArray, List.set_cons_zero, List.set_cons_succ]
                      refine wpTill_take (d := 15) (i := 14) (v := .slice (some ⟨g9, 0, none⟩) 3 c9) (S := fun w' => (w'.cell? ⟨g9, 0, none⟩ = some (.int .i64 a) ∧ w'.cell? ⟨g9, 1, none⟩ = some (.int .i64 b) ∧ w'.cell? ⟨g9, 2, none⟩ = some (.int .i64 c))) rfl (by kernel_rfl) (by kernel_rfl) (by kernel_rfl) (by kernel_rfl) (fun _ _ _ h => h) (fun _ _ _ h => h) (fun _ _ h => h) ⟨a0, a1, a2⟩ (Or.inl ⟨by rfl, fun w hSw => by obtain ⟨y0, y1, y2⟩ := hSw; go_simp⟩) ?_
                      try simp only [Act.put, List.getElem_toArray, List.getElem_cons_zero, List.getElem_cons_succ, List.setIfInBounds_toArray, List.set_cons_zero, List.set_cons_succ]
                      refine wpTill_take (d := 16) (i := 15) (v := .pointer (some ⟨g9, 0, none⟩)) (S := fun w' => (w'.cell? ⟨g9, 0, none⟩ = some (.int .i64 a) ∧ w'.cell? ⟨g9, 1, none⟩ = some (.int .i64 b) ∧ w'.cell? ⟨g9, 2, none⟩ = some (.int .i64 c))) rfl (by kernel_rfl) (by kernel_rfl) (by kernel_rfl) (by kernel_rfl) (fun _ _ _ h => h) (fun _ _ _ h => h) (fun _ _ h => h) ⟨a0, a1, a2⟩ (Or.inl ⟨by rfl, fun w hSw => by obtain ⟨y0, y1, y2⟩ := hSw; go_simp⟩) ?_
                      try simp only [Act.put, List.getElem_toArray, List.getElem_cons_zero, List.getElem_cons_succ, List.setIfInBounds_toArray, List.set_cons_zero, List.set_cons_succ]
                      refine wpTill_take (d := 20) (i := 16) (v := .int .i64 a) (S := fun w' => (w'.cell? ⟨g9, 0, none⟩ = some (.int .i64 a) ∧ w'.cell? ⟨g9, 1, none⟩ = some (.int .i64 b) ∧ w'.cell? ⟨g9, 2, none⟩ = some (.int .i64 c))) rfl (by kernel_rfl) (by kernel_rfl) (by kernel_rfl) (by kernel_rfl) (fun _ _ _ h => h) (fun _ _ _ h => h) (fun _ _ h => h) ⟨a0, a1, a2⟩ (Or.inl ⟨by rfl, fun w hSw => by obtain ⟨y0, y1, y2⟩ := hSw; go_simp⟩) ?_
                      try simp only [Act.put, List.getElem_toArray, List.getElem_cons_zero, List.getElem_cons_succ, List.setIfInBounds_toArray, List.set_cons_zero, List.set_cons_succ]
                      refine wpTill_take (d := 18) (i := 17) (v := .slice (some ⟨g9, 0, none⟩) 3 c9) (S := fun w' => (w'.cell? ⟨g9, 0, none⟩ = some (.int .i64 a) ∧ w'.cell? ⟨g9, 1, none⟩ = some (.int .i64 b) ∧ w'.cell? ⟨g9, 2, none⟩ = some (.int .i64 c))) rfl (by kernel_rfl) (by kernel_rfl) (by kernel_rfl) (by kernel_rfl) (fun _ _ _ h => h) (fun _ _ _ h => h) (fun _ _ h => h) ⟨a0, a1, a2⟩ (Or.inl ⟨by rfl, fun w hSw => by obtain ⟨y0, y1, y2⟩ := hSw; go_simp⟩) ?_
                      try simp only [Act.put, List.getElem_toArray, List.getElem_cons_zero, List.getElem_cons_succ, List.setIfInBounds_toArray, List.set_cons_zero, List.set_cons_succ]
                      refine wpTill_take (d := 19) (i := 18) (v := .pointer (some ⟨g9, 1, none⟩)) (S := fun w' => (w'.cell? ⟨g9, 0, none⟩ = some (.int .i64 a) ∧ w'.cell? ⟨g9, 1, none⟩ = some (.int .i64 b) ∧ w'.cell? ⟨g9, 2, none⟩ = some (.int .i64 c))) rfl (by kernel_rfl) (by kernel_rfl) (by kernel_rfl) (by kernel_rfl) (fun _ _ _ h => h) (fun _ _ _ h => h) (fun _ _ h => h) ⟨a0, a1, a2⟩ (Or.inl ⟨by rfl, fun w hSw => by obtain ⟨y0, y1, y2⟩ := hSw; go_simp⟩) ?_
                      try simp only [Act.put, List.getElem_toArray, List.getElem_cons_zero, List.getElem_cons_succ, List.setIfInBounds_toArray, List.set_cons_zero, List.set_cons_succ]
                      refine wpTill_take (d := 20) (i := 19) (v := .int .i64 b) (S := fun w' => (w'.cell? ⟨g9, 0, none⟩ = some (.int .i64 a) ∧ w'.cell? ⟨g9, 1, none⟩ = some (.int .i64 b) ∧ w'.cell? ⟨g9, 2, none⟩ = some (.int .i64 c))) rfl (by kernel_rfl) (by kernel_rfl) (by kernel_rfl) (by kernel_rfl) (fun _ _ _ h => h) (fun _ _ _ h => h) (fun _ _ h => h) ⟨a0, a1, a2⟩ (Or.inl ⟨by rfl, fun w hSw => by obtain ⟨y0, y1, y2⟩ := hSw; go_simp⟩) ?_
                      try simp only [Act.put, List.getElem_toArray, List.getElem_cons_zero, List.getElem_cons_succ, List.setIfInBounds_toArray, List.set_cons_zero, List.set_cons_succ]
                      refine wpTill_ready (rs := [20]) (by kernel_rfl) (by simp) ?_
                      refine TillAll.cons rfl (fun K hK => ?_) TillAll.nil
                      go_simp
                      refine (HCK.out _).mono ?_
                      rintro e w21 ⟨rfl, hb21⟩
                      have HB21 := Lib.hid hb21
                      have HL21 := Lib.hid (HL9.out.drew.below hb21)
                      dsimp only
                      refine hK.out _ _ ⟨keepB a0 hb21, keepB a1 hb21, keepB a2 hb21⟩ ?_
                      try simp only [Act.put, List.getElem_toArray, List.getElem_cons_zero, List.getElem_cons_succ, List.setIfInBounds_toArray, List.set_cons_zero, List.set_cons_succ]
                      clear hK K
                      refine wpTill_ready (rs := [21]) (by kernel_rfl) (by simp) ?_
                      refine TillAll.cons rfl (fun K hK => ?_) TillAll.nil
                      go_simp
                      refine hK.out _ _ ⟨keepB a0 HB21.out, keepB a1 HB21.out, keepB a2 HB21.out⟩ ?_
                      try simp only [Act.put, List.getElem_toArray, List.getElem_cons_zero, List.getElem_cons_succ, List.setIfInBounds_toArray, List.set_cons_zero, List.set_cons_succ]
                      clear hK K
                      refine wpTill_ready (rs := [22]) (by kernel_rfl) (by simp) ?_
                      refine TillAll.cons rfl (fun K hK => ?_) TillAll.nil
                      go_simp
                      refine hK.out _ _ ⟨keepB a0 HB21.out, keepB a1 HB21.out, keepB a2 HB21.out⟩ ?_
                      try simp only [Act.put, List.getElem_toArray, List.getElem_cons_zero, List.getElem_cons_succ, List.setIfInBounds_toArray, List.set_cons_zero, List.set_cons_succ]
                      clear hK K
                      refine wpTill_done (by kernel_rfl) ?_ _
                      go_wp2_with fail
                      refine reg51 w w21 t _ (Nat.le_of_eq rfl) rfl rfl  HL21.out (fun A' W' hA hW => ?_)
                      go_wp2_with fail
                      exact line_end hA rfl hW HLL.out
                  · have HLL : Hid (Pr.lineL t s.data.toList = (Pr.nameL 1, t)) := Lib.hid (by
                      rw [HLG.out]
                      unfold Pr.doL
                      rw [if_neg (by decide), if_neg (by decide), if_pos rfl, if_neg (by simp; omega)]
                      rfl)
                    have h6' : ¬ 6 < a := by omega
                    have h8' : 8 < b := by omega
                    clear hl1 h6 h8 ha hb hc hgB hg9
                    clear hsz HSZ HLE hxe hxw HLG HBDS HOA HNL HLNN HTK
                    go_wp2_with fail
                    replace a0 : w9.drew.cell? ⟨g9, 0, none⟩ = some (.int .i64 a) := a0
                    replace a1 : w9.drew.cell? ⟨g9, 1, none⟩ = some (.int .i64 b) := a1
                    replace a2 : w9.drew.cell? ⟨g9, 2, none⟩ = some (.int .i64 c) := a2
                    refine region_till (fun _ w' => (w'.cell? ⟨g9, 0, none⟩ = some (.int .i64 a) ∧ w'.cell? ⟨g9, 1, none⟩ = some (.int .i64 b) ∧ w'.cell? ⟨g9, 2, none⟩ = some (.int .i64 c))) (by kernel_rfl) ?_
                    refine wpTill_take (d := 1) (i := 0) (v := .slice (some ⟨g9, 0, none⟩) 3 c9) (S := fun w' => (w'.cell? ⟨g9, 0, none⟩ = some (.int .i64 a) ∧ w'.cell? ⟨g9, 1, none⟩ = some (.int .i64 b) ∧ w'.cell? ⟨g9, 2, none⟩ = some (.int .i64 c))) rfl (by kernel_rfl) (by kernel_rfl) (by kernel_rfl) (by kernel_rfl) (fun _ _ _ h => h) (fun _ _ _ h => h) (fun _ _ h => h) ⟨a0, a1, a2⟩ (Or.inl ⟨by rfl, fun w hSw => by obtain ⟨y0, y1, y2⟩ := hSw; go_simp⟩) ?_
                    try simp only [Act.put, List.getElem_toArray, List.getElem_cons_zero, List.setIfInBounds_toArray, List.set_cons_zero, List.set_cons_succ]
                    refine wpTill_take (d := 2) (i := 1) (v := .pointer (some ⟨g9, 0, none⟩)) (S := fun w' => (w'.cell? ⟨g9, 0, none⟩ = some (.int .i64 a) ∧ w'.cell? ⟨g9, 1, none⟩ = some (.int .i64 b) ∧ w'.cell? ⟨g9, 2, none⟩ = some (.int .i64 c))) rfl (by kernel_rfl) (by kernel_rfl) (by kernel_rfl) (by kernel_rfl) (fun _ _ _ h => h) (fun _ _ _ h => h) (fun _ _ h => h) ⟨a0, a1, a2⟩ (Or.inl ⟨by rfl, fun w hSw => by obtain ⟨y0, y1, y2⟩ := hSw; go_simp⟩) ?_
                    try simp only [Act.put, List.getElem_toArray, List.getElem_cons_zero, List.getElem_cons_succ, List.setIfInBounds_toArray, List.set_cons_zero, List.set_cons_succ]
                    refine wpTill_take (d := 3) (i := 2) (v := .int .i64 a) (S := fun w' => (w'.cell? ⟨g9, 0, none⟩ = some (.int .i64 a) ∧ w'.cell? ⟨g9, 1, none⟩ = some (.int .i64 b) ∧ w'.cell? ⟨g9, 2, none⟩ = some (.int .i64 c))) rfl (by kernel_rfl) (by kernel_rfl) (by kernel_rfl) (by kernel_rfl) (fun _ _ _ h => h) (fun _ _ _ h => h) (fun _ _ h => h) ⟨a0, a1, a2⟩ (Or.inl ⟨by rfl, fun w hSw => by obtain ⟨y0, y1, y2⟩ := hSw; go_simp⟩) ?_
                    try simp only [Act.put, List.getElem_toArray, List.getElem_cons_zero, List.getElem_cons_succ, List.setIfInBounds_toArray, List.set_cons_zero, List.set_cons_succ]
                    refine wpTill_take (d := 4) (i := 3) (v := .bool false) (S := fun w' => (w'.cell? ⟨g9, 0, none⟩ = some (.int .i64 a) ∧ w'.cell? ⟨g9, 1, none⟩ = some (.int .i64 b) ∧ w'.cell? ⟨g9, 2, none⟩ = some (.int .i64 c))) rfl (by kernel_rfl) (by kernel_rfl) (by kernel_rfl) (by kernel_rfl) (fun _ _ _ h => h) (fun _ _ _ h => h) (fun _ _ h => h) ⟨a0, a1, a2⟩ (Or.inl ⟨by rfl, fun w hSw => by obtain ⟨y0, y1, y2⟩ := hSw; go_simp⟩) ?_
                    try simp only [Act.put, List.getElem_toArray, List.getElem_cons_zero, List.getElem_cons_succ, List.setIfInBounds_toArray, List.set_cons_zero, List.set_cons_succ]
                    refine wpTill_take (d := 5) (i := 4) (v := .bool false) (S := fun w' => (w'.cell? ⟨g9, 0, none⟩ = some (.int .i64 a) ∧ w'.cell? ⟨g9, 1, none⟩ = some (.int .i64 b) ∧ w'.cell? ⟨g9, 2, none⟩ = some (.int .i64 c))) rfl (by kernel_rfl) (by kernel_rfl) (by kernel_rfl) (by kernel_rfl) (fun _ _ _ h => h) (fun _ _ _ h => h) (fun _ _ h => h) ⟨a0, a1, a2⟩ (Or.inl ⟨by rfl, fun w hSw => by obtain ⟨y0, y1, y2⟩ := hSw; go_simp⟩) ?_
                    try simp only [Act.put, List.getElem_toArray, List.getElem_cons_zero, List.getElem_cons_succ, List.setIfInBounds_toArray, List.set_cons_zero, List.set_cons_succ]
                    refine wpTill_take (d := 6) (i := 5) (v := .slice (some ⟨g9, 0, none⟩) 3 c9) (S := fun w' => (w'.cell? ⟨g9, 0, none⟩ = some (.int .i64 a) ∧ w'.cell? ⟨g9, 1, none⟩ = some (.int .i64 b) ∧ w'.cell? ⟨g9, 2, none⟩ = some (.int .i64 c))) rfl (by kernel_rfl) (by kernel_rfl) (by kernel_rfl) (by kernel_rfl) (fun _ _ _ h => h) (fun _ _ _ h => h) (fun _ _ h => h) ⟨a0, a1, a2⟩ (Or.inl ⟨by rfl, fun w hSw => by obtain ⟨y0, y1, y2⟩ := hSw; go_simp⟩) ?_
                    try simp only [Act.put, List.getElem_toArray, List.getElem_cons_zero, List.getElem_cons_succ, List.setIfInBounds_toArray, List.set_cons_zero, List.set_cons_succ]
                    refine wpTill_take (d := 7) (i := 6) (v := .pointer (some ⟨g9, 1, none⟩)) (S := fun w' => (w'.cell? ⟨g9, 0, none⟩ = some (.int .i64 a) ∧ w'.cell? ⟨g9, 1, none⟩ = some (.int .i64 b) ∧ w'.cell? ⟨g9, 2, none⟩ = some (.int .i64 c))) rfl (by kernel_rfl) (by kernel_rfl) (by kernel_rfl) (by kernel_rfl) (fun _ _ _ h => h) (fun _ _ _ h => h) (fun _ _ h => h) ⟨a0, a1, a2⟩ (Or.inl ⟨by rfl, fun w hSw => by obtain ⟨y0, y1, y2⟩ := hSw; go_simp⟩) ?_
                    try simp only [Act.put, List.getElem_toArray, List.getElem_cons_zero, List.getElem_cons_succ, List.setIfInBounds_toArray, List.set_cons_zero, List.set_cons_succ]
                    refine wpTill_take (d := 8) (i := 7) (v := .int .i64 b) (S := fun w' => (w'.cell? ⟨g9, 0, none⟩ = some (.int .i64 a) ∧ w'.cell? ⟨g9, 1, none⟩ = some (.int .i64 b) ∧ w'.cell? ⟨g9, 2, none⟩ = some (.int .i64 c))) rfl (by kernel_rfl) (by kernel_rfl) (by kernel_rfl) (by kernel_rfl) (fun _ _ _ h => h) (fun _ _ _ h => h) (fun _ _ h => h) ⟨a0, a1, a2⟩ (Or.inl ⟨by rfl, fun w hSw => by obtain ⟨y0, y1, y2⟩ := hSw; go_simp⟩) ?_
                    try simp only [Act.put, List.getElem_toArray, List.getElem_cons_zero, List.getElem_cons_succ, List.setIfInBounds_toArray, List.set_cons_zero, List.set_cons_succ]
                    refine wpTill_take (d := 9) (i := 8) (v := .bool true) (S := fun w' => (w'.cell? ⟨g9, 0, none⟩ = some (.int .i64 a) ∧ w'.cell? ⟨g9, 1, none⟩ = some (.int .i64 b) ∧ w'.cell? ⟨g9, 2, none⟩ = some (.int .i64 c))) rfl (by kernel_rfl) (by kernel_rfl) (by kernel_rfl) (by kernel_rfl) (fun _ _ _ h => h) (fun _ _ _ h => h) (fun _ _ h => h) ⟨a0, a1, a2⟩ (Or.inl ⟨by rfl, fun w hSw => by obtain ⟨y0, y1, y2⟩ := hSw; go_simp⟩) ?_
                    try simp only [Act.put, List.getElem_toArray, List.getElem_cons_zero, List.getElem_cons_succ, List.setIfInBounds_toArray, List.set_cons_zero, List.set_cons_succ]
                    refine wpTill_take (d := 10) (i := 9) (v := .bool true) (S := fun w' => (w'.cell? ⟨g9, 0, none⟩ = some (.int .i64 a) ∧ w'.cell? ⟨g9, 1, none⟩ = some (.int .i64 b) ∧ w'.cell? ⟨g9, 2, none⟩ = some (.int .i64 c))) rfl (by kernel_rfl) (by kernel_rfl) (by kernel_rfl) (by kernel_rfl) (fun _ _ _ h => h) (fun _ _ _ h => h) (fun _ _ h => h) ⟨a0, a1, a2⟩ (Or.inl ⟨by rfl, fun w hSw => by obtain ⟨y0, y1, y2⟩ := hSw; go_simp⟩) ?_
                    try simp only [Act.put, List.getElem_toArray, List.getElem_cons_zero, List.getElem_cons_succ, List.setIfInBounds_toArray, List.set_cons_zero, List.set_cons_succ]
                    refine wpTill_take (d := 11) (i := 10) (v := .bool true) (S := fun w' => (w'.cell? ⟨g9, 0, none⟩ = some (.int .i64 a) ∧ w'.cell? ⟨g9, 1, none⟩ = some (.int .i64 b) ∧ w'.cell? ⟨g9, 2, none⟩ = some (.int .i64 c))) rfl (by kernel_rfl) (by kernel_rfl) (by kernel_rfl) (by kernel_rfl) (fun _ _ _ h => h) (fun _ _ _ h => h) (fun _ _ h => h) ⟨a0, a1, a2⟩ (Or.inl ⟨by rfl, fun w hSw => by obtain ⟨y0, y1, y2⟩ := hSw; go_simp⟩) ?_
                    try simp only [Act.put, List.getElem_toArray, List.getElem_cons_zero, List.getElem_cons_succ, List.setIfInBounds_toArray, List.set_cons_zero, List.set_cons_succ]
                    refine wpTill_take (d := 12) (i := 11) (v := undef) (S := fun w' => (w'.cell? ⟨g9, 0, none⟩ = some (.int .i64 a) ∧ w'.cell? ⟨g9, 1, none⟩ = some (.int .i64 b) ∧ w'.cell? ⟨g9, 2, none⟩ = some (.int .i64 c))) rfl (by kernel_rfl) (by kernel_rfl) (by kernel_rfl) (by kernel_rfl) (fun _ _ _ h => h) (fun _ _ _ h => h) (fun _ _ h => h) ⟨a0, a1, a2⟩ (Or.inr ⟨by rfl, rfl⟩) ?_
                    try simp only [Act.put, List.getElem_toArray, List.getElem_cons_zero, List.getElem_cons_succ, List.setIfInBounds_toArray, List.set_cons_zero, List.set_cons_succ]
                    refine wpTill_take (d := 13) (i := 12) (v := undef) (S := fun w' => (w'.cell? ⟨g9, 0, none⟩ = some (.int .i64 a) ∧ w'.cell? ⟨g9, 1, none⟩ = some (.int .i64 b) ∧ w'.cell? ⟨g9, 2, none⟩ = some (.int .i64 c))) rfl (by kernel_rfl) (by kernel_rfl) (by kernel_rfl) (by kernel_rfl) (fun _ _ _ h => h) (fun _ _ _ h => h) (fun _ _ h => h) ⟨a0, a1, a2⟩ (Or.inr ⟨by rfl, rfl⟩) ?_
                    try simp only [Act.put, List.getElem_toArray, List.getElem_cons_zero, List.getElem_cons_succ, List.setIfInBounds_toArray, List.set_cons_zero, List.set_cons_succ]
                    refine wpTill_take (d := 21) (i := 13) (v := undef) (S := fun w' => (w'.cell? ⟨g9, 0, none⟩ = some (.int .i64 a) ∧ w'.cell? ⟨g9, 1, none⟩ = some (.int .i64 b) ∧ w'.cell? ⟨g9, 2, none⟩ = some (.int .i64 c))) rfl (by kernel_rfl) (by kernel_rfl) (by kernel_rfl) (by kernel_rfl) (fun _ _ _ h => h) (fun _ _ _ h => h) (fun _ _ h => h) ⟨a0, a1, a2⟩ (Or.inr ⟨by rfl, rfl⟩) ?_
                    try simp only [Act.put, List.getElem_toArray, List.getElem_cons_zero, List.getElem_cons_succ, List.setIfInBounds_toArray, List.set_cons_zero, List.set_cons_succ]
                    refine wpTill_take (d := 15) (i := 14) (v := undef) (S := fun w' => (w'.cell? ⟨g9, 0, none⟩ = some (.int .i64 a) ∧ w'.cell? ⟨g9, 1, none⟩ = some (.int .i64 b) ∧ w'.cell? ⟨g9, 2, none⟩ = some (.int .i64 c))) rfl (by kernel_rfl) (by kernel_rfl) (by kernel_rfl) (by kernel_rfl) (fun _ _ _ h => h) (fun _ _ _ h => h) (fun _ _ h => h) ⟨a0, a1, a2⟩ (Or.inr ⟨by rfl, rfl⟩) ?_
                    try simp only [Act.put, List.getElem_toArray, List.getElem_cons_zero, List.getElem_cons_succ, List.setIfInBounds_toArray, List.set_cons_zero, List.set_cons_succ]
                    refine wpTill_take (d := 16) (i := 15) (v := undef) (S := fun w' => (w'.cell? ⟨g9, 0, none⟩ = some (.int .i64 a) ∧ w'.cell? ⟨g9, 1, none⟩ = some (.int .i64 b) ∧ w'.cell? ⟨g9, 2, none⟩ = some (.int .i64 c))) rfl (by kernel_rfl) (by kernel_rfl) (by kernel_rfl) (by kernel_rfl) (fun _ _ _ h => h) (fun _ _ _ h => h) (fun _ _ h => h) ⟨a0, a1, a2⟩ (Or.inr ⟨by rfl, rfl⟩) ?_
                    try simp only [Act.put, List.getElem_toArray, List.getElem_cons_zero, List.getElem_cons_succ, List.setIfInBounds_toArray, List.set_cons_zero, List.set_cons_succ]
                    refine wpTill_take (d := 20) (i := 16) (v := undef) (S := fun w' => (w'.cell? ⟨g9, 0, none⟩ = some (.int .i64 a) ∧ w'.cell? ⟨g9, 1, none⟩ = some (.int .i64 b) ∧ w'.cell? ⟨g9, 2, none⟩ = some (.int .i64 c))) rfl (by kernel_rfl) (by kernel_rfl) (by kernel_rfl) (by kernel_rfl) (fun _ _ _ h => h) (fun _ _ _ h => h) (fun _ _ h => h) ⟨a0, a1, a2⟩ (Or.inr ⟨by rfl, rfl⟩) ?_
                    try simp only [Act.put, List.getElem_toArray, List.getElem_cons_zero, List.getElem_cons_succ, List.setIfInBounds_toArray, List.set_cons_zero, List.set_cons_succ]
                    refine wpTill_take (d := 18) (i := 17) (v := undef) (S := fun w' => (w'.cell? ⟨g9, 0, none⟩ = some (.int .i64 a) ∧ w'.cell? ⟨g9, 1, none⟩ = some (.int .i64 b) ∧ w'.cell? ⟨g9, 2, none⟩ = some (.int .i64 c))) rfl (by kernel_rfl) (by kernel_rfl) (by kernel_rfl) (by kernel_rfl) (fun _ _ _ h => h) (fun _ _ _ h => h) (fun _ _ h => h) ⟨a0, a1, a2⟩ (Or.inr ⟨by rfl, rfl⟩) ?_
                    try simp only [Act.put, List.getElem_toArray, List.getElem_cons_zero, List.getElem_cons_succ, List.setIfInBounds_toArray, List.set_cons_zero, List.set_cons_succ]
                    refine wpTill_take (d := 19) (i := 18) (v := undef) (S := fun w' => (w'.cell? ⟨g9, 0, none⟩ = some (.int .i64 a) ∧ w'.cell? ⟨g9, 1, none⟩ = some (.int .i64 b) ∧ w'.cell? ⟨g9, 2, none⟩ = some (.int .i64 c))) rfl (by kernel_rfl) (by kernel_rfl) (by kernel_rfl) (by kernel_rfl) (fun _ _ _ h => h) (fun _ _ _ h => h) (fun _ _ h => h) ⟨a0, a1, a2⟩ (Or.inr ⟨by rfl, rfl⟩) ?_
                    try simp only [Act.put, List.getElem_toArray, List.getElem_cons_zero, List.getElem_cons_succ, List.setIfInBounds_toArray, List.set_cons_zero, List.set_cons_succ]
                    refine wpTill_take (d := 20) (i := 19) (v := undef) (S := fun w' => (w'.cell? ⟨g9, 0, none⟩ = some (.int .i64 a) ∧ w'.cell? ⟨g9, 1, none⟩ = some (.int .i64 b) ∧ w'.cell? ⟨g9, 2, none⟩ = some (.int .i64 c))) rfl (by kernel_rfl) (by kernel_rfl) (by kernel_rfl) (by kernel_rfl) (fun _ _ _ h => h) (fun _ _ _ h => h) (fun _ _ h => h) ⟨a0, a1, a2⟩ (Or.inr ⟨by rfl, rfl⟩) ?_
                    try simp only [Act.put, List.getElem_toArray, List.getElem_cons_zero, List.getElem_cons_succ, List.setIfInBounds_toArray, List.set_cons_zero, List.set_cons_succ]
                    refine wpTill_take (d := 21) (i := 20) (v := undef) (S := fun w' => (w'.cell? ⟨g9, 0, none⟩ = some (.int .i64 a) ∧ w'.cell? ⟨g9, 1, none⟩ = some (.int .i64 b) ∧ w'.cell? ⟨g9, 2, none⟩ = some (.int .i64 c))) rfl (by kernel_rfl) (by kernel_rfl) (by kernel_rfl) (by kernel_rfl) (fun _ _ _ h => h) (fun _ _ _ h => h) (fun _ _ h => h) ⟨a0, a1, a2⟩ (Or.inr ⟨by rfl, rfl⟩) ?_
                    try simp only [Act.put, List.getElem_toArray, List.getElem_cons_zero, List.getElem_cons_succ, List.setIfInBounds_toArray, List.set_cons_zero, List.set_cons_succ]
                    refine wpTill_take (d := 22) (i := 21) (v := undef) (S := fun w' => (w'.cell? ⟨g9, 0, none⟩ = some (.int .i64 a) ∧ w'.cell? ⟨g9, 1, none⟩ = some (.int .i64 b) ∧ w'.cell? ⟨g9, 2, none⟩ = some (.int .i64 c))) rfl (by kernel_rfl) (by kernel_rfl) (by kernel_rfl) (by kernel_rfl) (fun _ _ _ h => h) (fun _ _ _ h => h) (fun _ _ h => h) ⟨a0, a1, a2⟩ (Or.inr ⟨by rfl, rfl⟩) ?_
                    try simp only [Act.put, List.getElem_toArray, List.getElem_cons_zero, List.getElem_cons_succ, List.setIfInBounds_toArray, List.set_cons_zero, List.set_cons_succ]
                    refine wpTill_ready (rs := [22]) (by kernel_rfl) (by simp) ?_
                    refine TillAll.cons rfl (fun K hK => ?_) TillAll.nil
                    go_simp
                    refine hK.out _ _ ⟨a0, a1, a2⟩ ?_
                    try simp only [Act.put, List.getElem_toArray, List.getElem_cons_zero, List.getElem_cons_succ, List.setIfInBounds_toArray, List.set_cons_zero, List.set_cons_succ]
                    clear hK K
                    refine wpTill_done (by kernel_rfl) ?_ _
                    go_wp2_with fail
                    refine reg51 w _ t _ (Nat.le_of_eq rfl) rfl rfl  (HL9.out.below ⟨rfl, rfl, rfl, Nat.le_refl _, fun _ _ => rfl⟩) (fun A' W' hA hW => ?_)
                    go_wp2_with fail
                    exact line_end hA rfl hW HLL.out
                · have HLL : Hid (Pr.lineL t s.data.toList = (Pr.nameL 1, t)) := Lib.hid (by
                    rw [HLG.out]
                    unfold Pr.doL
                    rw [if_neg (by decide), if_neg (by decide), if_pos rfl, if_neg (by simp; omega)]
                    rfl)
                  have h6' : 6 < a := by omega
                  clear hl1 h6 ha hb hc hgB hg9
                  clear hsz HSZ HLE hxe hxw HLG HBDS HOA HNL HLNN HTK
                  go_wp2_with fail
                  go_quiet (fail)
                  go_wp2_with fail
                  refine reg51 w _ t _ (Nat.le_of_eq rfl) rfl rfl  (HL9.out.below ⟨rfl, rfl, rfl, Nat.le_refl _, fun _ _ => rfl⟩) (fun A' W' hA hW => ?_)
                  go_wp2_with fail
                  exact line_end hA rfl hW HLL.out
            · as_aux_lemma =>
                have e1 := word_ne (m := [99, 111, 117, 110, 116]) hsz (by decide)
                have e2 := word_ne (m := [114, 97, 110, 107]) hsz (by decide)
                have e3 := word_ne (m := [114, 111, 119]) hsz (by decide)
                have e4 := word_eq (m := [110, 101, 97, 114]) hsz (by decide)
                have hl1 : 2 ≤ ns.length := by
                  have h := HOA.out
                  rw [hxw, hxe] at h
                  unfold Pr.okArgs at h
                  simp at h
                  omega
                obtain ⟨k, v, rfl⟩ : ∃ k v, ns = k :: v := by
                  cases ns with
                  | nil => simp at hl1
                  | cons k v => exact ⟨k, v, rfl⟩
                have hk : 0 ≤ k ∧ k ≤ 9999 := ⟨by have := (HBDS.out 0 (by simp)).2.2 (by rw [hxw, hxe]; show 0 + 0 < 1; omega); simpa using this, by simpa using (HBDS.out 0 (by simp)).2.1⟩
                have hnl9 := HNL.out
                have hn2 : 2 ≤ n9 := by omega
                have hcap := own_cap HO9.out
                have hcc : ¬ c9 = 1 := by omega
                obtain ⟨g9, rfl, hgB, hg9⟩ := own_form HO9.out (by omega)
                have hg5 : g9 ≠ w.heap.size + 1 := by have := HLW9.out; omega
                have a0 : w9.cell? ⟨g9, 0, none⟩ = some (.int .i64 k) := HO9.out.cellAt 0 (by omega)
                have i0 : (0 : Int) < (n9 : Int) := by omega
                have i1 : (1 : Int) ≤ (n9 : Int) := by omega
                have i2 : (n9 : Int) ≤ (c9 : Int) := by omega
                have i3 : (1 : Int) ≤ (c9 : Int) := by omega
                have i5 : 0 < n9 := by omega
                have hrv : RdI w9 w9.heap.size (some ⟨g9, 1, none⟩) (n9 - 1) v := by
                  refine ⟨by rw [ivals_length]; simp at hnl9; omega, fun _ => ⟨g9, 1, rfl, hg9, fun j hj => ?_⟩⟩
                  have := HO9.out.cellAt (j + 1) (by omega)
                  rw [show 1 + j = j + 1 by omega, this]
                  simp [ivals]
                have hvl : v.length = n9 - 1 := by simp at hnl9; omega
                have hn9 : n9 ≤ 3001 := by have := HLNN.out; omega
                have hdl : Pr.doL Pr.wNear t (k :: v) = (Pr.nearE v k, Ph.near v k, t) := by
                  unfold Pr.doL
                  rw [if_neg (by decide), if_neg (by decide), if_neg (by decide), if_pos rfl]
                  rfl
                have HEV : Hid (∀ E : Int, E ≠ 0 → Pr.nearE v k = E → Pr.lineL t s.data.toList = (Pr.nameL E, t)) := Lib.hid fun E h0 h => by
                  rw [HLG.out, hdl, h]
                  unfold Pr.ansL
                  rw [if_neg h0]
                have HSN := Lib.hid (rsound_any (some ⟨g9, 1, none⟩) (n9 - 1) (c9 - 1) v w9 w9.heap.size hrv (by omega))
                by_cases h6 : 6 < v.length
                · have HLL : Hid (Pr.lineL t s.data.toList = (Pr.nameL 4, t)) := Lib.hid (HEV.out 4 (by omega) (by unfold Pr.nearE; rw [if_pos h6]))
                  have h7 : (7 : Int) < (n9 : Int) := by omega
                  clear hl1 hk hnl9 hn2 hcap hgB hg9 hrv hvl hn9 hdl HEV HSN h6
                  clear hsz HSZ HLE hxe hxw HLG HBDS HOA HNL HLNN HTK
                  go_wp2_with fail
                  refine reg63 w w9 t _ (Nat.le_of_eq rfl) rfl rfl 4 (.inr (.inl rfl)) rfl HL9.out (fun A' W' hA hW => ?_)
                  go_wp2_with fail
                  exact line_end hA rfl hW HLL.out
                · have h7 : ¬ (7 : Int) < (n9 : Int) := by omega
                  by_cases hs0 : Ph.soundErr v = 0
                  · rw [hs0] at HSN
                    by_cases h8 : 8 < k
                    · have HLL : Hid (Pr.lineL t s.data.toList = (Pr.nameL 1, t)) := Lib.hid (HEV.out 1 (by omega) (by unfold Pr.nearE; rw [if_neg h6, if_neg (fun h => h hs0), if_pos (.inr h8)]))
                      clear hl1 hk hnl9 hn2 hcap hgB hg9 hrv hvl hn9 hdl HEV h6 hs0
                      clear hsz HSZ HLE hxe hxw HLG HBDS HOA HNL HLNN HTK
                      go_wp2_with fail
                      refine HSN.out.mono ?_
                      rintro e wq ⟨rfl, rfl⟩
                      go_wp2_with fail
                      refine reg63 w _ t _ (Nat.le_of_eq rfl) rfl rfl 1 (.inl rfl) rfl HL9.out (fun A' W' hA hW => ?_)
                      go_wp2_with fail
                      exact line_end hA rfl hW HLL.out
                    · have hal := Ph.allIn_mono (m' := 8000) (Ph.soundErr_zero.1 hs0).2 (by omega)
                      have hnx : Pr.nearE v k = if 0 < k ∧ Ph.loud v = 0 then 5 else 0 := by unfold Pr.nearE; rw [if_neg h6, if_neg (fun h => h hs0), if_neg (by omega)]
                      by_cases hk0 : 0 < k
                      · have hlo := fun W (h : RdI W w9.heap.size (some ⟨g9, 1, none⟩) (n9 - 1) v) => rloud_any (some ⟨g9, 1, none⟩) (n9 - 1) (c9 - 1) v W w9.heap.size h hal (by omega)
                        have HLO := Lib.hid (hlo w9 hrv)
                        by_cases hl0 : Ph.loud v = 0
                        · have HLL : Hid (Pr.lineL t s.data.toList = (Pr.nameL 5, t)) := Lib.hid (HEV.out 5 (by omega) (by rw [hnx, if_pos ⟨hk0, hl0⟩]))
                          have HL0 := Lib.hid hl0
                          rw [hl0] at HLO
                          clear hl1 hk hnl9 hn2 hcap hgB hg9 hrv hvl hn9 hdl HEV h6 hs0 hal hnx hlo hl0
                          clear hsz HSZ HLE hxe hxw HLG HBDS HOA HNL HLNN HTK
                          go_wp2_with fail
                          refine HSN.out.mono ?_
                          rintro e wq ⟨rfl, rfl⟩
                          go_wp2_with fail
                          refine HLO.out.mono ?_
                          rintro e wq2 ⟨rfl, rfl⟩
                          go_wp2_with fail
                          refine reg63 w _ t _ (Nat.le_of_eq rfl) rfl rfl 5 (.inr (.inr (.inl rfl))) rfl HL9.out (fun A' W' hA hW => ?_)
                          go_wp2_with fail
                          exact line_end hA rfl hW HLL.out
                        · have hz : Pr.nearE v k = 0 := by rw [hnx, if_neg (fun h => hl0 h.2)]
                          have hq := fun W (h : RdI W w9.heap.size (some ⟨g9, 1, none⟩) (n9 - 1) v) (hW : w9.heap.size ≤ W.heap.size) => rnear_any (some ⟨g9, 1, none⟩) (n9 - 1) (c9 - 1) v k W w9.heap.size h hW hal (by omega) ⟨hk.1, by omega⟩ (.inr (by have := Ph.loud_nonneg v; omega))
                          have hlb : ∀ y ∈ Ph.near v k, -1000000000 ≤ y ∧ y ≤ 1000000000 := loud_bd (by
                            have h1 := Ph.near_loud (v := v) (k := k) hk.1 (.inr (by have := Ph.loud_nonneg v; omega))
                            have h2 := Ph.loud_nonneg v
                            show (Ph.loud (Ph.near v k)).toNat ≤ 1000000
                            omega)
                          have HLL : Hid (Pr.lineL t s.data.toList = (Pr.toldL (Ph.near v k), t)) := Lib.hid (by rw [HLG.out, hdl, hz]; rfl)
                          have hck := hq w9.drew (hrv.below ⟨rfl, rfl, rfl, Nat.le_refl _, fun _ _ => rfl⟩) (Nat.le_refl _)
                          obtain ⟨L, hL⟩ : ∃ L, L = Ph.near v k := ⟨_, rfl⟩
                          rw [← hL] at hck hlb HLL
                          have HNR : Hid (Calls Tryz.prog 24 #[.slice (some ⟨g9, 1, none⟩) (n9 - 1) (c9 - 1), .int .i64 k] w9.drew fun e w' => ∃ A c, e = .returned (.slice A (n9 - 1) c) ∧ RdI w' w'.heap.size A (n9 - 1) L ∧ Below w9.drew.heap.size w9.drew w') := Lib.hid hck
                          have HLBX := Lib.hid hlb
                          have hm6 : n9 - 1 ≤ 1000 := by omega
                          have hn22 : 2 ≤ n9 ∧ n9 ≤ c9 := ⟨hn2, hcap⟩
                          have HXX := Lib.hid (And.intro hm6 hn22)
                          have hl0' : ¬ Ph.loud v = 0 := hl0
                          obtain ⟨Y, hY⟩ : ∃ Y, Y = Ph.loud v := ⟨_, rfl⟩
                          rw [← hY] at HLO hl0'
                          clear hlo hl0 hY hl1 hk hnl9 hn2 hcap hgB hg9 hrv hvl hn9 hdl HEV h6 hs0 hal hnx hz hq hck hL hlb hm6 hn22
                          clear hsz HSZ HLE hxe hxw HLG HBDS HOA HNL HLNN HTK
                          go_wp2_with fail
                          refine HSN.out.mono ?_
                          rintro e wq ⟨rfl, rfl⟩
                          go_wp2_with fail
                          refine HLO.out.mono ?_
                          rintro e wq2 ⟨rfl, rfl⟩
                          go_wp2_with fail
                          refine reg64 w _ t _ (Nat.le_of_eq rfl) rfl rfl g9 n9 c9 (n9 - 1) k L hg5 rfl HXX.out.2 a0 HXX.out.1 HLBX.out HNR.out HL9.out (fun A' W' hA hW => ?_)
                          go_wp2_with fail
                          exact line_end hA rfl hW HLL.out
                      · have hz : Pr.nearE v k = 0 := by rw [hnx, if_neg (fun h => hk0 h.1)]
                        have hq := fun W (h : RdI W w9.heap.size (some ⟨g9, 1, none⟩) (n9 - 1) v) (hW : w9.heap.size ≤ W.heap.size) => rnear_any (some ⟨g9, 1, none⟩) (n9 - 1) (c9 - 1) v k W w9.heap.size h hW hal (by omega) ⟨hk.1, by omega⟩ (.inl (by omega))
                        have hlb : ∀ y ∈ Ph.near v k, -1000000000 ≤ y ∧ y ≤ 1000000000 := loud_bd (by
                          have h1 := Ph.near_loud (v := v) (k := k) hk.1 (.inl (by omega))
                          have h2 := Ph.loud_nonneg v
                          show (Ph.loud (Ph.near v k)).toNat ≤ 1000000
                          omega)
                        have HLL : Hid (Pr.lineL t s.data.toList = (Pr.toldL (Ph.near v k), t)) := Lib.hid (by rw [HLG.out, hdl, hz]; rfl)
                        have hck := hq w9.drew (hrv.below ⟨rfl, rfl, rfl, Nat.le_refl _, fun _ _ => rfl⟩) (Nat.le_refl _)
                        obtain ⟨L, hL⟩ : ∃ L, L = Ph.near v k := ⟨_, rfl⟩
                        rw [← hL] at hck hlb HLL
                        have HNR : Hid (Calls Tryz.prog 24 #[.slice (some ⟨g9, 1, none⟩) (n9 - 1) (c9 - 1), .int .i64 k] w9.drew fun e w' => ∃ A c, e = .returned (.slice A (n9 - 1) c) ∧ RdI w' w'.heap.size A (n9 - 1) L ∧ Below w9.drew.heap.size w9.drew w') := Lib.hid hck
                        have HLBX := Lib.hid hlb
                        have hm6 : n9 - 1 ≤ 1000 := by omega
                        have hn22 : 2 ≤ n9 ∧ n9 ≤ c9 := ⟨hn2, hcap⟩
                        have HXX := Lib.hid (And.intro hm6 hn22)
                        clear hl1 hk hnl9 hn2 hcap hgB hg9 hrv hvl hn9 hdl HEV h6 hs0 hal hnx hz hq hck hL hlb hm6 hn22
                        clear hsz HSZ HLE hxe hxw HLG HBDS HOA HNL HLNN HTK
                        go_wp2_with fail
                        refine HSN.out.mono ?_
                        rintro e wq ⟨rfl, rfl⟩
                        go_wp2_with fail
                        refine reg64 w _ t _ (Nat.le_of_eq rfl) rfl rfl g9 n9 c9 (n9 - 1) k L hg5 rfl HXX.out.2 a0 HXX.out.1 HLBX.out HNR.out HL9.out (fun A' W' hA hW => ?_)
                        go_wp2_with fail
                        exact line_end hA rfl hW HLL.out
                  · have hE : Ph.soundErr v = 1 ∨ Ph.soundErr v = 4 := by
                      unfold Ph.soundErr at hs0 ⊢
                      split
                      · exact .inr rfl
                      · rename_i h1
                        split
                        · rename_i h2; rw [if_neg h1, if_pos h2] at hs0; exact absurd rfl hs0
                        · exact .inl rfl
                    have HLL : Hid (Pr.lineL t s.data.toList = (Pr.nameL (Ph.soundErr v), t)) := Lib.hid (HEV.out _ hs0 (by unfold Pr.nearE; rw [if_neg h6, if_pos hs0]))
                    obtain ⟨E, hEE⟩ : ∃ E, E = Ph.soundErr v := ⟨_, rfl⟩
                    rw [← hEE] at HLL HSN hE hs0
                    have HE4 : Hid (E = 1 ∨ E = 4 ∨ E = 5 ∨ E = 8) := Lib.hid (by omega)
                    clear hl1 hk hnl9 hn2 hcap hgB hg9 hrv hvl hn9 hdl HEV h6 hEE hE
                    clear hsz HSZ HLE hxe hxw HLG HBDS HOA HNL HLNN HTK
                    go_wp2_with fail
                    refine HSN.out.mono ?_
                    rintro e wq ⟨rfl, rfl⟩
                    go_wp2_with fail
                    refine reg63 w _ t _ (Nat.le_of_eq rfl) rfl rfl E HE4.out rfl HL9.out (fun A' W' hA hW => ?_)
                    go_wp2_with fail
                    exact line_end hA rfl hW HLL.out
            · as_aux_lemma =>
                have e1 := word_ne (m := [99, 111, 117, 110, 116]) hsz (by decide)
                have e2 := word_ne (m := [114, 97, 110, 107]) hsz (by decide)
                have e3 := word_ne (m := [114, 111, 119]) hsz (by decide)
                have e4 := word_ne (m := [110, 101, 97, 114]) hsz (by decide)
                have e5 := word_eq (m := [103, 97, 105, 110]) hsz (by decide)
                have hl1 : ns.length = 1 := by
                  have h := HOA.out
                  rw [hxw, hxe] at h
                  unfold Pr.okArgs at h
                  simp at h
                  omega
                obtain ⟨a, rfl⟩ := len_one hl1
                have ha : 0 ≤ a ∧ a ≤ 9999 := ⟨by have := (HBDS.out 0 (by simp)).2.2 (by rw [hxw, hxe]; show 0 + 0 < 99; omega); simpa using this, by simpa using (HBDS.out 0 (by simp)).2.1⟩
                obtain rfl : n9 = 1 := HNL.out.symm
                obtain ⟨g9, rfl, hgB, hg9⟩ := own_form HO9.out (by omega)
                have hg5 : g9 ≠ w.heap.size + 1 := by have := HLW9.out; omega
                have a0 : w9.cell? ⟨g9, 0, none⟩ = some (.int .i64 a) := HO9.out.cellAt 0 (by omega)
                have i0 : (0 : Int) < 1 := by omega
                by_cases h8 : a ≤ 8000
                · obtain ⟨u, rfl⟩ := Int.eq_ofNat_of_zero_le ha.1
                  have hu : u ≤ 8000 := by omega
                  have hst := Ph.step_ok hu
                  have hvs : valV ((Ph.step u : Nat) : Int) = Ph.val ((Ph.step u : Nat) : Int) := by
                    have h := Ph.valued_step hu
                    have hb : valB ((Ph.step u : Nat) : Int) = true := by unfold valB; rw [Int.toNat_natCast, h]; simp; omega
                    unfold valV Ph.val
                    rw [hb, if_pos rfl]
                  have hmn := Ph.mean_le hu
                  have HLL : Hid (Pr.lineL t s.data.toList = (Pr.toldL [((Ph.step u : Nat) : Int), Ph.val ((Ph.step u : Nat) : Int)], t)) := Lib.hid (by
                    rw [HLG.out]
                    unfold Pr.doL
                    rw [if_neg (by decide), if_neg (by decide), if_neg (by decide), if_neg (by decide), if_pos rfl, if_pos (by simpa using h8)]
                    simp
                    rfl)
                  have hvb : 0 ≤ Ph.val ((Ph.step u : Nat) : Int) ∧ Ph.val ((Ph.step u : Nat) : Int) ≤ 1000000 := by unfold Ph.val; rw [Int.toNat_natCast]; omega
                  have hg1 := fun W => rgain_any u W hu
                  have hg2 := fun W => rvalue_in (Ph.step u) W (by omega)
                  rw [hvs] at hg2
                  obtain ⟨g, hg⟩ : ∃ g : Int, g = ((Ph.step u : Nat) : Int) := ⟨_, rfl⟩
                  obtain ⟨v, hv⟩ : ∃ v : Int, v = Ph.val ((Ph.step u : Nat) : Int) := ⟨_, rfl⟩
                  rw [← hv] at HLL hvb hg2
                  rw [← hg] at HLL hg1 hg2
                  obtain ⟨vb, hvbb⟩ : ∃ vb, vb = valB g := ⟨_, rfl⟩
                  rw [← hvbb] at hg2
                  have HRB : Hid ((-1000000000 ≤ g ∧ g ≤ 1000000000) ∧ -1000000000 ≤ v ∧ v ≤ 1000000000) := Lib.hid (by omega)
                  have HG1 := Lib.hid hg1
                  have HG2 := Lib.hid hg2
                  have h8' : ¬ (8000 : Int) < (u : Int) := by omega
                  clear hg1 hg2 hg hv hvs hst hmn hvb hvbb hl1 h8 ha hgB hg9 hu
                  clear hsz HSZ HLE hxe hxw HLG HBDS HOA HNL HLNN HTK
                  go_wp2_with fail
                  refine (HG1.out _).mono ?_
                  rintro e wq ⟨rfl, rfl⟩
                  go_wp2_with fail
                  refine (HG2.out _).mono ?_
                  rintro e wq2 ⟨rfl, rfl⟩
                  go_wp2_with fail
                  refine reg70 w _ t _ (Nat.le_of_eq rfl) rfl rfl g v rfl rfl HRB.out HL9.out (fun A' W' hA hW => ?_)
                  go_wp2_with fail
                  exact line_end hA rfl hW HLL.out
                · have HLL : Hid (Pr.lineL t s.data.toList = (Pr.nameL 1, t)) := Lib.hid (by
                    rw [HLG.out]
                    unfold Pr.doL
                    rw [if_neg (by decide), if_neg (by decide), if_neg (by decide), if_neg (by decide), if_pos rfl, if_neg (by simpa using h8)]
                    rfl)
                  have h8' : 8000 < a := by omega
                  clear hl1 h8 ha hgB hg9
                  clear hsz HSZ HLE hxe hxw HLG HBDS HOA HNL HLNN HTK
                  go_wp2_with fail
                  refine reg67 w w9 t _ (Nat.le_of_eq rfl) rfl rfl  HL9.out (fun A' W' hA hW => ?_)
                  go_wp2_with fail
                  exact line_end hA rfl hW HLL.out
            · as_aux_lemma =>
                have e1 := word_ne (m := [99, 111, 117, 110, 116]) hsz (by decide)
                have e2 := word_ne (m := [114, 97, 110, 107]) hsz (by decide)
                have e3 := word_ne (m := [114, 111, 119]) hsz (by decide)
                have e4 := word_ne (m := [110, 101, 97, 114]) hsz (by decide)
                have e5 := word_ne (m := [103, 97, 105, 110]) hsz (by decide)
                have e6 := word_eq (m := [116, 117, 114, 110]) hsz (by decide)
                have hl1 : ns.length = 1 := by
                  have h := HOA.out
                  rw [hxw, hxe] at h
                  unfold Pr.okArgs at h
                  simp at h
                  omega
                obtain ⟨a, rfl⟩ := len_one hl1
                have ha : 0 ≤ a ∧ a ≤ 9999 := ⟨by have := (HBDS.out 0 (by simp)).2.2 (by rw [hxw, hxe]; show 0 + 0 < 99; omega); simpa using this, by simpa using (HBDS.out 0 (by simp)).2.1⟩
                obtain rfl : n9 = 1 := HNL.out.symm
                obtain ⟨g9, rfl, hgB, hg9⟩ := own_form HO9.out (by omega)
                have hg5 : g9 ≠ w.heap.size + 1 := by have := HLW9.out; omega
                have a0 : w9.cell? ⟨g9, 0, none⟩ = some (.int .i64 a) := HO9.out.cellAt 0 (by omega)
                have i0 : (0 : Int) < 1 := by omega
                have htt := fun W => rturn_told t.size t.each t.has a W
                unfold tankV at htt
                have hfb : 0 ≤ Ph.full t ∧ Ph.full t ≤ 1000000 := by unfold Ph.full; have := HTK.out.1; have := HTK.out.2.1; have := HTK.out.2.2; split <;> omega
                by_cases hE : Ph.turnErr t a = 0
                · obtain ⟨d, hd⟩ : ∃ d, d = Ph.turned t a := ⟨_, rfl⟩
                  have hdh : d.has = Ph.full t - a := by rw [hd]; rfl
                  have HCK : Hid (∀ W, Calls Tryz.prog 27 #[.agg #[.int .i64 t.size, .int .i64 t.each, .int .i64 t.has], .int .i64 a] W fun e w' => e = .returned (.tuple #[.agg #[.int .i64 d.size, .int .i64 d.each, .int .i64 d.has], .int .i64 0]) ∧ Below W.heap.size W w') := Lib.hid fun W => by
                    have h := htt W
                    rw [show Ph.turnErr ⟨t.size, t.each, t.has⟩ a = 0 from hE] at h
                    rw [hd]
                    exact h
                  have HLL : Hid (Pr.lineL t s.data.toList = (Pr.toldL [d.has], d)) := Lib.hid (by
                    rw [HLG.out]
                    unfold Pr.doL
                    rw [if_neg (by decide), if_neg (by decide), if_neg (by decide), if_neg (by decide), if_neg (by decide), if_pos rfl, if_pos (by simpa using hE), hdh, hd]
                    rfl)
                  have HRB : Hid (-1000000000 ≤ d.has ∧ d.has ≤ 1000000000) := Lib.hid (by omega)
                  clear hd hdh htt hfb hE hl1 ha hgB hg9
                  clear hsz HSZ HLE hxe hxw HLG HBDS HOA HNL HLNN HTK
                  go_wp2_with fail
                  refine reg72 w w9 t d _ (Nat.le_of_eq rfl) rfl rfl g9 c9 a 0 hg5 rfl a0 HL9.out HCK.out (fun A' W' K hA hL hK2 hK => ?_)
                  have HL8 := Lib.hid hL
                  have HK8 := Lib.hid (And.intro hK2 hK)
                  clear hL hK2 hK HCK
                  rcases hA with rfl | rfl
                  all_goals
                    simp only [List.setIfInBounds_toArray, List.set_cons_zero, List.set_cons_succ]
                    go_wp2_with fail
                    refine reg75 w W' t d K _ (Nat.le_of_eq rfl) rfl rfl HRB.out HK8.out.1 HL8.out HK8.out.2 (fun A'' W'' hA hW => ?_)
                    go_wp2_with fail
                    exact line_end hA rfl hW HLL.out
                · have HLL : Hid (Pr.lineL t s.data.toList = (Pr.nameL (Ph.turnErr t a), t)) := Lib.hid (by
                    rw [HLG.out]
                    unfold Pr.doL
                    rw [if_neg (by decide), if_neg (by decide), if_neg (by decide), if_neg (by decide), if_neg (by decide), if_pos rfl, if_neg (by simpa using hE)]
                    unfold Pr.ansL
                    simp only [List.getD_cons_zero]
                    rw [if_neg hE])
                  have hE18 : Ph.turnErr t a = 1 ∨ Ph.turnErr t a = 8 := by
                    unfold Ph.turnErr at hE ⊢
                    repeat' split
                    all_goals first | exact .inl rfl | exact .inr rfl | simp_all
                  have HCK : Hid (∀ W, Calls Tryz.prog 27 #[.agg #[.int .i64 t.size, .int .i64 t.each, .int .i64 t.has], .int .i64 a] W fun e w' => e = .returned (.tuple #[.agg #[.int .i64 (⟨0, 0, 0⟩ : Ph.Tank).size, .int .i64 (⟨0, 0, 0⟩ : Ph.Tank).each, .int .i64 (⟨0, 0, 0⟩ : Ph.Tank).has], .int .i64 (Ph.turnErr t a)]) ∧ Below W.heap.size W w') := Lib.hid fun W => by
                    have h := htt W
                    unfold kept at h
                    have hne : ¬ Ph.turnErr ⟨t.size, t.each, t.has⟩ a = 0 := hE
                    rw [if_neg hne, if_neg hne, if_neg hne] at h
                    exact h
                  obtain ⟨E, hEE⟩ : ∃ E, E = Ph.turnErr t a := ⟨_, rfl⟩
                  rw [← hEE] at HLL HCK hE hE18
                  have HE4 : Hid (E = 1 ∨ E = 4 ∨ E = 5 ∨ E = 8) := Lib.hid (by omega)
                  clear hEE htt hfb hE18 hl1 ha hgB hg9
                  clear hsz HSZ HLE hxe hxw HLG HBDS HOA HNL HLNN HTK
                  go_wp2_with fail
                  refine reg72 w w9 t ⟨0, 0, 0⟩ _ (Nat.le_of_eq rfl) rfl rfl g9 c9 a E hg5 rfl a0 HL9.out HCK.out (fun A' W' K hA hL hK2 hK => ?_)
                  have HL8 := Lib.hid hL
                  clear hL hK2 hK HCK
                  rcases hA with rfl | rfl
                  all_goals
                    simp only [List.setIfInBounds_toArray, List.set_cons_zero, List.set_cons_succ]
                    go_wp2_with fail
                    refine reg74 w W' t _ (Nat.le_of_eq rfl) rfl rfl E HE4.out rfl HL8.out (fun A'' W'' hA hW => ?_)
                    go_wp2_with fail
                    exact line_end hA rfl hW HLL.out
            · as_aux_lemma =>
                have e1 := word_ne (m := [99, 111, 117, 110, 116]) hsz (by decide)
                have e2 := word_ne (m := [114, 97, 110, 107]) hsz (by decide)
                have e3 := word_ne (m := [114, 111, 119]) hsz (by decide)
                have e4 := word_ne (m := [110, 101, 97, 114]) hsz (by decide)
                have e5 := word_ne (m := [103, 97, 105, 110]) hsz (by decide)
                have e6 := word_ne (m := [116, 117, 114, 110]) hsz (by decide)
                have e7 := word_eq (m := [109, 97, 121]) hsz (by decide)
                have hck := rmay_any t.size t.each t.has w9.drew HTK.out.1 HTK.out.2.1 HTK.out.2.2
                unfold tankV at hck
                have hfb : 0 ≤ Ph.full t ∧ Ph.full t ≤ 1000000 := by unfold Ph.full; have := HTK.out.1; have := HTK.out.2.1; have := HTK.out.2.2; split <;> omega
                have HLL : Hid (Pr.lineL t s.data.toList = (Pr.toldL [Ph.full t], t)) := Lib.hid (by
                  rw [HLG.out]
                  unfold Pr.doL
                  rw [if_neg (by decide), if_neg (by decide), if_neg (by decide), if_neg (by decide), if_neg (by decide), if_neg (by decide)]
                  rfl)
                obtain ⟨R, hR⟩ : ∃ R : Int, R = Ph.full t := ⟨_, rfl⟩
                have hck2 : Calls Tryz.prog 28 #[.agg #[.int .i64 t.size, .int .i64 t.each, .int .i64 t.has]] w9.drew fun e w' => e = .returned (.int .i64 R) ∧ Below w9.drew.heap.size w9.drew w' := by rw [hR]; exact hck
                rw [← hR] at HLL hfb
                have HRB : Hid (-1000000000 ≤ R ∧ R ≤ 1000000000) := Lib.hid (by omega)
                have HCK := Lib.hid hck2
                clear hR hck hck2 hfb
                clear hsz HSZ HLE hxe hxw HLG HBDS HOA HNL HLNN HTK
                go_wp2_with fail
                refine reg76 w w9 t _ (Nat.le_of_eq rfl) rfl rfl R HRB.out HCK.out HL9.out (fun A' W' hA hW => ?_)
                go_wp2_with fail
                exact line_end hA rfl hW HLL.out

end Go.Proofs.YtjdpgakkphdjlaaGreatDoor
