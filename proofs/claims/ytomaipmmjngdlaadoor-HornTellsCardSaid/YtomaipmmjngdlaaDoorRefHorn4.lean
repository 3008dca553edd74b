/- The document's answers, walked (chapter 11): bytes as signs. -/
import Derived.Test.YtomaipmmjngdlaaDoorRefHorn3
namespace Go.Proofs.YtomaipmmjngdlaaDoor
open Go.RowKit

theorem str_get (s : ByteArray) (k : Nat) (h : k < s.size) : (s[k]'h).toNat = (bytesOf s).getD k 0 := by
  unfold bytesOf
  rw [List.getD_eq_getElem?_getD, List.getElem?_map, List.getElem?_eq_getElem (by simpa using h)]
  rfl
theorem drop_get {l : List Nat} {k : Nat} (h : k < l.length) : l.drop k = l.getD k 0 :: l.drop (k + 1) := by
  rw [List.getD_eq_getElem?_getD, List.getElem?_eq_getElem h]; exact List.drop_eq_getElem_cons h
theorem decR_heard {f : List Int} (hf : Ph.sharesOk f) {b : List Nat} {M : Nat} {o : List Int} {X : Nat} {cs : List Nat} (h : Ph.heard f b M = some (o, X, cs)) (hne : X ≠ 65536 ∨ cs ≠ []) : decR f b M = none := by
  unfold decR
  rw [h]
  simp only [Option.bind_some]
  rw [if_neg]
  intro hb
  have := Ph.heard_ends hf h hb
  rcases hne with h1 | h1
  · exact h1 this.1
  · exact h1 this.2
/-- Signs, and whether bytes are such, by the document. -/
def UnP (R : Option (List Int)) (w : World) (e : Ending) (w' : World) : Prop :=
  ∃ A n c, e = .returned (.tuple #[.slice A n c, .bool R.isSome]) ∧ n ≤ 60 ∧ RdI w' w'.heap.size A n (R.getD []) ∧ Below w.heap.size w w'
set_option maxRecDepth 1000000 in
set_option maxHeartbeats 8000000 in
theorem runhorn_any (A1 : Option Addr) (n1 c1 : Nat) (f : List Int) (s : ByteArray) (M : Nat) (w : World) (B : Nat) (h1 : RdI w B A1 n1 f) (hB : B ≤ w.heap.size) (hc1 : n1 ≤ c1) (hf : Ph.sharesOk f) (hM : M ≤ 60) (hsz : s.size ≤ 140737488351232) :
    Calls Tryd.prog 16 #[.slice A1 n1 c1, .string s, .int .i64 M] w (UnP (decR f (bytesOf s) M) w) := by
  have HL1 := Lib.hid h1.len
  have HF := Lib.hid hf
  have H1 := Lib.hid h1
  have hbl := bytesOf_length s
  by_cases h3 : s.size < 3
  · have hd : decR f (bytesOf s) M = none := by unfold decR; rw [Ph.heard_short (by omega)]; rfl
    rw [hd]
    have h3' : (s.size : Int) < 3 := by omega
    clear h1 hf hd hbl
    go_enter Tryd.func16, Tryd.ntmps16
    go_wp2_with fail
    go_ret2
    exact ⟨none, 0, 0, rfl, by omega, RdI.nil, Below.refl _ _⟩
  · have p0 : 0 < s.size := Nat.lt_of_lt_of_le (by decide) (Nat.le_of_not_lt h3)
    have p1 : 1 < s.size := Nat.lt_of_lt_of_le (by decide) (Nat.le_of_not_lt h3)
    have p2 : 2 < s.size := Nat.lt_of_lt_of_le (by decide) (Nat.le_of_not_lt h3)
    have g0 := str_get s 0 p0
    have g1 := str_get s 1 p1
    have g2 := str_get s 2 p2
    have e0 := drop_get (l := bytesOf s) (k := 0) (by omega)
    have e1 := drop_get (l := bytesOf s) (k := 1) (by omega)
    have e2 := drop_get (l := bytesOf s) (k := 2) (by omega)
    have hlt := bytesOf_lt s
    have hm : ∀ k, k < s.size → (bytesOf s).getD k 0 < 256 := fun k hk => hlt _ (by rw [List.getD_eq_getElem?_getD, List.getElem?_eq_getElem (by omega)]; simp)
    have b0 := hm 0 (by omega)
    have b1 := hm 1 (by omega)
    have b2 := hm 2 (by omega)
    obtain ⟨y0, hy0⟩ : ∃ y, y = (bytesOf s).getD 0 0 := ⟨_, rfl⟩
    obtain ⟨y1, hy1⟩ : ∃ y, y = (bytesOf s).getD 1 0 := ⟨_, rfl⟩
    obtain ⟨y2, hy2⟩ : ∃ y, y = (bytesOf s).getD 2 0 := ⟨_, rfl⟩
    rw [← hy0] at e0 g0 b0
    rw [← hy1] at e1 g1 b1
    rw [← hy2] at e2 g2 b2
    rw [List.drop_zero, e1, e2] at e0
    obtain ⟨X, hX⟩ : ∃ X, X = (y0 * 256 + y1) * 256 + y2 := ⟨_, rfl⟩
    have hXb : X < 16777216 := by omega
    have HRES : Hid (Ph.heard f (bytesOf s) M = Ph.dec f M X ((bytesOf s).drop 3)) := Lib.hid (by rw [e0, hX]; rfl)
    have HX := Lib.hid hX
    obtain ⟨R, hR⟩ : ∃ R, R = decR f (bytesOf s) M := ⟨_, rfl⟩
    have HRR := Lib.hid hR
    rw [← hR]
    have HM := Lib.hid hm
    have HBL := Lib.hid hbl
    have hf1 : 1 ≤ n1 ∧ n1 ≤ 40 := by have := hf.1; have := hf.2.1; have := HL1.out; omega
    have h3' : ¬ (s.size : Int) < 3 := by omega
    have q0 : (0 : Int) < (s.size : Int) := by omega
    have q1 : (1 : Int) < (s.size : Int) := by omega
    have q2 : (2 : Int) < (s.size : Int) := by omega
    have m5 : IntKind.i64.wrap (y0 : Int) = (y0 : Int) := IntWalk.i64_in _ (by omega)
    have m6 : IntKind.i64.wrap (y1 : Int) = (y1 : Int) := IntWalk.i64_in _ (by omega)
    have m7 : IntKind.i64.wrap (y2 : Int) = (y2 : Int) := IntWalk.i64_in _ (by omega)
    have m1 : IntKind.i64.wrap ((y0 : Int) * 65536) = (y0 : Int) * 65536 := IntWalk.i64_in _ (by omega)
    have m2 : IntKind.i64.wrap ((y1 : Int) * 256) = (y1 : Int) * 256 := IntWalk.i64_in _ (by omega)
    have m3 : IntKind.i64.wrap ((y0 : Int) * 65536 + (y1 : Int) * 256) = (y0 : Int) * 65536 + (y1 : Int) * 256 := IntWalk.i64_in _ (by omega)
    have m4 : IntKind.i64.wrap ((y0 : Int) * 65536 + (y1 : Int) * 256 + (y2 : Int)) = (y0 : Int) * 65536 + (y1 : Int) * 256 + (y2 : Int) := IntWalk.i64_in _ (by omega)
    clear h1 hf hlt hm hbl hX hR e0 e1 e2 hy0 hy1 hy2
    go_enter Tryd.func16, Tryd.ntmps16
    go_wp2_with fail
    go_quiet (fail)
    have HXI : Hid ((y0 : Int) * 65536 + (y1 : Int) * 256 + (y2 : Int) = (X : Int)) := Lib.hid (by have := HX.out; omega)
    rw [HXI.out]
    clear m1 m2 m3 m4 m5 m6 m7 g0 g1 g2 q0 q1 q2
    have H1W : Hid (RdI (w.drewN nq) B A1 n1 f) := Lib.hid H1.out
    have HBW0 : Hid (Below w.heap.size w (w.drewN nq)) := Lib.hid (below_drewN' (Below.refl _ _) nq)
    obtain ⟨W2, hW2⟩ : ∃ W2, W2 = w.drewN nq := ⟨_, rfl⟩
    rw [← hW2] at H1W HBW0 ⊢
    have HRH := Lib.hid fun A n c x W (hW1 : RdI W B A1 n1 f) (hW2 : RdI W W.heap.size A n x) hBW (hl : x.length ≤ 60) (hg : ∀ s ∈ x, Ph.good f s) => rhorn_ok A1 n1 c1 f A n c x W W.heap.size (hW1.more hBW) hW2 (Nat.le_refl _) hc1 HF.out hl hg
    obtain ⟨H0, hH0⟩ : ∃ H0, H0 = Ph.heard f (bytesOf s) M := ⟨_, rfl⟩
    have HH0 := Lib.hid hH0
    rw [← hH0] at HRES
    clear hW2 HXI HX H1 hH0
    go_wp2_with fail
    go_loopw [8, 9, 10, 11, 12] (fun sx sa so i _ wr => ∃ (k X' T0 : Nat) (o : List Int) (A : Option Addr) (c : Nat), k ≤ M ∧ i = .int .i64 k ∧ sx = .int .i64 X' ∧ X' < 16777216 ∧ sa = .int .i64 T0 ∧ 3 ≤ T0 ∧ T0 ≤ s.size ∧ so = .slice A k c ∧ Hid (wr.ownsRow W2.heap.size 3 1 (.slice A k c) k (ivals o)) ∧ Hid (H0 = (Ph.dec f (M - k) X' ((bytesOf s).drop T0)).map fun q => (o ++ q.1, q.2)) ∧ Hid (Below W2.heap.size W2 wr)) (fun _ _ _ i _ _ => M - (intOf i).toNat)
    case atStart => exact ⟨0, X, 3, [], none, 0, Nat.zero_le _, rfl, rfl, hXb, rfl, by omega, by omega, rfl, Lib.hid (own_nil _ _ _), Lib.hid (by rw [HRES.out]; simp), Lib.hid (Below.refl _ _)⟩
    case round =>
      obtain ⟨k, X', T0, o, A, c, hk, rfl, rfl, hXb', rfl, hT3, hTs, rfl, HO', HR', HBW⟩ := hrel
      clear HRES hXb
      by_cases hlt : k < M
      · have hlt' : (k : Int) < (M : Int) := by omega
        obtain ⟨m, hm⟩ : ∃ m, M - k = m + 1 := ⟨M - k - 1, by omega⟩
        have hr := HR'.out
        rw [hm, Ph.dec_succ] at hr
        have hds := Ph.dn_snd HF.out X'
        have hdg := Ph.dn_good HF.out X'
        have hgb := Ph.good_bd HF.out hdg.1
        have hSl := hdg.1.2.1
        rw [HL1.out] at hSl
        have HAT := Lib.hid fun W hW => rfind_any A1 n1 c1 f ((X' % 256 : Nat) : Int) W B hW hc1 HF.out (by omega)
        have hat : Ph.atL f ((X' % 256 : Nat) : Int) = (Ph.dn f X').1 := rfl
        rw [hat] at HAT
        rw [Int.toNat_natCast] at hgb
        obtain ⟨S, hS⟩ : ∃ S, S = (Ph.dn f X').1 := ⟨_, rfl⟩
        rw [← hS] at hr hds hdg hgb hSl HAT
        have hSn : S < n1 := by omega
        obtain ⟨Y, hY⟩ : ∃ Y, Y = (Ph.dn f X').2 := ⟨_, rfl⟩
        rw [← hY] at hr hds
        have HRW := Lib.hid (H1W.out.below (HBW.out.mono (Nat.le_trans hB HBW0.out.size)))
        obtain ⟨q1, p1, rfl, _, f0⟩ := HRW.out.at_ hSn
        have hfx : f.getD S 0 = (Ph.sh f S : Nat) := by unfold Ph.sh; have := (HF.out.2.2.1 _ (Ph.getD_mem (l := f) (i := S) (by rw [HL1.out]; exact hSn))).1; omega
        rw [hfx] at f0
        have hts : Ph.total (f.take S) = (Ph.st f S : Nat) := by
          show Ph.pre f S = _
          unfold Ph.st; have := (pre_bd HF.out S).1; omega
        have HSQ := Lib.hid fun q => (rsum_any (some ⟨q1, p1, none⟩) S c1 (f.take S) (wr.drewN q) B ((HRW.out.drewN q).take (by omega)) (fun x hx => by have := HF.out.2.2.1 x (List.mem_of_mem_take hx); omega) (by omega)).mono (fun e w' h => (⟨h.1, h.2.symm⟩ : e = .returned (.int .i64 (Ph.total (f.take S))) ∧ w' = wr.drewN q))
        rw [hts] at HSQ
        obtain ⟨F, hF⟩ : ∃ F, F = Ph.sh f S := ⟨_, rfl⟩
        obtain ⟨T, hT⟩ : ∃ T, T = Ph.st f S := ⟨_, rfl⟩
        rw [← hF] at f0 hgb hds
        rw [← hT] at hgb hdg hds HSQ
        have HR2 := Lib.hid hr
        have hTle := hdg.2
        have k1 : ((X' : Int)).tmod 256 = ((X' % 256 : Nat) : Int) := by rw [Int.tmod_eq_emod_of_nonneg (by omega)]; rfl
        have k2 : (X' : Int) % 256 = ((X' % 256 : Nat) : Int) := by omega
        have k3 : ((X' : Int)).tdiv 256 = ((X' / 256 : Nat) : Int) := by rw [Int.tdiv_eq_ediv_of_nonneg (by omega)]; rfl
        have k4 : (X' : Int) / 256 = ((X' / 256 : Nat) : Int) := by omega
        obtain ⟨a1, ha1⟩ : ∃ a, a = X' % 256 := ⟨_, rfl⟩
        obtain ⟨a2, ha2⟩ : ∃ a, a = X' / 256 := ⟨_, rfl⟩
        rw [← ha1] at k1 k2 HAT hds hTle
        rw [← ha2] at k3 k4 hds
        have hpr : F * a2 ≤ 256 * a2 := Nat.mul_le_mul_right _ hgb.2.1
        obtain ⟨P, hP⟩ : ∃ P, P = F * a2 := ⟨_, rfl⟩
        have hPi : (a2 : Int) * (F : Int) = (P : Int) := by rw [hP, Int.mul_comm]; simp
        rw [← hP] at hds hpr
        have ha2b : a2 ≤ 65536 := by omega
        have ha1b : a1 < 256 := by omega
        have hYi : (P : Int) + (a1 : Int) - (T : Int) = (Y : Int) := by omega
        have k5 : IntKind.i64.wrap ((a2 : Int) * (F : Int)) = (P : Int) := by rw [hPi]; exact IntWalk.i64_in _ (by omega)
        have k6 : IntKind.i64.wrap ((P : Int) + (a1 : Int)) = (P : Int) + (a1 : Int) := IntWalk.i64_in _ (by omega)
        have k7 : IntKind.i64.wrap ((P : Int) + (a1 : Int) - (T : Int)) = (Y : Int) := by rw [hYi]; exact IntWalk.i64_in _ (by omega)
        have hYb : Y < 16777216 := by omega
        have hS0 : (0 : Int) ≤ (S : Int) := by omega
        have hS1 : (S : Int) < (n1 : Int) := by omega
        have hS2 : (S : Int) ≤ (c1 : Int) := by omega
        clear hr hds hdg hgb hSl hat hS hY hfx hts hF hT hTle ha1 ha2 hpr hP hPi hYi
        go_wp2_with fail
        refine (HAT.out _ HRW.out).mono ?_
        rintro e wk ⟨rfl, rfl⟩
        go_wp2_with fail
        go_quiet ((go_at_call 38; exact Calls.quiet_of_same (HSQ.out _)))
        clear k1 k2 k3 k4 k5 k6 k7 f0
        go_wp2_with fail
        obtain ⟨W4, hW4⟩ : ∃ W4, W4 = wr.drewN nq := ⟨_, rfl⟩
        have HO4 : Hid (W4.ownsRow W2.heap.size 3 1 (.slice A k c) k (ivals o)) := Lib.hid (by rw [hW4]; exact HO'.out)
        have HBW4 : Hid (Below W2.heap.size W2 W4) := Lib.hid (by rw [hW4]; exact below_drewN' HBW.out nq)
        rw [← hW4]
        clear hW4 HO' HBW HAT HR' HRW HSQ
        go_loop [8, 9] (fun sx sa => ∃ (Z U : Nat), sx = .int .i64 Z ∧ Z < 16777216 ∧ sa = .int .i64 U ∧ 3 ≤ U ∧ U ≤ s.size ∧ Hid (Ph.fill Y ((bytesOf s).drop T0) = Ph.fill Z ((bytesOf s).drop U))) (fun _ sa => s.size - (intOf sa).toNat)
        case atStart => exact ⟨Y, T0, rfl, hYb, rfl, hT3, hTs, Lib.hid rfl⟩
        case round =>
          obtain ⟨Z, U, rfl, hZb, rfl, hU3, hUs, HFL⟩ := hrel
          by_cases hz : Z < 65536
          · have hz' : (Z : Int) < 65536 := by omega
            by_cases hU : U < s.size
            · have hdg := drop_get (l := bytesOf s) (k := U) (by rw [HBL.out]; exact hU)
              have hgy := str_get s U hU
              have hyb := HM.out U hU
              obtain ⟨y, hy⟩ : ∃ y, y = (bytesOf s).getD U 0 := ⟨_, rfl⟩
              rw [← hy] at hdg hgy hyb
              have HFL2 : Hid (Ph.fill Y ((bytesOf s).drop T0) = Ph.fill (Z * 256 + y) ((bytesOf s).drop (U + 1))) := Lib.hid (by rw [HFL.out, hdg, Ph.fill_cons hz])
              have hU' : (U : Int) < (s.size : Int) := by omega
              clear hy hdg HFL
              go_wp2_with fail
              go_round
              case rel => exact ⟨Z * 256 + y, U + 1, by go_num, by omega, by go_num, by omega, by omega, HFL2⟩
              case measure => simp [intOf]; omega
            · obtain rfl : U = s.size := by omega
              have HRN : Hid (R = none) := Lib.hid (by
                have h5 : Ph.heard f (bytesOf s) M = none := by
                  rw [← HH0.out, HR2.out, HFL.out, List.drop_of_length_le (by rw [HBL.out]; omega), Ph.fill_none hz]; rfl
                rw [HRR.out]; unfold decR; rw [h5]; rfl)
              go_wp2_with fail
              go_ret2
              exact ⟨none, 0, 0, ret_two rfl (by rw [HRN.out]; rfl), by omega, by rw [HRN.out]; exact RdI.nil, below_on HBW0.out HBW4.out⟩
          · have hz' : ¬ (Z : Int) < 65536 := by omega
            have HR3 : Hid (H0 = (Ph.dec f (M - (k + 1)) Z ((bytesOf s).drop U)).map fun q => ((o ++ [(S : Int)]) ++ q.1, q.2)) := Lib.hid (by
              rw [HR2.out, HFL.out, Ph.fill_done (by omega), show M - (k + 1) = m by omega]
              simp only [Option.bind_some, Option.map_map, Function.comp_def, List.append_assoc, List.singleton_append])
            go_wp2_with (at_builtin; refine wpList_push _ (by rfl) _ _ (by rfl) W2 W2.heap.size A k c o (S : Int) HO4.out HBW4.out HBW4.out.size (by omega) (by rfl) (by rfl) ?_; intro g9 cap w9 ho9 hb9)
            have HO9 := Lib.hid ho9
            have HB9 := Lib.hid hb9
            clear ho9 hb9 HO4
            go_wp2_with fail
            go_roundw
            case rel => exact ⟨k + 1, Z, U, o ++ [(S : Int)], some ⟨g9, 0, none⟩, cap, by omega, by go_num, rfl, hZb, rfl, hU3, hUs, rfl, HO9, HR3, HB9⟩
            case measure => simp [intOf]; omega
      · obtain rfl : k = M := by omega
        have hr := HR'.out
        rw [Nat.sub_self] at hr
        have hr2 : H0 = some (o ++ [], X', (bytesOf s).drop T0) := hr
        rw [List.append_nil, HH0.out] at hr2
        obtain ⟨hgd, hlen⟩ := heard_good HF.out hr2
        have hno := fun h => decR_heard HF.out hr2 h
        have hdr : decR f (bytesOf s) k = if Ph.bytes f o = bytesOf s then some o else none := by unfold decR; rw [hr2]; rfl
        rw [← HRR.out] at hno hdr
        clear HRR
        have HX := Lib.hid (HRH.out A k c o wr (H1W.out.below (HBW.out.mono (Nat.le_trans hB HBW0.out.size))) (RdI.own HO'.out) (Nat.le_trans hB (Nat.le_trans HBW0.out.size HBW.out.size)) (by omega) hgd)
        have hdd : T0 < s.size → (bytesOf s).drop T0 ≠ [] := fun h e => by
          have h1 : ((bytesOf s).drop T0).length = 0 := by rw [e]; rfl
          rw [List.length_drop, HBL.out] at h1; omega
        by_cases hx : X' = 65536
        · subst hx
          by_cases ht : T0 = s.size
          · subst ht
            by_cases hq : Ph.bytes f o = bytesOf s
            · rw [if_pos hq] at hdr
              have hS : strB (Ph.bytes f o) = s := by rw [hq, strB_bytesOf]
              rw [hS] at HX
              have HDR := Lib.hid hdr
              have HRO := Lib.hid (RdI.own HO'.out)
              clear hr hr2 hgd hlen hno hdr hdd hq hS HR' HH0
              go_wp2_with fail
              refine HX.out.mono ?_
              rintro e w5 ⟨rfl, hb⟩
              have HB5 := Lib.hid (below_on (below_on HBW0.out HBW.out) hb)
              have HR5 := Lib.hid (HRO.out.on hb)
              clear hb
              go_wp2_with fail
              go_ret2
              exact ⟨A, k, c, ret_two rfl (by rw [HDR.out]; rfl), by omega, by rw [HDR.out]; exact HR5.out, HB5.out⟩
            · rw [if_neg hq] at hdr
              have HDR := Lib.hid hdr
              have hS : ¬ strB (Ph.bytes f o) = s := fun e => hq (by
                have := congrArg bytesOf e
                rwa [bytesOf_strB (Ph.bytes_lt HF.out hgd)] at this)
              obtain ⟨S', hS'⟩ : ∃ S', S' = strB (Ph.bytes f o) := ⟨_, rfl⟩
              rw [← hS'] at hS HX
              have hsb := str_ne hS
              clear hr hr2 hgd hlen hno hdr hdd hq hS' HR' HH0
              go_wp2_with fail
              refine HX.out.mono ?_
              rintro e w5 ⟨rfl, hb⟩
              have HB5 := Lib.hid (below_on (below_on HBW0.out HBW.out) hb)
              clear hb
              go_wp2_with fail
              go_ret2
              exact ⟨none, 0, 0, ret_two rfl (by rw [HDR.out]; rfl), by omega, by rw [HDR.out]; exact RdI.nil, HB5.out⟩
          · have hrn := hno (.inr (hdd (by omega)))
            have HDR := Lib.hid hrn
            have j1 : ((T0 : Int) != (s.size : Int)) = true := by simp; omega
            clear hr hr2 hgd hlen hno hdr hdd HX hrn HR' HH0
            go_wp2_with fail
            go_ret2
            exact ⟨none, 0, 0, ret_two rfl (by rw [HDR.out]; rfl), by omega, by rw [HDR.out]; exact RdI.nil, below_on HBW0.out HBW.out⟩
        · have hrn := hno (.inl hx)
          have HDR := Lib.hid hrn
          have j1 : ((X' : Int) != 65536) = true := by simp; omega
          clear hr hr2 hgd hlen hno hdr hdd HX hrn HR' HH0
          go_wp2_with fail
          go_ret2
          exact ⟨none, 0, 0, ret_two rfl (by rw [HDR.out]; rfl), by omega, by rw [HDR.out]; exact RdI.nil, below_on HBW0.out HBW.out⟩
end Go.Proofs.YtomaipmmjngdlaaDoor
