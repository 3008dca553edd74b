/- The walk of the law HideSofter. -/
import Derived.Test.YtapjnfhbjmeniaaPlay
import Derived.Test.YtapjnfhbjmeniaaErrQ
import Derived.Test.YtapjnfhbjmeniaaQuiet
import Derived.Test.YtapjnfhbjmeniaaRefBand
import Derived.Test.YtapjnfhbjmeniaaOpen
namespace Go.Proofs.Ytapjnfhbjmeniaa
open Go.RowKit

theorem soften_good {ps : List Ph.Part} (h : ∀ p ∈ ps, Ph.gainOk p.gain = true ∧ p.pulses.length ≤ 6) : ∀ p ∈ ps.map Ph.soften, Ph.gainOk p.gain = true ∧ p.pulses.length ≤ 6 := fun p hp => by
  obtain ⟨x, hx, rfl⟩ := List.mem_map.1 hp
  have h6 := (h x hx).2
  refine ⟨(Ph.down_ok x.gain).1, ?_⟩
  unfold Ph.soften
  simp only
  split
  · simp; omega
  · omega
theorem softens_good {ps : List Ph.Part} (h : ∀ p ∈ ps, Ph.gainOk p.gain = true ∧ p.pulses.length ≤ 6) : ∀ k, ∀ p ∈ Ph.softens k ps, Ph.gainOk p.gain = true ∧ p.pulses.length ≤ 6
  | 0 => h
  | k + 1 => soften_good (softens_good h k)
theorem softens_len (ps : List Ph.Part) : ∀ k, (Ph.softens k ps).length = ps.length
  | 0 => rfl
  | k + 1 => by rw [Ph.softens, List.length_map, softens_len ps k]
theorem softens_len_heard {ps : List Ph.Part} {T : Nat} (h : ps = [] ∨ Ph.manyOf ps = T) (k : Nat) : (Ph.heardOf (Ph.softens k ps) T).length = T := by
  apply Ph.heard_length
  rcases h with rfl | h
  · exact .inl (Ph.softens_nil k)
  · exact .inr (by rw [Ph.softens_many, h])
theorem playL_len (b : List Nat) (s : List Int) (bits : Int) : (playL b s bits).length ≤ 100 := by
  unfold playL
  by_cases h : playE b s bits = 0
  · have hd : Ph.decErr (unpL b s bits) = 0 := by
      unfold playE at h
      split at h
      · exact absurd h (by assumption)
      · exact h
    rw [h, got_zero, Ph.lapI_length]
    have hz : Ph.lapErr (Ph.decAll (unpL b s bits)) 4000 = 0 := by
      unfold Ph.decErr at hd
      split at hd
      · omega
      · split at hd
        · omega
        · split at hd
          · omega
          · exact hd
    have := (Ph.lapErr_zero.1 hz).1
    omega
  · rw [got_ne h]; simp
set_option maxHeartbeats 8000000 in
set_option maxRecDepth 1000000 in
theorem hideSofter_walk (w : World) (A0 : Option Addr) (n0 c0 : Nat) (s : List Int) (h0 : RdI w w.heap.size A0 n0 s) (hb0 : n0 ≤ c0 ∧ c0 ≤ 17592186044415) (_ : ∀ x ∈ s, Is64 x) (bits : Int) (b : ByteArray) (hsb : b.size ≤ 140737488351232) (c : ByteArray) (hsc : c.size ≤ 140737488351232) :
    Calls Try.prog 6 #[.slice A0 n0 c0, .int .i64 bits, .string b, .string c] w fun e w' => e = .returned (.bool true) ∧ Below w.heap.size w w' := by
  have hn0 : n0 ≤ 100000000000000 := by omega
  have H0 := Lib.hid h0
  obtain ⟨W1, hW1⟩ : ∃ W1, W1 = w.alloc (.cells #[.int .i64 2] 3) := ⟨_, rfl⟩
  have HB1 : Hid (Below w.heap.size w W1) := Lib.hid (by rw [hW1]; exact below_alloc0 _ _)
  have HR1 : Hid (RdI W1 W1.heap.size (some ⟨w.heap.size, 0, none⟩) 1 [2]) := Lib.hid (by rw [hW1]; exact RdI.lit' w [2] 3 #[.int .i64 2] rfl)
  have HN1 := Lib.hid (hnew_ok (some ⟨w.heap.size, 0, none⟩) 1 1 [2] 10 W1 W1.heap.size HR1.out (Nat.le_refl _) (by decide))
  rw [show Ph.total [2] = 2 from rfl] at HN1
  have HW1 := Lib.hid hW1
  clear h0 hW1
  go_enter Try.func6, Try.ntmps6
  go_wp2_with fail
  rw [← HW1.out]
  refine HN1.out.mono ?_
  rintro e w2 ⟨X1, As1, cs1, rfl, hp, hb⟩
  have HP2 := Lib.hid hp
  have HB2 := Lib.hid (below_on HB1.out hb)
  clear hp hb HN1 HR1 HW1
  have HLO := Lib.hid (lose_any w2 _ X1 As1 1 cs1 [2] 10 2 none 0 0 [] 0 HP2.out (by have := HP2.out.1; have := HP2.out.lt; omega) (by simp) (by omega) ⟨by omega, by omega⟩ ⟨by omega, by omega⟩)
  rw [heard_none, show (2 : Int).toNat = 2 from rfl, show List.replicate 2 (0 : Int) = [0, 0] from rfl] at HLO
  have hb2 : Below W1.heap.size W1 W1 := Below.refl _ _
  go_wp2_with fail
  refine HLO.out.mono ?_
  rintro e w3 ⟨A3, n3, c3, rfl, hn3, hr, hp, hkb⟩
  have hr2 := hr.len
  have hn3' : n3 = 2 := hr2.symm
  subst hn3'
  obtain ⟨b3, o3, hA3, _, d3⟩ := hr.at_ (k := 0) (by omega)
  subst hA3
  have d3' : w3.cell? ⟨b3, o3, none⟩ = some (.int .i64 0) := d3
  have HLT := Lib.hid (lost_any w3 _ X1 As1 1 cs1 [2] 10 2 none 0 0 [] (0 + 1) hp)
  have HB3 := Lib.hid (HB2.out.trans (hkb.belowP HP2.out HB1.out.size HB2.out.size))
  clear hr hp hkb hr2 HLO hb2 d3
  go_wp2_with fail
  refine HLT.out.mono ?_
  rintro e w4 ⟨rfl, rfl⟩
  clear HLT d3' HP2 HB2 HB1
  by_cases hE : newErr s bits = 0
  · have hz := newErr_zero.1 hE
    have hb8 := Ph.bandErr_zero.1 hz.1
    have HNEW := Lib.hid fun W (hW : RdI W w.heap.size A0 n0 s) hB => hnew_ok A0 n0 c0 s bits W w.heap.size hW hB hE
    have htp : 0 ≤ Ph.total s := Ph.total_nonneg fun x hx => by have := hb8.2.2.1 x hx; omega
    have htl : Ph.total s ≤ 32 := hb8.2.2.2
    have hsm := fun h => unpL_small (b := bytesOf b) (s := s) (bits := bits) (bytesOf_lt b) h
    have hmy := fun h => unpL_many (b := bytesOf b) (s := s) (bits := bits) (bytesOf_lt b) h
    have hpe : ∀ bb, playE bb s bits = 0 → unpE bb s bits = 0 := fun bb h => by
      unfold playE at h
      split at h
      · exact absurd h (by assumption)
      · omega
    obtain ⟨T, hT⟩ := Int.eq_ofNat_of_zero_le htp
    rw [hT] at HNEW htl hmy
    have hT32 : T ≤ 32 := by omega
    have hbc := fun W (hW : RdI W w.heap.size A0 n0 s) => rbands_any A0 n0 c0 s W w.heap.size hW hn0
    rw [show bandN s = (T : Int) by unfold bandN; rw [if_pos hz.1, hT], hz.1] at hbc
    have HBC := Lib.hid hbc
    have HSM := Lib.hid hsm
    have HMY := Lib.hid hmy
    have HPE := Lib.hid hpe
    clear hz hb8 htp hT htl hsm hmy hpe hbc hE
    go_wp2_with fail
    refine (HNEW.out _ (H0.out.below HB3.out) HB3.out.size).mono ?_
    rintro e w5 ⟨X, As, cs, rfl, hp, hb⟩
    have HP5 := Lib.hid hp
    have HB5 := Lib.hid (below_on HB3.out hb)
    have hx5 := hp.lt
    clear hp hb
    go_wp2_with fail
    refine (HNEW.out _ (H0.out.below HB5.out) HB5.out.size).mono ?_
    rintro e w6 ⟨Y, Bs, ds, rfl, hp, hb⟩
    have HQ6 := Lib.hid hp
    have HP6 := Lib.hid (HP5.out.below' hb)
    have HB6 := Lib.hid (below_on HB5.out hb)
    have hYX : Y ≠ X := by have := hp.1; omega
    have hbp : w.heap.size ≤ w4.heap.size := HB3.out.size
    have hbq : w.heap.size ≤ w5.heap.size := HB5.out.size
    have hp6 : w4.heap.size ≤ w6.heap.size := by have := HP6.out.1; have := HP6.out.lt; omega
    have hq6 : w5.heap.size ≤ w6.heap.size := hb.size
    obtain ⟨bp, hbpe⟩ : ∃ q, q = w4.heap.size := ⟨_, rfl⟩
    obtain ⟨bq, hbqe⟩ : ∃ q, q = w5.heap.size := ⟨_, rfl⟩
    rw [← hbpe] at HP6 hbp hp6
    rw [← hbqe] at HQ6 hbq hq6
    clear hp hb HP5 HB5 HB3 HNEW hx5 hbpe hbqe
    have HPL := Lib.hid (play_any w6 bp X As n0 cs s bits T none 0 0 [] 0 b HP6.out hp6 hsb hn0)
    go_wp2_with fail
    refine HPL.out.mono ?_
    rintro e w7 ⟨A7, c7, rfl, _, hpn, hpy, hkb⟩
    have hst : ∃ A n c ps, PlayerAt w7 bp X As n0 cs s bits T A n c ps 0 ∧ (∀ p ∈ ps, Ph.gainOk p.gain = true ∧ p.pulses.length ≤ 6) ∧ ps.length ≤ 8 ∧ (ps = [] ∨ Ph.manyOf ps = T) := by
      by_cases hz : playE (bytesOf b) s bits = 0
      · obtain ⟨A2, n2, c2, h2⟩ := hpy hz
        have hu := HPE.out _ hz
        have h3 := HSM.out hu
        exact ⟨A2, n2, c2, _, h2, h3.2.2, h3.2.1, .inr (by have := HMY.out hu; omega)⟩
      · exact ⟨none, 0, 0, [], hpn hz, by simp, by simp, .inl rfl⟩
    have hko : KeptBut (ownBlocks X none 0 0) w6 w7 := hkb.mono fun k _ hk => .inl hk
    have HQ7 := Lib.hid (HQ6.out.apart HP6.out hYX hko)
    have HB7 := Lib.hid (HB6.out.trans (hko.belowP HP6.out hbp HB6.out.size))
    have hp7 : bp ≤ w7.heap.size := Nat.le_trans hp6 hkb.size
    have hq7 : bq ≤ w7.heap.size := Nat.le_trans hq6 hkb.size
    obtain ⟨A, n, cc, ps, hps, hgd, hl8, hmy⟩ := hst
    have HP7 := Lib.hid hps
    have HGD := Lib.hid hgd
    have HMY2 := Lib.hid hmy
    have hnl : n ≤ 8 := by have := hps.2.2.2.len; omega
    obtain ⟨E0, hE0⟩ : ∃ E, E = playE (bytesOf b) s bits := ⟨_, rfl⟩
    obtain ⟨L0, hL0⟩ : ∃ E, E = playL (bytesOf b) s bits := ⟨_, rfl⟩
    rw [← hE0, ← hL0]
    clear hpn hpy hkb hko hps hgd hmy hl8 HPL HQ6 HP6 HB6 HSM HMY HPE hp6 hq6 hE0 hL0
    go_wp2_with fail
    refine (HBC.out _ (H0.out.below HB7.out)).mono ?_
    rintro e w8 ⟨rfl, rfl⟩
    go_wp2_with fail
    go_loopw [16, 19] (fun v i wr => ∃ (k : Nat), k ≤ 14 ∧ i = .int .i64 k ∧ Hid (PlayerAt wr bp X As n0 cs s bits T A n cc (Ph.softens k ps) k) ∧ Hid (PlayerAt wr bq Y Bs n0 ds s bits T none 0 0 [] 0) ∧ Hid (0 < k → ∃ A' c', v = .slice A' T c' ∧ RdI wr wr.heap.size A' T (Ph.heardOf (Ph.softens k ps) T)) ∧ Hid (Below w.heap.size w wr) ∧ Hid (w7.heap.size ≤ wr.heap.size)) (fun _ i _ => 14 - (intOf i).toNat)
    case atStart => exact ⟨0, by omega, rfl, HP7, HQ7, Lib.hid (fun h => absurd h (by omega)), HB7, Lib.hid (Nat.le_refl _)⟩
    case round =>
      obtain ⟨k, hk, rfl, HP, HQ, HV, HBW, HSZ⟩ := hrel
      by_cases hlt : k < 14
      · have HLO := Lib.hid (lose_any wr bp X As n0 cs s bits T A n cc (Ph.softens k ps) k HP.out (Nat.le_trans hp7 HSZ.out) (softens_good HGD.out k) hnl ⟨by omega, by omega⟩ ⟨by omega, by omega⟩)
        rw [Int.toNat_natCast, show (Ph.softens k ps).map Ph.soften = Ph.softens (k + 1) ps from rfl] at HLO
        have hhl := softens_len_heard HMY2.out (k + 1)
        have HHL := Lib.hid hhl
        clear hhl
        go_wp2_with fail
        refine HLO.out.mono ?_
        rintro e w9 ⟨A9, n9, c9, rfl, hn9, hr, hp, hkb⟩
        have hn9' : n9 = T := by have := hr.len; rw [HHL.out] at this; exact this.symm
        subst hn9'
        have HR9 := Lib.hid hr
        have HP9 := Lib.hid hp
        have HQ9 := Lib.hid (HQ.out.apart HP.out hYX hkb)
        have HB9 := Lib.hid (HBW.out.trans (hkb.belowP HP.out hbp HBW.out.size))
        have HS9 := Lib.hid (Nat.le_trans HSZ.out hkb.size)
        have hne : ((n9 : Int) != (n9 : Int)) = false := by simp
        clear hr hp hkb HLO
        go_wp2_with fail
        go_roundw
        case rel => exact ⟨k + 1, by omega, by go_num, Lib.hid (by have := HP9.out; exact_mod_cast this), HQ9, Lib.hid (fun _ => ⟨A9, c9, rfl, HR9.out⟩), HB9, HS9⟩
        case measure => simp [intOf]; omega
      · obtain rfl : k = 14 := by omega
        obtain ⟨A16, c16, rfl, hr16⟩ := HV.out (by omega)
        have HZ := Lib.hid (Ph.softens_silent (many := T) fun p hp => (Ph.gainOk_le (HGD.out p hp).1).2)
        have HR := Lib.hid hr16
        have hll := hr16.len
        have HLL := Lib.hid hll
        clear HV hr16 hll
        go_wp2_with fail
        rename World => wz
        go_loop [20] (fun i => ∃ j : Nat, j ≤ T ∧ i = .int .i64 j) (fun i => T - (intOf i).toNat)
        case atStart => exact ⟨0, Nat.zero_le _, rfl⟩
        case round =>
          obtain ⟨j, hj, rfl⟩ := hrel
          by_cases hlt2 : j < T
          · obtain ⟨b4, o4, hA4, _, d4⟩ := HR.out.at_ hlt2
            subst hA4
            rw [HZ.out _ (Ph.getD_mem (by rw [HLL.out]; exact hlt2))] at d4
            go_wp2_with fail
            go_round
            case rel => exact ⟨j + 1, by omega, by go_num⟩
            case measure => simp [intOf]; omega
          · obtain rfl : j = T := by omega
            have hp8 : bp ≤ wz.heap.size := Nat.le_trans hp7 HSZ.out
            have hq8 : bq ≤ wz.heap.size := Nat.le_trans hq7 HSZ.out
            have HPL := Lib.hid (play_any wz bp X As n0 cs s bits j A n cc (Ph.softens 14 ps) (14 : Nat) c HP.out hp8 hsc hn0)
            have HQL := Lib.hid fun W hW hB => play_any W bq Y Bs n0 ds s bits j none 0 0 [] 0 c hW hB hsc hn0
            obtain ⟨E, hE⟩ : ∃ E, E = playE (bytesOf c) s bits := ⟨_, rfl⟩
            obtain ⟨L, hL⟩ : ∃ E, E = playL (bytesOf c) s bits := ⟨_, rfl⟩
            have hLb : L.length ≤ 100000000000000 := by
              rw [hL]
              exact Nat.le_trans (playL_len _ _ _) (by omega)
            rw [← hE, ← hL] at HPL HQL
            clear hE hL HR HZ HLL HGD HMY2 HP7 HQ7 HB7 hlt hlt2 hk hj
            go_wp2_with fail
            refine HPL.out.mono ?_
            rintro e w9 ⟨A9, c9, rfl, ho, hpn, hpy, hkb⟩
            have hko : KeptBut (ownBlocks X A n cc) wz w9 := hkb.mono fun k _ hk => .inl hk
            have HQ9 := Lib.hid (HQ.out.apart HP.out hYX hko)
            have HB9 := Lib.hid (HBW.out.trans (hko.belowP HP.out hbp HBW.out.size))
            have hq9 : bq ≤ w9.heap.size := Nat.le_trans hq8 hkb.size
            have HO9 := Lib.hid ho
            have HPY := Lib.hid hpy
            clear ho hpn hpy hkb hko HPL HQ HP HBW HSZ
            go_wp2_with fail
            refine (HQL.out _ HQ9.out hq9).mono ?_
            rintro e w10 ⟨A10, c10, rfl, ho, hpn, hpy, hkb⟩
            have hx9 := HO9.out
            have HO10 := Lib.hid ho
            have HX10 := Lib.hid (hkb.row hx9 (fun k hk he => row_type hx9 HQ9.out.2.1 (by decide) (he ▸ hk)))
            have HB10 := Lib.hid (HB9.out.trans (hkb.below HB9.out.size (fun k hk => by have := HQ9.out.1; omega)))
            have HIN := Lib.hid fun W (hW1 : RdI W w10.heap.size A9 L.length L) (hW2 : RdI W w10.heap.size A10 L.length L) => ints_quiet A9 A10 L.length c9 c10 L W w10.heap.size w10.heap.size hW1 hW2 hLb
            obtain ⟨N, hN⟩ : ∃ N, N = L.length := ⟨_, rfl⟩
            rw [← hN] at HIN HO10 HX10 ⊢
            have HI9 := Lib.hid (RdI.own HX10.out)
            have HI10 := Lib.hid (RdI.own HO10.out)
            clear hx9 ho hpn hpy HQL hN HO9 HO10 HX10
            by_cases hE0 : E = 0
            · obtain ⟨A2, n2, c2, hp2⟩ := HPY.out hE0
              obtain ⟨vs2, r1, r2, r3⟩ := hp2.2.2.2
              have hp10 : PlayerAt w10 bp X As n0 cs s bits j A2 n2 c2 (unpL (bytesOf c) s bits) 0 := by
                refine ⟨hp2.1, (hkb.block X hp2.lt (fun e => hYX e.symm)).trans hp2.2.1, hkb.row hp2.2.2.1 (fun k hk he => row_type hp2.2.2.1 HQ9.out.2.1 (by decide) (he ▸ hk)), vs2, hkb.row r1 (fun k hk he => row_type r1 HQ9.out.2.1 (by decide) (he ▸ hk)), r2.map fun v l hv => ?_, r3⟩
                obtain ⟨A', c', e, hi⟩ := hv
                exact ⟨A', c', e, hkb.row hi (fun k hk he => row_type hi HQ9.out.2.1 (by decide) (he ▸ hk))⟩
              have HP10 := Lib.hid hp10
              have HLT := Lib.hid fun W hW => lost_any W bp X As n0 cs s bits j A2 n2 c2 (unpL (bytesOf c) s bits) 0 hW
              subst hE0
              rw [errV_zero]
              clear hp2 hp10 r1 r2 r3 hkb HPY HQ9
              go_wp2_with fail
              have HIQ := Lib.hid fun q => HIN.out (w10.drewN q) (HI9.out.drewN q) (HI10.out.drewN q)
              have HLQ := Lib.hid fun q => HLT.out (w10.drewN q) (HP10.out.drewN q)
              go_quiet (first
                | (go_at_call 11; exact Calls.quiet_of (HIQ.out _))
                | (go_at_call 22; exact Calls.quiet_of_same (HLQ.out _)))
              go_wp2_with fail
              go_ret
              exact ⟨ret_true (by simp), below_drewN' HB10.out _⟩
            · rw [errV_ne hE0]
              clear hkb HPY HQ9
              go_wp2_with fail
              have HIQ := Lib.hid fun q => HIN.out (w10.drewN q) (HI9.out.drewN q) (HI10.out.drewN q)
              go_quiet (first
                | (go_at_call 11; exact Calls.quiet_of (HIQ.out _)))
              go_wp2_with fail
              go_ret
              exact ⟨ret_true (by simp), below_drewN' HB10.out _⟩
  · have HNEW := Lib.hid fun W (hW : RdI W w.heap.size A0 n0 s) => hnew_no A0 n0 c0 s bits W w.heap.size hW hn0 hE
    obtain ⟨E, hEE⟩ : ∃ E, E = newErr s bits := ⟨_, rfl⟩
    rw [← hEE] at HNEW hE
    rw [errV_ne hE] at HNEW
    clear hEE
    go_wp2_with fail
    refine (HNEW.out _ (H0.out.below HB3.out)).mono ?_
    rintro e w5 ⟨rfl, rfl⟩
    go_wp2_with fail
    refine (HNEW.out _ (H0.out.below HB3.out)).mono ?_
    rintro e w5 ⟨rfl, rfl⟩
    go_wp2_with fail
    go_ret
    exact ⟨ret_true (by simp), HB3.out⟩
end Go.Proofs.Ytapjnfhbjmeniaa
