/- The walk of the law BandBack. -/
import Derived.Test.YtgadgpkhkncnnaaJoin
import Derived.Test.YtgadgpkhkncnnaaOpen
namespace Go.Proofs.Ytgadgpkhkncnnaa
open Go.RowKit

set_option maxHeartbeats 2000000 in
set_option maxRecDepth 1000000 in
theorem bandBack_walk (w : World) (A0 : Option Addr) (n0 c0 : Nat) (s : List Int) (h0 : RdI w w.heap.size A0 n0 s) (hb0 : n0 ≤ c0 ∧ c0 ≤ 17592186044415) (_ : ∀ x ∈ s, Is64 x) (A1 : Option Addr) (n1 c1 : Nat) (l : List Int) (h1 : RdI w w.heap.size A1 n1 l) (hb1 : n1 ≤ c1 ∧ c1 ≤ 17592186044415) (_ : ∀ x ∈ l, Is64 x)
    (A2 : Option Addr) (n2 c2 : Nat) (m : List (List Int)) (h2 : RdR w w.heap.size A2 n2 m) (_hb2 : n2 ≤ c2 ∧ c2 ≤ 5864062014804) (hm2 : ∀ l ∈ m, l.length ≤ 17592186044415 ∧ ∀ x ∈ l, Is64 x) :
    Calls Try.prog 4 #[.slice A0 n0 c0, .slice A1 n1 c1, .slice A2 n2 c2] w fun e w' => e = .returned (.bool true) ∧ Below w.heap.size w w' := by
  have hbA := below_alloc0 w (.cells #[.int .i64 1, .int .i64 2, .int .i64 3] 3)
  have hbB := below_on hbA (below_alloc0 (w.alloc (.cells #[.int .i64 1, .int .i64 2, .int .i64 3] 3)) (.cells #[.int .i64 1, .int .i64 2] 3))
  have HR1 := Lib.hid ((RdI.lit' w [1, 2, 3] 3 #[.int .i64 1, .int .i64 2, .int .i64 3] rfl).onAlloc (.cells #[.int .i64 1, .int .i64 2] 3))
  have hr2 := RdI.lit' (w.alloc (.cells #[.int .i64 1, .int .i64 2, .int .i64 3] 3)) [1, 2] 3 #[.int .i64 1, .int .i64 2] rfl
  rw [World.size_alloc w] at hr2
  have HR2 := Lib.hid hr2
  have H0 := Lib.hid (h0.on hbB)
  have H1 := Lib.hid (h1.on hbB)
  have H2 := Lib.hid (h2.on hbB)
  have HB := Lib.hid hbB
  have HM : Hid (Ph.cut [1, 2, 3] [1, 2] = [[1], [2, 3]]) := by unfold Hid; decide
  have HL0 := Lib.hid h0.len
  have HL1 := Lib.hid h1.len
  have HL2 := Lib.hid h2.len
  have HX := Lib.hid hm2
  clear h0 h1 h2 hbA hbB hr2 hm2
  go_enter Try.func4, Try.ntmps4
  go_wp2_with fail
  have hs := split_ok _ 3 3 [1, 2, 3] _ 2 2 [1, 2] _ _ HR1.out (by decide) HR2.out (Nat.le_refl _) (by decide) (by decide)
  rw [HM.out] at hs
  refine hs.mono ?_
  rintro e w1 ⟨A, c, vs, rfl, ho, hv, hb⟩
  have HRR := Lib.hid (RdR.own ho hv.rows)
  have K0 := Lib.hid (H0.out.on hb)
  have K1 := Lib.hid (H1.out.on hb)
  have K2 := Lib.hid (H2.out.on hb)
  have KB := Lib.hid (below_on HB.out hb)
  clear hs ho hv hb H0 H1 H2 HB HR1 HR2 HM
  obtain ⟨b, off, A3, c3, rfl, _, hc3, _, hr3⟩ := HRR.out.at_ (k := 1) (by decide)
  have hr3' : RdI w1 w1.heap.size A3 2 [2, 3] := hr3
  have hc3' : w1.cell? ⟨b, off + 1, none⟩ = some (.slice A3 2 c3) := hc3
  obtain ⟨b4, o4, rfl, _, hc4⟩ := hr3'.at_ (k := 0) (by decide)
  have hc4' : w1.cell? ⟨b4, o4, none⟩ = some (.int .i64 2) := hc4
  clear hr3 hc3 hr3' hc4 HRR
  by_cases hS : splitErr l s = 0
  · obtain ⟨hb, ht⟩ := splitErr_zero.1 hS
    have hcut := sizes_cut hb ht
    have hsp := split_ok A1 n1 c1 l A0 n0 c0 s w1 _ K1.out hb1.1 K0.out (Nat.le_refl _) hb (by rw [ht, HL1.out])
    have HSP := Lib.hid hsp
    have hJ : joinErr (Ph.cut l s) s = 0 := joinErr_zero.2 ⟨hb, hcut.1⟩
    have HJ := Lib.hid fun (W : World) (A4 : Option Addr) (c4 : Nat) hr1 hr2 => join_ok A4 n0 c4 (Ph.cut l s) A0 n0 c0 s l W W.heap.size hr1 hr2 (Nat.le_refl _) hJ hcut.2
    clear hS hb ht hcut hsp hJ
    go_wp2_with fail
    refine HSP.out.mono ?_
    rintro e w2 ⟨A4, c4, vs4, rfl, ho, hv, hb⟩
    have HRR := Lib.hid (RdR.own ho hv.rows)
    have J0 := Lib.hid (K0.out.on hb)
    have J1 := Lib.hid (K1.out.on hb)
    have J2 := Lib.hid (K2.out.on hb)
    have JB := Lib.hid (below_on KB.out hb)
    clear ho hv hb K0 K1 K2 KB HSP hc3' hc4'
    go_wp2_with fail
    refine (HJ.out _ _ _ HRR.out J0.out).mono ?_
    rintro e w3 ⟨A5, c5, rfl, ho, hb⟩
    have HY := Lib.hid (RdI.own ho)
    have L0 := Lib.hid (J0.out.on hb)
    have L1 := Lib.hid (J1.out.on hb)
    have L2 := Lib.hid (J2.out.on hb)
    have LB := Lib.hid (below_on JB.out hb)
    clear ho hb J0 J1 J2 JB HRR HJ
    go_wp2_with fail
    refine (ints_any A5 A1 l.length c5 n1 c1 l l _ _ _ HY.out L1.out (Nat.le_refl _) (Nat.le_refl _) (by have := HL1.out; omega)).mono ?_
    rintro e w4 ⟨rfl, hb⟩
    have M0 := Lib.hid (L0.out.on hb)
    have M2 := Lib.hid (L2.out.on hb)
    have MB := Lib.hid (below_on LB.out hb)
    rw [sameI_true.2 (rfl : l = l)]
    clear hb L0 L1 L2 LB HY
    by_cases hJ : joinErr m s = 0
    · obtain ⟨hb, hsz⟩ := joinErr_zero.1 hJ
      have hfl := flat_sizes hsz
      obtain ⟨F, hF⟩ : ∃ F, F = m.flatten := ⟨_, rfl⟩
      rw [← hF] at hfl
      have HJ := Lib.hid (join_ok A2 n2 c2 m A0 n0 c0 s F _ _ M2.out M0.out (Nat.le_refl _) hJ hF.symm)
      have HSQ := Lib.hid fun (W : World) (A4 : Option Addr) (c4 : Nat) hr1 hc hr2 => split_ok A4 F.length c4 F A0 n0 c0 s W W.heap.size hr1 hc hr2 (Nat.le_refl _) hb hfl.2.symm
      rw [hfl.1] at HSQ
      clear hJ hb hsz hfl hF
      go_wp2_with fail
      refine HJ.out.mono ?_
      rintro e w5 ⟨A6, c6, rfl, ho, hb⟩
      have HC6 := Lib.hid (own_cap ho)
      have HY := Lib.hid (RdI.own ho)
      have N0 := Lib.hid (M0.out.on hb)
      have N2 := Lib.hid (M2.out.on hb)
      have NB := Lib.hid (below_on MB.out hb)
      clear ho hb M0 M2 MB HJ
      go_wp2_with fail
      refine (HSQ.out _ _ _ HY.out HC6.out N0.out).mono ?_
      rintro e w6 ⟨A7, c7, vs7, rfl, ho, hv, hb⟩
      have HZ := Lib.hid (RdR.own ho hv.rows)
      have P2 := Lib.hid (N2.out.on hb)
      have PB := Lib.hid (below_on NB.out hb)
      clear ho hv hb N0 N2 NB HSQ HY
      go_wp2_with fail
      have hl7 := HZ.out.len
      refine (lists_any A7 A2 n0 c7 n2 c2 m m _ _ _ HZ.out P2.out (Nat.le_refl _) (Nat.le_refl _) (by omega) (fun l hl => by have := (HX.out l hl).1; omega)).mono ?_
      rintro e w7 ⟨rfl, hb⟩
      have QB := Lib.hid (below_on PB.out hb)
      rw [sameR_true.2 (rfl : m = m)]
      clear hb P2 PB HZ hl7
      go_wp2_with fail
      go_ret
      exact ⟨ret_true (by simp), QB.out⟩
    · have HJ := Lib.hid (join_no A2 n2 c2 m A0 n0 c0 s _ _ M2.out M0.out (by omega) hJ)
      have he2 := errV_ne hJ
      clear hJ
      go_wp2_with fail
      refine HJ.out.mono ?_
      rintro e w5 ⟨rfl, rfl⟩
      go_wp2_with fail
      go_ret
      exact ⟨ret_true (by simp), MB.out⟩
  · have HSP := Lib.hid (split_bad A1 n1 c1 l A0 n0 c0 s w1 _ K0.out (by omega) HL1.out hS)
    have he := errV_ne hS
    have M0 := K0
    have M2 := K2
    have MB := KB
    clear hS K0 K1 K2 KB
    go_wp2_with fail
    refine HSP.out.mono ?_
    rintro e w4 ⟨rfl, rfl⟩
    clear HSP
    by_cases hJ : joinErr m s = 0
    · obtain ⟨hb, hsz⟩ := joinErr_zero.1 hJ
      have hfl := flat_sizes hsz
      obtain ⟨F, hF⟩ : ∃ F, F = m.flatten := ⟨_, rfl⟩
      rw [← hF] at hfl
      have HJ := Lib.hid (join_ok A2 n2 c2 m A0 n0 c0 s F _ _ M2.out M0.out (Nat.le_refl _) hJ hF.symm)
      have HSQ := Lib.hid fun (W : World) (A4 : Option Addr) (c4 : Nat) hr1 hc hr2 => split_ok A4 F.length c4 F A0 n0 c0 s W W.heap.size hr1 hc hr2 (Nat.le_refl _) hb hfl.2.symm
      rw [hfl.1] at HSQ
      clear hJ hb hsz hfl hF
      go_wp2_with fail
      refine HJ.out.mono ?_
      rintro e w5 ⟨A6, c6, rfl, ho, hb⟩
      have HC6 := Lib.hid (own_cap ho)
      have HY := Lib.hid (RdI.own ho)
      have N0 := Lib.hid (M0.out.on hb)
      have N2 := Lib.hid (M2.out.on hb)
      have NB := Lib.hid (below_on MB.out hb)
      clear ho hb M0 M2 MB HJ
      go_wp2_with fail
      refine (HSQ.out _ _ _ HY.out HC6.out N0.out).mono ?_
      rintro e w6 ⟨A7, c7, vs7, rfl, ho, hv, hb⟩
      have HZ := Lib.hid (RdR.own ho hv.rows)
      have P2 := Lib.hid (N2.out.on hb)
      have PB := Lib.hid (below_on NB.out hb)
      clear ho hv hb N0 N2 NB HSQ HY
      go_wp2_with fail
      have hl7 := HZ.out.len
      refine (lists_any A7 A2 n0 c7 n2 c2 m m _ _ _ HZ.out P2.out (Nat.le_refl _) (Nat.le_refl _) (by omega) (fun l hl => by have := (HX.out l hl).1; omega)).mono ?_
      rintro e w7 ⟨rfl, hb⟩
      have QB := Lib.hid (below_on PB.out hb)
      rw [sameR_true.2 (rfl : m = m)]
      clear hb P2 PB HZ hl7
      go_wp2_with fail
      go_ret
      exact ⟨ret_true (by simp), QB.out⟩
    · have HJ := Lib.hid (join_no A2 n2 c2 m A0 n0 c0 s _ _ M2.out M0.out (by omega) hJ)
      have he2 := errV_ne hJ
      clear hJ
      go_wp2_with fail
      refine HJ.out.mono ?_
      rintro e w5 ⟨rfl, rfl⟩
      go_wp2_with fail
      go_ret
      exact ⟨ret_true (by simp), MB.out⟩
end Go.Proofs.Ytgadgpkhkncnnaa
