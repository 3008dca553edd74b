/- The walk of the law TopTurns. -/
import Derived.Test.YtgadgpkhkncnnaaTreeT
import Derived.Test.YtgadgpkhkncnnaaJoin
import Derived.Test.YtgadgpkhkncnnaaOne
import Derived.Test.YtgadgpkhkncnnaaOpen
namespace Go.Proofs.Ytgadgpkhkncnnaa
open Go.RowKit

set_option maxHeartbeats 2000000 in
set_option maxRecDepth 1000000 in
theorem topTurns_walk (w : World) (A0 : Option Addr) (n0 c0 : Nat) (l : List Int) (h0 : RdI w w.heap.size A0 n0 l) (hb0 : n0 ≤ c0 ∧ c0 ≤ 17592186044415) (_ : ∀ x ∈ l, Is64 x) (v : Int) (A1 : Option Addr) (n1 c1 : Nat) (s : List Int) (h1 : RdI w w.heap.size A1 n1 s) (hb1 : n1 ≤ c1 ∧ c1 ≤ 17592186044415) (_ : ∀ x ∈ s, Is64 x) :
    Calls Try.prog 5 #[.slice A0 n0 c0, .int .i64 v, .slice A1 n1 c1] w fun e w' => e = .returned (.bool true) ∧ Below w.heap.size w w' := by
  have HL0 := Lib.hid h0.len
  have HL1 := Lib.hid h1.len
  have HT := Lib.hid fun W hW => tfwd_told A0 n0 c0 l v W W.heap.size hW (Nat.le_refl _) (by omega)
  have H0 := Lib.hid h0
  have H1 := Lib.hid h1
  clear h0 h1
  go_enter Try.func5, Try.ntmps5
  go_wp2_with fail
  refine (one_any _).mono ?_
  rintro e w1 ⟨rfl, hb⟩
  have K0 := Lib.hid (H0.out.on hb)
  have K1 := Lib.hid (H1.out.on hb)
  have KB := Lib.hid hb
  clear hb H0 H1
  go_wp2_with fail
  refine (HT.out _ K0.out).mono ?_
  rintro e w2 ⟨X, rfl, hX, hb⟩
  have HX := Lib.hid hX
  have L0 := Lib.hid (K0.out.on hb)
  have L1 := Lib.hid (K1.out.on hb)
  have LB := Lib.hid (below_on KB.out hb)
  clear hb hX K0 K1 KB HT
  by_cases hI : treeErr l v 1000 = 0
  · obtain ⟨V, rfl⟩ := treeErr_nat hI
    obtain ⟨AX, cx, rfl, hcx, hrx⟩ := HX.out hI
    rw [Int.toNat_natCast] at hrx
    have hev := errV_of hI
    have hI3 := treeErr_zero.1 hI
    have hal := HL0.out
    have hmd := treeErr_mod hI
    have hn : n0 ≤ 32 := by omega
    have hlF := Ph.treeF_length V l hmd
    have hF0 : treeErr (Ph.treeF V l) V 2000 = 0 := treeErr_zero.2 ⟨by omega, hI3.2.1, hI3.2.2.1, by rw [hlF]; exact hI3.2.2.2.1, Ph.treeF_allIn (M := 1000) (by omega) V l hI3.2.2.2.2⟩
    have hIN := Lib.hid fun W A c hW => tinv_ok A n0 c V (Ph.treeF V l) W W.heap.size hW (Nat.le_refl _) hF0
    rw [Ph.treeI_treeF V l hmd hI3.2.2.2.2] at hIN
    have hla : Ph.allIn l 1000 = true := hI3.2.2.2.2
    obtain ⟨Y, hY⟩ : ∃ Y, Y = Ph.treeF V l := ⟨_, rfl⟩
    rw [← hY] at hIN hrx hlF
    have HXR := Lib.hid hrx
    have HYL : Hid (Y.length = n0) := Lib.hid (by rw [hlF, hal])
    have HLA := Lib.hid hla
    clear hI hI3 hal hmd hlF hF0 hY hrx HX hla
    by_cases hS : splitErr Y s = 0
    · obtain ⟨hbe, ht⟩ := splitErr_zero.1 hS
      have hcut := sizes_cut hbe ht
      have HSP := Lib.hid (split_ok AX n0 cx Y A1 n1 c1 s w2 _ HXR.out hcx L1.out (Nat.le_refl _) hbe (by rw [ht, HYL.out]))
      have hJ : joinErr (Ph.cut Y s) s = 0 := joinErr_zero.2 ⟨hbe, hcut.1⟩
      have HJ := Lib.hid fun (W : World) (A4 : Option Addr) (c4 : Nat) hr1 hr2 => join_ok A4 n1 c4 (Ph.cut Y s) A1 n1 c1 s Y W W.heap.size hr1 hr2 (Nat.le_refl _) hJ hcut.2
      clear hS hbe ht hcut hJ
      go_wp2_with fail
      refine HSP.out.mono ?_
      rintro e w3 ⟨A4, c4, vs4, rfl, ho, hv, hb⟩
      have HRR := Lib.hid (RdR.own ho hv.rows)
      have M0 := Lib.hid (L0.out.on hb)
      have M1 := Lib.hid (L1.out.on hb)
      have MB := Lib.hid (below_on LB.out hb)
      clear ho hv hb L0 L1 LB HSP
      go_wp2_with fail
      refine (HJ.out _ _ _ HRR.out M1.out).mono ?_
      rintro e w4 ⟨A5, c5, rfl, ho, hb⟩
      rw [HYL.out] at ho ⊢
      have HY := Lib.hid (RdI.own ho)
      have N0 := Lib.hid (M0.out.on hb)
      have NB := Lib.hid (below_on MB.out hb)
      clear ho hb M0 M1 MB HRR HJ
      go_wp2_with fail
      refine (hIN.out _ _ _ HY.out).mono ?_
      rintro e w5 ⟨A6, c6, rfl, ho, hb⟩
      have HZ := Lib.hid (RdI.own ho)
      have P0 := Lib.hid (N0.out.on hb)
      have PB := Lib.hid (below_on NB.out hb)
      clear ho hb N0 NB HY hIN
      go_wp2_with fail
      have hll := HL0.out
      refine (ints_any A6 A0 _ c6 n0 c0 l l _ _ _ HZ.out P0.out (Nat.le_refl _) (Nat.le_refl _) (by omega)).mono ?_
      rintro e w6 ⟨rfl, hb⟩
      rw [sameI_true.2 (rfl : l = l)]
      have Q0 := Lib.hid (P0.out.on hb)
      have QB := Lib.hid (below_on PB.out hb)
      clear hb P0 PB HZ hll
      by_cases he : n0 % 2 = 0
      · have hF : Ph.lapErr l 1000 = 0 := Ph.lapErr_zero.2 ⟨by rw [HL0.out]; exact hn, by rw [HL0.out]; exact he, HLA.out⟩
        have hlen := Ph.lapF_length l (by rw [HL0.out]; exact he)
        have hF4 : Ph.lapErr (Ph.lapF l) 4000 = 0 := Ph.lapErr_zero.2 ⟨by rw [hlen, HL0.out]; exact hn, by rw [hlen, HL0.out]; exact he, Ph.allIn_mono (Ph.lapF_allIn HLA.out) (by omega)⟩
        have HF := Lib.hid (lapF_ok A0 n0 c0 l w6 _ Q0.out (Nat.le_refl _) hF)
        have HG := Lib.hid fun W A c hW hc => lapI_ok A n0 c (Ph.lapF l) W W.heap.size hW (Nat.le_refl _) hc hF4
        rw [Ph.lapI_lapF l (by rw [HL0.out]; exact he)] at HG
        have HLN : Hid ((Ph.lapF l).length = n0) := Lib.hid (by rw [hlen, HL0.out])
        clear hF hF4 hlen he
        go_wp2_with fail
        refine HF.out.mono ?_
        rintro e w7 ⟨A7, c7, rfl, ho, hb⟩
        rw [HLN.out] at ho ⊢
        have hcap := own_cap ho
        have HU := Lib.hid (RdI.own ho)
        have R0 := Lib.hid (Q0.out.on hb)
        have RB := Lib.hid (below_on QB.out hb)
        clear ho hb Q0 QB HF
        go_wp2_with fail
        refine (HG.out _ _ _ HU.out hcap).mono ?_
        rintro e w8 ⟨A8, c8, rfl, ho, hb⟩
        have HV := Lib.hid (RdI.own ho)
        have S0 := Lib.hid (R0.out.on hb)
        have SB := Lib.hid (below_on RB.out hb)
        clear ho hb R0 RB HG HU
        go_wp2_with fail
        have hll := HL0.out
        refine (ints_any A8 A0 _ c8 n0 c0 l l _ _ _ HV.out S0.out (Nat.le_refl _) (Nat.le_refl _) (by omega)).mono ?_
        rintro e w9 ⟨rfl, hb⟩
        rw [sameI_true.2 (rfl : l = l)]
        have TB := Lib.hid (below_on SB.out hb)
        clear hb
        go_wp2_with fail
        go_ret
        exact ⟨ret_true (by simp), TB.out⟩
      · have hF : Ph.lapErr l 1000 ≠ 0 := fun h => he (by have := (Ph.lapErr_zero.1 h).2.1; rwa [HL0.out] at this)
        have HF := Lib.hid (lapF_no A0 n0 c0 l w6 _ Q0.out (Nat.le_refl _) (by omega) hF)
        rw [errV_ne hF] at HF
        have hodd : ((n0 : Int) % 2 != 0) = true := by simp; omega
        clear hF he
        go_wp2_with fail
        refine HF.out.mono ?_
        rintro e w7 ⟨rfl, hb⟩
        have TB := Lib.hid (below_on QB.out hb)
        clear hb HF
        go_wp2_with fail
        go_ret
        exact ⟨ret_true (by simp; try omega), TB.out⟩
    · have HSP := Lib.hid (split_bad AX n0 cx Y A1 n1 c1 s w2 _ L1.out (by omega) HYL.out hS)
      rw [errV_ne hS] at HSP
      clear hS
      go_wp2_with fail
      refine HSP.out.mono ?_
      rintro e w4 ⟨rfl, rfl⟩
      clear HSP
      go_wp2_with fail
      go_ret
      exact ⟨rfl, LB.out⟩
  · have hev := errV_ne hI
    clear hI HX
    go_wp2_with fail
    go_ret
    exact ⟨rfl, LB.out⟩
end Go.Proofs.Ytgadgpkhkncnnaa
