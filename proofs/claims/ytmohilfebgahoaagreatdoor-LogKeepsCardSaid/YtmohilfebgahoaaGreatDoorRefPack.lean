/- The document's answers, walked (chapter 17): a frame as bytes, and out of bytes. -/
import Derived.Test.YtmohilfebgahoaaGreatDoorRefFrame
import Derived.Test.YtmohilfebgahoaaGreatDoorRefWidth
import Derived.Test.YtmohilfebgahoaaGreatDoorRefCount
import Derived.Test.YtmohilfebgahoaaGreatDoorPack
import Derived.Test.YtmohilfebgahoaaGreatDoorUnpack
import Derived.Deep.DeepCutAuto
import Derived.Deep.CutBlock
import Derived.Deep.Cut
namespace Go.Proofs.YtmohilfebgahoaaGreatDoor
open Go.RowKit

set_option maxHeartbeats 4000000 in
set_option maxRecDepth 100000 in
theorem rpack_any (A1 : Option Addr) (n1 c1 : Nat) (ps : List Ph.Part) (A2 : Option Addr) (n2 c2 : Nat) (s : List Int) (bits : Int) (w : World) (B : Nat) (h1 : RdP w B A1 n1 ps) (h2 : RdI w B A2 n2 s) (hB : B ≤ w.heap.size) (hn1 : n1 ≤ 100000000000000) (hn2 : n2 ≤ 100000000000000) (hp : ∀ p ∈ ps, p.pulses.length ≤ 100000000000000) :
    Calls Tryz.prog 42 #[.slice A1 n1 c1, .slice A2 n2 c2, .int .i64 bits] w fun e w' => e = .returned (.tuple #[.string (packS ps s bits), .int .i64 (Ph.packErr ps s bits)]) ∧ Below w.heap.size w w' := by
  have HFC := Lib.hid (rframe_any A1 n1 c1 ps A2 n2 c2 s bits w B h1 h2 hB hn1 hn2 hp)
  by_cases h0 : Ph.frameErr ps s bits = 0
  · have hz := Ph.frameErr_zero.1 h0
    have hpu := pack_puts h0
    have hpe : Ph.packErr ps s bits = if 400 < (Ph.packBits ps).length then 4 else 0 := by unfold Ph.packErr; rw [if_neg (by omega)]
    have hL := h1.len
    have h8 := (Ph.bandErr_zero.1 hz.1).2.1
    have hn8 : n1 ≤ 8 := by have := congrArg List.length hz.2.1; rw [List.length_map] at this; omega
    have HPZ : Hid (∀ p ∈ ps, p.pulses.length ≤ 6 ∧ 0 ≤ Ph.loud p.pulses ∧ Ph.loud p.pulses ≤ 8 ∧ Ph.pulsesErr p.pulses = 0 ∧ Ph.allIn p.pulses 8000 = true) := Lib.hid fun p hp => by
      have h1 := (hz.2.2.1 p hp).2
      have h2 := Ph.pulsesErr_zero.1 h1
      exact ⟨h2.1, Ph.loud_nonneg _, h2.2.2, h1, Ph.allIn_mono h2.2.1 (by omega)⟩
    rw [h0] at HFC
    have HPUT := Lib.hid fun A c A' c' W (hW1 : RdI W W.heap.size A (n1 + n1) (Ph.packNums ps)) (hW2 : RdI W W.heap.size A' (n1 + n1) (Ph.packWide ps)) => rput_any A A' (n1 + n1) (n1 + n1) c c' (Ph.packNums ps) (Ph.packWide ps) W W.heap.size hW1 hW2 (Nat.le_refl _) (by omega) (by omega)
    rw [hpu, ← hpe] at HPUT
    rw [show Ph.spread (Ph.packNums ps) (Ph.packWide ps) = Ph.packBits ps from rfl] at HPUT
    have HPA := Lib.hid fun A n c W (hn : n ≤ 400) (hW : RdI W W.heap.size A n (Ph.packBits ps)) => roctets_any A n c (Ph.packBits ps) W W.heap.size hW (Nat.le_refl _) (Ph.packBits_bits ps) hn
    have HPS0 := Lib.hid fun h => packS_zero (p := ps) (s := s) (bits := bits) h
    have HPSN := Lib.hid fun h => packS_ne (p := ps) (s := s) (bits := bits) h
    have HE4 : Hid (Ph.packErr ps s bits = 0 → (Ph.packBits ps).length ≤ 400) := Lib.hid fun h => by
      rw [hpe] at h
      split at h
      · omega
      · omega
    have HE9 : Hid (Ph.packErr ps s bits ≠ 0 → Ph.packErr ps s bits = 4) := Lib.hid fun h => by
      rw [hpe] at h ⊢
      split at h
      · rw [if_pos (by assumption)]
      · omega
    have HL := Lib.hid hL
    have HNL := Lib.hid (nums_len ps)
    have HWL := Lib.hid (wide_len ps)
    have HNG1 := Lib.hid (nums_get1 ps)
    have HNG2 := Lib.hid (nums_get2 ps)
    have HWG1 := Lib.hid (wide_get1 ps)
    have HWG2 := Lib.hid (wide_get2 ps)
    rw [hL] at HNL HWL HNG1 HNG2 HWG1 HWG2
    obtain ⟨NS, hNS⟩ : ∃ NS, NS = Ph.packNums ps := ⟨_, rfl⟩
    obtain ⟨WS, hWS⟩ : ∃ WS, WS = Ph.packWide ps := ⟨_, rfl⟩
    obtain ⟨PB, hPB⟩ : ∃ PB, PB = Ph.packBits ps := ⟨_, rfl⟩
    obtain ⟨E, hE⟩ : ∃ E, E = Ph.packErr ps s bits := ⟨_, rfl⟩
    obtain ⟨PS, hPS⟩ : ∃ PS, PS = packS ps s bits := ⟨_, rfl⟩
    rw [← hNS] at HPUT HNL HNG1 HNG2
    rw [← hWS] at HPUT HWL HWG1 HWG2
    rw [← hPB] at HPUT HPA HPS0 HE4
    rw [← hE] at HPUT HPS0 HPSN HE4 HE9 ⊢
    rw [← hPS] at HPS0 HPSN ⊢
    have H1 := Lib.hid h1
    clear h1 h2 h0 hz hpu hpe hL h8 hNS hWS hPB hE hPS hp hn1 hn2
    go_enter Tryz.func42, Tryz.ntmps42
    go_wp2_with fail
    refine HFC.out.mono ?_
    rintro e w2 ⟨rfl, hb⟩
    have HB2 := Lib.hid hb
    have HP2 := Lib.hid (H1.out.below (hb.mono hB))
    have hB2 := Nat.le_trans hB hb.size
    clear hb HFC
    go_wp2_with fail
    go_loopw [9, 10, 11] (fun sn sw i wr => ∃ (k : Nat) (v1 v2 : Value), k ≤ n1 ∧ i = .int .i64 k ∧ sn = v1 ∧ sw = v2 ∧ Hid (TwoS w2.heap.size k k v1 v2 (NS.take k) (WS.take k) wr) ∧ Hid (Below w2.heap.size w2 wr)) (fun _ _ i _ => n1 - (intOf i).toNat)
    case atStart => exact ⟨0, .slice none 0 0, .slice none 0 0, Nat.zero_le _, rfl, rfl, rfl, Lib.hid ⟨own_nil _ _ _, own_nil _ _ _, fun q hq => by simp [Value.ownBlock] at hq, Nat.le_refl _⟩, Lib.hid (Below.refl _ _)⟩
    case round =>
      obtain ⟨k, v1, v2, hk, rfl, rfl, rfl, HT, HBW⟩ := hrel
      obtain ⟨A11, k11, rfl⟩ := own_slice HT.out.1
      obtain ⟨A12, k12, rfl⟩ := own_slice HT.out.2.1
      by_cases hlt : k < n1
      · obtain ⟨b0, o0, A4, c4, rfl, hb0, d1, d2, hcc, hrd⟩ := (HP2.out.below (HBW.out.mono hB2)).at_ hlt
        have ht1 := take_snoc (l := NS) (k := k) (by rw [HNL.out]; omega)
        have ht2 := take_snoc (l := WS) (k := k) (by rw [HWL.out]; omega)
        rw [HNG1.out k hlt] at ht1
        rw [HWG1.out k hlt] at ht2
        obtain ⟨g, hg⟩ : ∃ g, g = (ps.getD k ⟨0, []⟩).gain := ⟨_, rfl⟩
        rw [← hg] at d1 ht1
        have HT1 := Lib.hid ht1
        have HT2 := Lib.hid ht2
        have hlt' : (k : Int) < (n1 : Int) := by omega
        clear ht1 ht2 hg hrd hcc d2
        go_wp2_with (first
          | (at_builtin; refine wpList_twoS1 _ (by rfl) _ _ (by rfl) w2 g HT.out HBW.out (by omega) (by rfl) (by rfl) ?_; intro g1 cp1 wa hta hba; have HTA := Lib.hid hta; have HBA1 := Lib.hid hba; clear hta hba)
          | (at_builtin; refine wpList_twoS2 _ (by rfl) _ _ (by rfl) w2 6 HTA.out HBA1.out (by omega) (by rfl) (by rfl) ?_; intro g2 cp2 wb htb hbb; have HTB := Lib.hid htb; have HBB := Lib.hid hbb; clear htb hbb))
        go_roundw
        case rel => exact ⟨k + 1, _, _, by omega, by go_num, rfl, rfl, Lib.hid (by rw [HT1.out, HT2.out]; exact HTB.out), HBB⟩
        case measure => simp [intOf]; omega
      · obtain rfl : k = n1 := by omega
        go_wp2_with fail
        rename World => wa
        have HBA := HBW
        go_loopw [9, 10, 12, 13, 14] (fun sn sw i _ _ wr => ∃ (j : Nat) (v1 v2 : Value), j ≤ k ∧ i = .int .i64 j ∧ sn = v1 ∧ sw = v2 ∧ Hid (TwoS w2.heap.size (k + j) (k + j) v1 v2 (NS.take (k + j)) (WS.take (k + j)) wr) ∧ Hid (Below w2.heap.size w2 wr)) (fun _ _ i _ _ _ => k - (intOf i).toNat)
        case atStart => exact ⟨0, _, _, Nat.zero_le _, rfl, rfl, rfl, HT, HBW⟩
        case round =>
          obtain ⟨j, v1, v2, hj, rfl, rfl, rfl, HT, HBW⟩ := hrel
          obtain ⟨A21, k21, rfl⟩ := own_slice HT.out.1
          obtain ⟨A22, k22, rfl⟩ := own_slice HT.out.2.1
          by_cases hlt : j < k
          · obtain ⟨b0, o0, A4, c4, rfl, hb0, d1', d2', hcc, hrd⟩ := HP2.out.at_ hlt
            have d2 := (HBW.out.cell (p := ⟨b0, o0 + j * 2 + 1, none⟩) (Nat.lt_of_lt_of_le hb0 hB2)).trans d2'
            clear d1'
            have ht1 := take_snoc (l := NS) (k := k + j) (by rw [HNL.out]; omega)
            have ht2 := take_snoc (l := WS) (k := k + j) (by rw [HWL.out]; omega)
            rw [HNG2.out j hlt] at ht1
            rw [HWG2.out j hlt] at ht2
            have hpz := HPZ.out _ (partD_mem (by rw [HL.out]; exact hlt))
            obtain ⟨v, hpe⟩ : ∃ v, v = (ps.getD j ⟨0, []⟩).pulses := ⟨_, rfl⟩
            rw [← hpe] at d2 d2' hcc hrd ht1 ht2 hpz
            obtain ⟨K, hK⟩ := Int.eq_ofNat_of_zero_le hpz.2.1
            obtain ⟨P, hP⟩ : ∃ P, P = v.length := ⟨_, rfl⟩
            rw [hK, ← hP, wid_eq] at ht2
            rw [← hP] at d2 d2' hrd hcc
            have HPL := Lib.hid fun W (hW : RdI W W.heap.size A4 P v) => rrank_any v A4 P c4 W W.heap.size hW (Nat.le_refl _) hcc.1 hpz.2.2.2.1
            have HSU := Lib.hid fun W (hW : RdI W W.heap.size A4 P v) => rloud_any A4 P c4 v W W.heap.size hW hpz.2.2.2.2 (by omega)
            have hcb := Ph.cnt_le P K (by omega) (by omega)
            have HWI := Lib.hid fun W => rcount_any P K W (by omega) (by omega)
            have HBI := Lib.hid fun W => rbits_any (Ph.cnt P K) W hcb
            rw [hK] at HSU
            obtain ⟨Y, hY⟩ : ∃ X, X = Ph.cnt P K := ⟨_, rfl⟩
            rw [← hY] at HWI HBI ht2
            obtain ⟨X, hX⟩ : ∃ X, X = Ph.bitsOf Y := ⟨_, rfl⟩
            rw [← hX] at HBI ht2
            obtain ⟨R, hR⟩ : ∃ R, R = Ph.rank v := ⟨_, rfl⟩
            rw [← hR] at HPL ht1
            have HT1 := Lib.hid ht1
            have HT2 := Lib.hid ht2
            have hlt' : (j : Int) < (k : Int) := by omega
            have HR2 : Hid (RdI w2 w2.heap.size A4 P v) := Lib.hid (hrd.more hB2)
            have hb02 : b0 < w2.heap.size := Nat.lt_of_lt_of_le hb0 hB2
            have HD2 := Lib.hid d2'
            clear ht1 ht2 hpe hrd hcc hP hK hpz hX hR hY hcb d2'
            go_wp2_with fail
            refine (HPL.out _ ((HR2.out.below HBW.out).more HBW.out.size)).mono ?_
            rintro e w3 ⟨rfl, hb⟩
            have HT3 := Lib.hid (HT.out.below hb)
            have HB3 := Lib.hid (below_on HBW.out hb)
            have d3 := (HB3.out.cell (p := ⟨b0, o0 + j * 2 + 1, none⟩) hb02).trans HD2.out
            clear hb d2 HPL HT HBW
            go_upto_region 14 with (fail)
            go_cut [14] (fun s14 wx => s14 = .int .i64 (X : Nat) ∧ Hid (TwoS w2.heap.size (k + j) (k + j) (.slice A21 (k + j) k21) (.slice A22 (k + j) k22) (NS.take (k + j)) (WS.take (k + j)) wx) ∧ Hid (Below w2.heap.size w2 wx))
            case first =>
              have HR3 := Lib.hid ((HR2.out.below HB3.out).more HB3.out.size)
              go_region_with (first
                | (go_at_call 78; refine (HSU.out _ (RdI.drew HR3.out)).mono ?_; rintro e w' ⟨rfl, rfl⟩)
                | (go_at_call 39; refine (HWI.out _).mono ?_; rintro e w5 ⟨rfl, hb5⟩)
                | (go_at_call 40; refine (HBI.out _).mono ?_; rintro e w' ⟨rfl, rfl⟩))
              all_goals go_wp2_with fail
              all_goals go_meet
              all_goals exact ⟨rfl, Lib.hid ((TwoS.drew HT3.out).below hb5), Lib.hid (below_on HB3.out ⟨hb5.os, hb5.tape, hb5.output, hb5.size, hb5.block⟩)⟩
            case rest =>
              obtain ⟨rfl, HT5, HB5⟩ := hcut
              rename World => w5
              clear HT3 HB3 d3
              go_wp2_with (first
                | (at_builtin; refine wpList_twoS1 _ (by rfl) _ _ (by rfl) w2 (R : Int) HT5.out HB5.out (by omega) (by rfl) (by rfl) ?_; intro g1 cp1 wa hta hba; have HTA := Lib.hid hta; have HBA1 := Lib.hid hba; clear hta hba)
                | (at_builtin; refine wpList_twoS2 _ (by rfl) _ _ (by rfl) w2 (X : Int) HTA.out HBA1.out (by omega) (by rfl) (by rfl) ?_; intro g2 cp2 wb htb hbb; have HTB := Lib.hid htb; have HBB := Lib.hid hbb; clear htb hbb))
              go_roundw
              case rel => exact ⟨j + 1, _, _, by omega, by go_num, rfl, rfl, Lib.hid (by rw [show k + (j + 1) = k + j + 1 by omega, HT1.out, HT2.out]; exact HTB.out), HBB⟩
              case measure => simp [intOf]; omega
          · obtain rfl : j = k := by omega
            have ht := HT.out
            rw [List.take_of_length_le (by rw [HNL.out]; omega), List.take_of_length_le (by rw [HWL.out]; omega)] at ht
            have HB5 := Lib.hid (below_on HB2.out (HBW.out.mono (Nat.le_refl _)))
            have HPT := Lib.hid (HPUT.out _ k21 _ k22 wr (RdI.own ht.1) (RdI.own ht.2.1))
            have hlt3 : ¬ (j : Int) < (j : Int) := by omega
            clear ht HPUT HT HBW HNG1 HNG2 HWG1 HWG2
            by_cases hE : E = 0
            · have hl4 := HE4.out hE
              have hps := HPS0.out hE
              subst hE
              subst hps
              rw [got_zero] at HPT
              clear HPSN HE9 HPS0 HE4
              go_wp2_with fail
              refine HPT.out.mono ?_
              rintro e w6 ⟨A6, n6, c6, rfl, ho, hb⟩
              have hR := RdI.own ho
              have hn6 : n6 ≤ 400 := by have := hR.len; omega
              have HPK := Lib.hid (HPA.out A6 n6 c6 w6 hn6 hR)
              have HB6 := Lib.hid (below_on HB5.out hb)
              clear ho hb hR
              go_wp2_with fail
              refine HPK.out.mono ?_
              rintro e w7 ⟨rfl, hb⟩
              have HB7 := Lib.hid (below_on HB6.out hb)
              clear hb
              go_wp2_with fail
              go_ret2
              exact ⟨rfl, HB7.out⟩
            · have hps := HPSN.out hE
              have hEb : (E != 0) = true := by simp [hE]
              subst hps
              rw [got_ne hE] at HPT
              clear HPSN HE9 HPS0 HE4
              go_wp2_with fail
              refine HPT.out.mono ?_
              rintro e w6 ⟨A6, n6, c6, rfl, ho, hb⟩
              have HB6 := Lib.hid (below_on HB5.out hb)
              clear ho hb
              go_wp2_with fail
              go_ret2
              exact ⟨rfl, HB6.out⟩
  · have hpe : Ph.packErr ps s bits = Ph.frameErr ps s bits := by unfold Ph.packErr; rw [if_pos h0]
    have hps : packS ps s bits = ByteArray.empty := packS_ne (by omega)
    rw [hpe, hps]
    obtain ⟨E, hE⟩ : ∃ E, E = Ph.frameErr ps s bits := ⟨_, rfl⟩
    rw [← hE] at HFC h0 ⊢
    have hEb : (E != 0) = true := by simp [h0]
    clear h1 h2 hE hpe hps hp
    go_enter Tryz.func42, Tryz.ntmps42
    go_wp2_with fail
    refine HFC.out.mono ?_
    rintro e w' ⟨rfl, hb⟩
    have HB1 := Lib.hid hb
    clear hb
    go_wp2_with fail
    go_ret2
    exact ⟨rfl, HB1.out⟩
/-- What is read, where a frame is one only if its own bytes are these. -/
theorem unp_parse {b : List Nat} {s : List Int} {bits : Int} {p : List Ph.Part} {r : List Int} (h0 : Ph.bandErr s = 0) (hbi : 0 ≤ bits ∧ bits ≤ 400) (hl : b.length ≤ 50) (hlt : ∀ x ∈ b, x < 256) (hp : Ph.parse (Ph.opened b) s bits = some (p, r)) :
    Ph.packErr p s bits = 0 ∧ Ph.frameErr p s bits = 0 ∧ (strB b = packS p s bits → unpE b s bits = 0 ∧ unpL b s bits = p) ∧ (¬ strB b = packS p s bits → unpE b s bits = 2 ∧ unpL b s bits = []) := by
  have hpb := Ph.parse_back h0 hbi.1 hbi.2 (Ph.opened_bits b) hp
  have hiff := Ph.unpack_iff h0 hbi.1 hbi.2 hlt hp
  have hol : (Ph.opened b).length ≤ 400 := by rw [Ph.opened_length]; omega
  have hpl : (Ph.packBits p).length ≤ 400 := by
    have := congrArg List.length hpb.2
    rw [List.length_append] at this
    omega
  have hpe : Ph.packErr p s bits = 0 := by unfold Ph.packErr; rw [if_neg (by have := hpb.1; omega), if_neg (by omega)]
  have hps := packS_zero hpe
  have hpk : ∀ x ∈ Ph.packed (Ph.packBits p), x < 256 := Ph.packed_lt (Ph.packBits_bits p)
  refine ⟨hpe, hpb.1, fun h => ?_, fun h => ?_⟩
  · have hbb : Ph.packed (Ph.packBits p) = b := by
      have e := congrArg bytesOf h
      rw [hps, bytesOf_strB hlt, bytesOf_strB hpk] at e
      exact e.symm
    have hu := hiff.2 hbb
    have he : unpE b s bits = 0 := by unfold unpE; rw [if_neg (by omega), if_neg (by omega), if_neg (by omega), hu]; rfl
    refine ⟨he, ?_⟩
    unfold unpL; rw [if_pos he, hu]; rfl
  · have hbb : ¬ Ph.packed (Ph.packBits p) = b := fun e => h (by rw [hps, e])
    have hu : Ph.unpack b s bits = none := by
      cases hc : Ph.unpack b s bits with
      | none => rfl
      | some q =>
        exfalso
        apply hbb
        apply hiff.1
        have := hc
        unfold Ph.unpack at this ⊢
        rw [hp] at this ⊢
        simp only at this ⊢
        split at this
        · rename_i h2; rw [if_pos h2]
        · cases this
    have he : unpE b s bits = 2 := by unfold unpE; rw [if_neg (by omega), if_neg (by omega), if_neg (by omega), hu]; rfl
    refine ⟨he, ?_⟩
    unfold unpL; rw [if_neg (by omega)]
end Go.Proofs.YtmohilfebgahoaaGreatDoor
/- The document's answers, walked (chapter 17): a frame out of bytes. -/
namespace Go.Proofs.YtmohilfebgahoaaGreatDoor
open Go.RowKit

theorem parse_none {O s : List Int} {bits : Int} (h : Ph.unGains s.length O = none) : Ph.parse O s bits = none := by unfold Ph.parse; rw [h]
theorem parse_some {O s g r : List Int} {bits : Int} (h : Ph.unGains s.length O = some (g, r)) : Ph.parse O s bits = (Ph.unRows s (Ph.shared (Ph.gainParts g) s bits) r).map fun q => (List.zipWith Ph.Part.mk g q.1, q.2) := by
  unfold Ph.parse
  rw [h]
  simp only
  cases Ph.unRows s (Ph.shared (Ph.gainParts g) s bits) r with
  | none => rfl
  | some q => rfl
/-- Parts of the call's own are told, and the fault's number. -/
def RToldO (E : Int) (ps : List Ph.Part) (w : World) (e : Ending) (w' : World) : Prop :=
  ∃ A n c, e = .returned (.tuple #[.slice A n c, .int .i64 E]) ∧ OwnPV w' w.heap.size A n c ps ∧ Below w.heap.size w w'
theorem RToldO.none (E : Int) {w w' : World} (hb : Below w.heap.size w w') : RToldO E [] w (.returned (.tuple #[.slice none 0 0, .int .i64 E])) w' :=
  ⟨Option.none, 0, 0, rfl, OwnPV.nil _ _, hb⟩
set_option maxHeartbeats 8000000 in
set_option maxRecDepth 100000 in
theorem runpack_own (b : ByteArray) (A2 : Option Addr) (n2 c2 : Nat) (s : List Int) (bits : Int) (w : World) (B : Nat) (h2 : RdI w B A2 n2 s) (hB : B ≤ w.heap.size) (hn : n2 ≤ 100000000000000) (hs : b.size ≤ 140737488351232) :
    Calls Tryz.prog 15 #[.string b, .slice A2 n2 c2, .int .i64 bits] w (RToldO (unpE (bytesOf b) s bits) (unpL (bytesOf b) s bits) w) := by
  have hbl := bytesOf_length b
  have HBC := Lib.hid (rbands_any A2 n2 c2 s w B h2 hn)
  have HUP : Hid (∀ p r, Ph.bandErr s = 0 → (0 ≤ bits ∧ bits ≤ 400) → b.size ≤ 50 → Ph.parse (Ph.opened (bytesOf b)) s bits = some (p, r) → Ph.packErr p s bits = 0 ∧ Ph.frameErr p s bits = 0 ∧ (b = packS p s bits → unpE (bytesOf b) s bits = 0 ∧ unpL (bytesOf b) s bits = p) ∧ (¬ b = packS p s bits → unpE (bytesOf b) s bits = 2 ∧ unpL (bytesOf b) s bits = [])) := Lib.hid fun p r a1 a2 a3 a4 => by
    have := unp_parse a1 a2 (by omega) (bytesOf_lt b) a4
    rw [strB_bytesOf] at this
    exact this
  have HUN : Hid (Ph.bandErr s = 0 → (0 ≤ bits ∧ bits ≤ 400) → b.size ≤ 50 → Ph.parse (Ph.opened (bytesOf b)) s bits = none → unpE (bytesOf b) s bits = 2 ∧ unpL (bytesOf b) s bits = []) := Lib.hid fun a1 a2 a3 a4 => by
    have he : unpE (bytesOf b) s bits = 2 := by
      unfold unpE Ph.unpack; rw [if_neg (by omega), if_neg (by omega), if_neg (by omega), a4]; rfl
    exact ⟨he, by unfold unpL; rw [if_neg (by omega)]⟩
  have HE0 : Hid (unpE (bytesOf b) s bits = if Ph.bandErr s ≠ 0 then Ph.bandErr s else if bits < 0 ∨ 400 < bits then 1 else if 50 < b.size then 2 else if (Ph.unpack (bytesOf b) s bits).isSome = true then 0 else 2) := Lib.hid (by rw [← hbl]; rfl)
  have HL0 : Hid (unpE (bytesOf b) s bits ≠ 0 → unpL (bytesOf b) s bits = []) := Lib.hid fun h => by unfold unpL; rw [if_neg h]
  obtain ⟨E, hE⟩ : ∃ E, E = unpE (bytesOf b) s bits := ⟨_, rfl⟩
  obtain ⟨L9, hL9⟩ : ∃ L, L = unpL (bytesOf b) s bits := ⟨_, rfl⟩
  rw [← hE] at HE0 HUP HUN HL0 ⊢
  rw [← hL9] at HUP HUN HL0 ⊢
  clear hE hL9
  by_cases h0 : Ph.bandErr s = 0
  · rw [h0] at HBC
    obtain ⟨BN, hBN⟩ : ∃ N, N = bandN s := ⟨_, rfl⟩
    rw [← hBN] at HBC
    clear hBN
    by_cases hbi : 0 ≤ bits ∧ bits ≤ 400
    · have hbi1 : ¬ bits < 0 := by omega
      have hbi2 : ¬ 400 < bits := by omega
      by_cases hsz : 50 < b.size
      · have e : E = 2 := by rw [HE0.out, if_neg (by omega), if_neg (by omega), if_pos hsz]
        subst e
        have e2 := HL0.out (by omega)
        subst e2
        have hsz' : (50 : Int) < (b.size : Int) := by omega
        clear h2 h0 hbi hbl HE0 HL0 HUP HUN
        go_enter Tryz.func15, Tryz.ntmps15
        go_wp2_with fail
        refine HBC.out.mono ?_
        rintro e w' ⟨rfl, rfl⟩
        go_wp2_with fail
        go_ret2
        exact RToldO.none _ (Below.refl _ _)
      · have hsz' : ¬ (50 : Int) < (b.size : Int) := by omega
        have hb8 := Ph.bandErr_zero.1 h0
        have hn8 : n2 ≤ 8 := by have := hb8.2.1; have := h2.len; omega
        have HSP : Hid (∀ x ∈ s, 1 ≤ x ∧ x ≤ 6) := Lib.hid hb8.2.2.1
        have HS := Lib.hid h2.len
        have H2 := Lib.hid (h2.more hB)
        have HB0 := Lib.hid h0
        have HBI := Lib.hid hbi
        have HOP := Lib.hid (ropen_any b w (by omega))
        have hol : (Ph.opened (bytesOf b)).length ≤ 400 := by rw [Ph.opened_length, bytesOf_length]; omega
        have hob := Ph.opened_bits (bytesOf b)
        have HUP2 := Lib.hid fun p r => HUP.out p r h0 hbi (by omega)
        have HUN2 := Lib.hid (HUN.out h0 hbi (by omega))
        obtain ⟨O, hO⟩ : ∃ O, O = Ph.opened (bytesOf b) := ⟨_, rfl⟩
        rw [← hO] at HOP hol hob HUP2 HUN2
        have HPR : Hid ((Ph.unGains n2 O = none → Ph.parse O s bits = none) ∧ ∀ g r, Ph.unGains n2 O = some (g, r) → Ph.parse O s bits = (Ph.unRows s (Ph.shared (Ph.gainParts g) s bits) r).map fun q => (List.zipWith Ph.Part.mk g q.1, q.2)) := Lib.hid ⟨fun h => parse_none (by rw [HS.out]; exact h), fun g r h => parse_some (by rw [HS.out]; exact h)⟩
        obtain ⟨R, hR⟩ : ∃ R, R = Ph.parse O s bits := ⟨_, rfl⟩
        rw [← hR] at HUP2 HUN2 HPR
        have HUB := Lib.hid fun (g r : List Int) h => Ph.unGains_back (n := n2) (x := O) (g := g) (r := r) hob h
        have HOB := Lib.hid hob
        obtain ⟨N, hN⟩ : ∃ N, N = O.length := ⟨_, rfl⟩
        have HN := Lib.hid hN
        rw [← hN] at hol
        clear h2 h0 hb8 hbi hbl hsz hob hO hN hR HE0 HL0 HUP HUN
        go_enter Tryz.func15, Tryz.ntmps15
        go_wp2_with fail
        refine HBC.out.mono ?_
        rintro e w' ⟨rfl, rfl⟩
        go_wp2_with fail
        refine HOP.out.mono ?_
        rintro e w1 ⟨A1, c1, rfl, ho, hb⟩
        rw [← HN.out] at ho ⊢
        have HO1 := Lib.hid ho
        have HB1 := Lib.hid hb
        have hcN := own_cap ho
        clear ho hb HOP HBC
        go_wp2_with fail
        go_loopw [11, 12, 13, 14, 15, 16] (fun o at_ i _ _ _ wr => ∃ (k T : Nat) (A5 : Option Addr) (c5 : Nat) (G : List Int), k ≤ n2 ∧ i = .int .i64 k ∧ T = 6 * k ∧ at_ = .int .i64 T ∧ o = .slice A5 k c5 ∧ Hid (OwnPV wr w1.heap.size A5 k c5 (Ph.gainParts G)) ∧ Hid (Ph.unGains n2 O = (Ph.unGains (n2 - k) (O.drop T)).map (fun q => (G ++ q.1, q.2))) ∧ T ≤ N ∧ Hid (Below w1.heap.size w1 wr)) (fun _ _ i _ _ _ _ => n2 - (intOf i).toNat)
        case atStart => exact ⟨0, 0, none, 0, [], Nat.zero_le _, rfl, rfl, rfl, rfl, Lib.hid (OwnPV.nil _ _), Lib.hid (by simp), Nat.zero_le _, Lib.hid (Below.refl _ _)⟩
        case round =>
          obtain ⟨k, T, A5, c5, G, hk, rfl, hT, rfl, rfl, HP, HU, hTN, HBW⟩ := hrel
          by_cases hlt : k < n2
          · have hu := HU.out
            obtain ⟨m, hm⟩ : ∃ m, n2 - k = m + 1 := ⟨n2 - k - 1, by omega⟩
            rw [hm, unGains_step] at hu
            have hdl : (O.drop T).length = N - T := by rw [List.length_drop, HN.out]
            have hlt' : (k : Int) < (n2 : Int) := by omega
            have ky : IntKind.i64.wrap ((T : Int) + 6) = (T : Int) + 6 := IntWalk.i64_in _ (by omega)
            by_cases h6 : N < T + 6
            · rw [if_pos (by omega)] at hu
              have hr : R = none := HPR.out.1 (by rw [hu]; try rfl)
              obtain ⟨e, e2⟩ := HUN2.out hr
              subst e
              subst e2
              have h6' : (N : Int) < (T : Int) + 6 := by omega
              clear hu hdl HPR hr HUN2 HUP2 hT hm
              go_wp2_with fail
              go_ret2
              exact RToldO.none _ (below_on HB1.out HBW.out)
            · rw [if_neg (by omega)] at hu
              have h6' : ¬ (N : Int) < (T : Int) + 6 := by omega
              have hrd := (((RdI.own HO1.out).below HBW.out).drop (k := T) (by omega)).take (k := 6) (by omega)
              have hbt : Ph.isBits ((O.drop T).take 6) := fun x hx => HOB.out x (List.mem_of_mem_drop (List.mem_of_mem_take hx))
              have hlt6 := Ph.number_lt hbt
              have hl6 : ((O.drop T).take 6).length = 6 := by rw [List.length_take, hdl]; omega
              rw [hl6] at hlt6
              have HGA := Lib.hid fun c => rnumber_any _ 6 c _ wr w1.heap.size hrd hbt (by omega)
              have hdd : (O.drop T).drop 6 = O.drop (T + 6) := by rw [List.drop_drop]
              rw [hdd] at hu
              obtain ⟨M, hM⟩ : ∃ N, N = Ph.number ((O.drop T).take 6) := ⟨_, rfl⟩
              rw [← hM] at HGA hu hlt6
              have hgk : Ph.gainOk (M : Int) = Ph.valued M := by unfold Ph.gainOk; rw [Int.toNat_natCast]; simp
              have HGV := Lib.hid fun W => rvalue_all (M : Int) W
              rw [valB_ok, hgk] at HGV
              obtain ⟨V, hV⟩ : ∃ V, V = valV (M : Int) := ⟨_, rfl⟩
              rw [← hV] at HGV
              have hcT : ¬ c1 = T := by omega
              by_cases hv : Ph.valued M = true
              · rw [if_pos hv] at hu
                rw [hv] at HGV
                have HU2 : Hid (Ph.unGains n2 O = (Ph.unGains (n2 - (k + 1)) (O.drop (T + 6))).map (fun q => ((G ++ [(M : Int)]) ++ q.1, q.2))) := Lib.hid (by
                  rw [hu, show n2 - (k + 1) = m by omega, Option.map_map]
                  congr 1
                  funext q
                  simp)
                have hT6 : T + 6 = 6 * (k + 1) := by omega
                have HT6 := Lib.hid hT6
                clear hu hdl HPR hrd hbt hl6 hdd hM hgk hv hV hm hT hT6
                go_wp2_with fail
                refine (HGA.out _).mono ?_
                rintro e w' ⟨rfl, rfl⟩
                go_wp2_with fail
                refine (HGV.out _).mono ?_
                rintro e w3 ⟨rfl, rfl⟩
                go_wp2_with (at_builtin; refine wpList_pushP _ (by rfl) _ _ (by rfl) w1 w1.heap.size A5 k c5 _ (M : Int) HP.out HBW.out HBW.out.size (by omega) (by rfl) (by rfl) ?_; intro g cap w9 hp9 hb9 hg9)
                have HP9 := Lib.hid hp9
                have HB9 := Lib.hid hb9
                clear hp9 hb9 hg9
                go_wp2_with fail
                go_roundw
                case rel => exact ⟨k + 1, T + 6, some ⟨g, 0, none⟩, cap, G ++ [(M : Int)], by omega, by go_num, HT6.out, by go_num, rfl, Lib.hid (by have := HP9.out; unfold Ph.gainParts at *; rw [List.map_append]; exact this), HU2, by omega, HB9⟩
                case measure => simp [intOf]; omega
              · have hv' : Ph.valued M = false := by simpa using hv
                rw [if_neg hv] at hu
                rw [hv'] at HGV
                have hr : R = none := HPR.out.1 (by rw [hu]; try rfl)
                obtain ⟨e, e2⟩ := HUN2.out hr
                subst e
                subst e2
                clear hu hdl HPR hrd hbt hl6 hdd hM hgk hv hv' hV hm hT hr HUN2 HUP2
                go_wp2_with fail
                refine (HGA.out _).mono ?_
                rintro e w' ⟨rfl, rfl⟩
                go_wp2_with fail
                refine (HGV.out _).mono ?_
                rintro e w3 ⟨rfl, rfl⟩
                go_wp2_with fail
                go_ret2
                exact RToldO.none _ (below_on HB1.out HBW.out)
          · obtain rfl : k = n2 := by omega
            have hu := HU.out
            rw [Nat.sub_self] at hu
            simp only [Ph.unGains, Option.map_some, List.append_nil] at hu
            have hub := HUB.out _ _ hu
            have hpr := HPR.out.2 _ _ hu
            have hgok : ∀ p ∈ Ph.gainParts G, Ph.gainOk p.gain = true := fun p hp => by
              obtain ⟨x, hx, rfl⟩ := List.mem_map.1 hp
              exact hub.2.1 x hx
            have HBX := Lib.hid (below_on HB1.out HBW.out)
            have HGI := Lib.hid (rgiven_own A5 k c5 (Ph.gainParts G) A2 c2 s bits wr wr.heap.size w.heap.size HP.out.rd (H2.out.below HBX.out) (Nat.le_refl _) HBX.out.size hgok HB0.out HBI.out)
            have hso := Ph.share_ok (s := s) (loud := Ph.vals (Ph.gainParts G)) (bits := bits) HBI.out.1
            obtain ⟨K, hK⟩ : ∃ K, K = Ph.shared (Ph.gainParts G) s bits := ⟨_, rfl⟩
            have hKo : Ph.pulsesOk K := by rw [hK]; exact hso.2.1
            have hKl : K.length = k := by rw [hK, ← HS.out]; exact hso.1
            rw [← hK] at HGI hpr
            have HGL := Lib.hid hub.1
            have HKO := Lib.hid hKo
            have HKL := Lib.hid hKl
            have HRR := Lib.hid hpr
            have hlt3 : ¬ (k : Int) < (k : Int) := by omega
            clear hu hub hpr hgok hso hK hKo hKl HU HPR HUB hT
            go_wp2_with fail
            refine HGI.out.mono ?_
            rintro e w3 ⟨A34, c34, rfl, ho, hb⟩
            have HK3 := Lib.hid (own_more ho HBW.out.size)
            have HP3 : Hid (OwnPV w3 w1.heap.size A5 k c5 (rowsTo G [])) := Lib.hid (by rw [rowsTo_nil]; exact HP.out.below' hb)
            have HB3 := Lib.hid (below_on HBW.out hb)
            clear ho hb HGI HP HBW HBX hlt hlt3
            go_wp2_with fail
            go_loopw [12, 18, 19, 20, 21] (fun at_ i _ _ _ wr => ∃ (j T : Nat) (L : List (List Int)), j ≤ k ∧ i = .int .i64 j ∧ at_ = .int .i64 T ∧ L.length = j ∧ T ≤ N ∧ Hid (OwnPV wr w1.heap.size A5 k c5 (rowsTo G L)) ∧ Hid (wr.ownsRow w1.heap.size 3 1 (.slice A34 k c34) k (ivals K)) ∧ Hid (R = (Ph.unRows (s.drop j) (K.drop j) (O.drop T)).map (fun q => (List.zipWith Ph.Part.mk G (L ++ q.1), q.2))) ∧ Hid (Below w1.heap.size w1 wr)) (fun _ i _ _ _ _ => k - (intOf i).toNat)
            case atStart => exact ⟨0, T, [], Nat.zero_le _, rfl, rfl, rfl, hTN, HP3, HK3, Lib.hid (by rw [HRR.out]; simp), HB3⟩
            case round =>
              clear HP3 HK3 HB3 HRR hTN
              obtain ⟨j, T, L, hj, rfl, rfl, hLj, hTN, HP, HK, HU, HBW⟩ := hrel
              have HLJ := Lib.hid hLj
              by_cases hlt : j < k
              · have hks : j < s.length := by rw [HS.out]; exact hlt
                have hkK : j < K.length := by rw [HKL.out]; exact hlt
                have hu := HU.out
                rw [drop_cons hks, drop_cons hkK, unRows_step] at hu
                have hx := HSP.out _ (Ph.getD_mem (l := s) (i := j) hks)
                have hy := Ph.pulsesOk_getD HKO.out j
                have HBX := Lib.hid (below_on HB1.out HBW.out)
                obtain ⟨b0, o0, rfl, hb0, d1⟩ := (H2.out.below HBX.out).at_ hlt
                obtain ⟨b6, o6, hA6, hb6, d6⟩ := (RdI.own HK.out).at_ hlt
                subst hA6
                obtain ⟨x, hxe⟩ : ∃ x, x = s.getD j 0 := ⟨_, rfl⟩
                obtain ⟨y, hye⟩ : ∃ y, y = K.getD j 0 := ⟨_, rfl⟩
                rw [← hxe] at hu hx d1
                rw [← hye] at hu hy d6
                obtain ⟨X, rfl⟩ := Int.eq_ofNat_of_zero_le (show 0 ≤ x by omega)
                obtain ⟨Y, rfl⟩ := Int.eq_ofNat_of_zero_le hy.1
                rw [wid_eq, Int.toNat_natCast, Int.toNat_natCast, Int.toNat_natCast] at hu
                have hcb := Ph.cnt_le X Y (by omega) (by omega)
                have HCO := Lib.hid fun W => rcount_any X Y W (by omega) (by omega)
                have HBT := Lib.hid fun W => rbits_any (Ph.cnt X Y) W hcb
                have HRW := Lib.hid fun Q W h => rrow_own X Y Q W (by omega) (by omega) h
                obtain ⟨C, hC⟩ : ∃ C, C = Ph.cnt X Y := ⟨_, rfl⟩
                rw [← hC] at hu HCO HBT hcb HRW
                have hvb := bits_le _ hcb
                obtain ⟨V, hV⟩ : ∃ V, V = Ph.bitsOf C := ⟨_, rfl⟩
                rw [← hV] at hu HBT hvb
                have hdl : (O.drop T).length = N - T := by rw [List.length_drop, HN.out]
                have hlt' : (j : Int) < (k : Int) := by omega
                have ky : IntKind.i64.wrap ((T : Int) + (V : Int)) = (T : Int) + (V : Int) := IntWalk.i64_in _ (by omega)
                have D1 : Hid (∀ W, Below w1.heap.size w1 W → W.cell? ⟨b0, o0 + j, none⟩ = some (.int .i64 (X : Int))) := Lib.hid fun W hW => by
                  obtain ⟨b1, o1, hA1, _, dd⟩ := (H2.out.below (below_on HB1.out hW)).at_ hlt
                  obtain ⟨rfl, rfl⟩ : b0 = b1 ∧ o0 = o1 := by simpa using hA1
                  rw [← hxe] at dd
                  exact dd
                clear hxe hye hks hkK hx hC hV
                go_upto_region 26 with (fail)
                go_cut [19] (fun s19 wx => s19 = .int .i64 (C : Nat) ∧ Hid (Below wr.heap.size wr wx))
                case first =>
                  go_region_with (go_at_call 39; refine (HCO.out _).mono ?_; rintro e w5 ⟨rfl, hb5⟩)
                  all_goals go_wp2_with fail
                  all_goals go_meet
                  all_goals exact ⟨rfl, Lib.hid ⟨hb5.os, hb5.tape, hb5.output, hb5.size, hb5.block⟩⟩
                case rest =>
                  obtain ⟨rfl, HB5⟩ := hcut
                  rename World => w5
                  have HP5 := Lib.hid (HP.out.below' HB5.out)
                  have HK5 := Lib.hid (own_below' HK.out HB5.out)
                  have HBW5 := Lib.hid (below_on HBW.out HB5.out)
                  have e1 := D1.out _ HBW5.out
                  have e6 := (HB5.out.cell (World.block_lt_of_cell? wr _ d6)).trans d6
                  clear d1 d6 HP HK HBW HCO HB5
                  by_cases h6 : N < T + V
                  · rw [if_pos (by omega)] at hu
                    obtain ⟨e, e2⟩ := HUN2.out hu
                    subst e
                    subst e2
                    have h6' : (N : Int) < (T : Int) + (V : Int) := by omega
                    clear hu hdl HU HUN2 HUP2
                    go_wp2_with fail
                    refine (HBT.out _).mono ?_
                    rintro e w' ⟨rfl, rfl⟩
                    go_wp2_with fail
                    go_ret2
                    exact RToldO.none _ (below_on HB1.out HBW5.out)
                  · rw [if_neg (by omega)] at hu
                    have h6' : ¬ (N : Int) < (T : Int) + (V : Int) := by omega
                    have hbt : Ph.isBits ((O.drop T).take V) := fun x hx => HOB.out x (List.mem_of_mem_drop (List.mem_of_mem_take hx))
                    have HGA := Lib.hid fun c => rnumber_any _ V c _ w5 w1.heap.size ((((RdI.own HO1.out).below HBW5.out).drop (k := T) (by omega)).take (k := V) (by omega)) hbt (by omega)
                    have HGA0 := Lib.hid fun (h : V = 0) c => rnumber_any A1 V c ((O.drop T).take V) w5 w1.heap.size (by subst h; exact RdI.nil) hbt (by omega)
                    have hdd : (O.drop T).drop V = O.drop (T + V) := by rw [List.drop_drop]
                    rw [hdd] at hu
                    obtain ⟨M, hM⟩ : ∃ N, N = Ph.number ((O.drop T).take V) := ⟨_, rfl⟩
                    rw [← hM] at HGA HGA0 hu
                    have hTV : T + V ≤ N := by omega
                    clear hM hdd hdl hbt h6
                    go_wp2_with fail
                    refine (HBT.out _).mono ?_
                    rintro e w' ⟨rfl, rfl⟩
                    go_upto_region 30 with (fail)
                    go_cut [21] (fun s21 wx => s21 = .int .i64 (M : Nat) ∧ wx = w5)
                    case first =>
                      rcases Nat.lt_or_ge T c1 with hTc | hTc
                      · have hTc' : ¬ c1 = T := by omega
                        clear hTc
                        go_wp2_with fail
                        refine (HGA.out _).mono ?_
                        rintro e w' ⟨rfl, rfl⟩
                        go_wp2_with fail
                        go_meet
                        case rel => exact ⟨rfl, rfl⟩
                      · obtain rfl : T = c1 := by omega
                        have HN9 := Lib.hid (HGA0.out (by omega))
                        clear hTc
                        go_wp2_with fail
                        refine (HN9.out _).mono ?_
                        rintro e w' ⟨rfl, rfl⟩
                        go_wp2_with fail
                        go_meet
                        case rel => exact ⟨rfl, rfl⟩
                    case rest =>
                      obtain ⟨rfl, rfl⟩ := hcut
                      rename World => w5
                      clear HGA HGA0 HBT
                      by_cases hc : M < C
                      · rw [if_pos hc] at hu
                        have HRX := Lib.hid (Ph.rowOf_length X Y M)
                        have HRM := Lib.hid fun W => HRW.out M W hc
                        obtain ⟨RW, hRW⟩ : ∃ r, r = Ph.rowOf X Y M := ⟨_, rfl⟩
                        rw [← hRW] at hu HRX HRM
                        have HRO : Hid (R = (Ph.unRows (s.drop (j + 1)) (K.drop (j + 1)) (O.drop (T + V))).map (fun q => (List.zipWith Ph.Part.mk G ((L ++ [RW]) ++ q.1), q.2))) := Lib.hid (by
                          rw [hu, Option.map_map]
                          congr 1
                          funext q
                          simp)
                        have hc' : ¬ (C : Int) ≤ (M : Int) := by omega
                        obtain ⟨g5, rfl, hg5, hg5l⟩ := HP5.out.form (by omega)
                        obtain ⟨⟨p1, p2⟩, ⟨A0, c0, p3, _⟩, p4⟩ := HP5.out.cells hlt
                        obtain ⟨P0, hP0⟩ : ∃ P0, P0 = ((rowsTo G L).getD j ⟨0, []⟩).pulses.length := ⟨_, rfl⟩
                        rw [← hP0] at p3
                        have hrs := rowsTo_set G L RW (by rw [HGL.out, hLj]; exact hlt)
                        rw [hLj] at hrs
                        have HRS := Lib.hid hrs
                        clear hu hRW HU HRW hc p1 p2 hP0 hrs
                        go_wp2_with fail
                        go_region_with (go_at_call 41; refine (HRM.out _).mono ?_; rintro e w6 ⟨A80, c80, rfl, ho, hb⟩; have q3 := (hb.cell (p := ⟨g5, j * 2 + 1, none⟩) hg5l).trans p3; have q4 := (hb.frozen (p := ⟨g5, j * 2 + 1, none⟩) hg5l).trans p4)
                        all_goals
                          have hb' : Below w5.heap.size w5 w6 := ⟨hb.os, hb.tape, hb.output, hb.size, hb.block⟩
                          have HO6 := Lib.hid (own_more ho HBW5.out.size)
                          have HP6 := Lib.hid (HP5.out.below' hb')
                          have HK6 := Lib.hid (own_below' HK5.out hb')
                          have HB6 := Lib.hid (below_on HBW5.out hb')
                          clear ho hb hb'
                          go_wp2_with fail
                          have hst := HP6.out.setRow hlt ⟨A80, c80, by rw [HRX.out], by rw [HRX.out]; exact HO6.out⟩
                          go_roundw
                          case rel => exact ⟨j + 1, T + V, L ++ [RW], by omega, by go_num, by go_num, by simp [hLj], hTV, Lib.hid (by have h := hst.1; rw [HRS.out] at h; exact h), Lib.hid (HP6.out.keeps (by decide) HK6.out hst.2), HRO, Lib.hid (HB6.out.setCell (p := ⟨g5, j * 2 + 1, none⟩) hg5 _)⟩
                          case measure => simp [intOf]; omega
                      · rw [if_neg hc] at hu
                        obtain ⟨e, e2⟩ := HUN2.out hu
                        subst e
                        subst e2
                        have hc' : (C : Int) ≤ (M : Int) := by omega
                        clear hu HU HUN2 HUP2 HRW hc
                        go_wp2_with fail
                        go_ret2
                        exact RToldO.none _ (below_on HB1.out HBW5.out)
              · obtain rfl : j = k := by omega
                have hu := HU.out
                rw [List.drop_of_length_le (by rw [HS.out]; omega), List.drop_of_length_le (by rw [HKL.out]; omega)] at hu
                simp only [Ph.unRows, Option.map_some, List.append_nil] at hu
                obtain ⟨u1, u2, u3, u4⟩ := HUP2.out _ _ hu
                have hrt := rowsTo_all G L (by rw [HGL.out, hLj])
                rw [hrt] at HP
                obtain ⟨p, hp⟩ : ∃ p, p = List.zipWith Ph.Part.mk G L := ⟨_, rfl⟩
                rw [← hp] at u1 u2 u3 u4 HP
                have hp6 : ∀ q ∈ p, q.pulses.length ≤ 100000000000000 := fun q hq => by
                  have h2 := (Ph.frameErr_zero.1 u2).2.2.1 q hq
                  have := (Ph.pulsesErr_zero.1 h2.2).1
                  omega
                have HBX := Lib.hid (below_on HB1.out HBW.out)
                have HRK := Lib.hid (rpack_any A5 j c5 p A2 j c2 s bits wr wr.heap.size HP.out.rd ((H2.out.below HBX.out).more HBX.out.size) (Nat.le_refl _) (by omega) (by omega) hp6)
                rw [u1] at HRK
                have hlt3 : ¬ (j : Int) < (j : Int) := by omega
                by_cases hS : b = packS p s bits
                · obtain ⟨e, e2⟩ := u3 hS
                  subst e
                  subst e2
                  rw [← hS] at HRK
                  have hsb := str_eq (rfl : b = b)
                  clear hu u1 u2 u3 u4 hrt hp6 hS HU HUP2 HUN2 hp
                  go_wp2_with fail
                  refine HRK.out.mono ?_
                  rintro e w9 ⟨rfl, hb⟩
                  have HP9 := Lib.hid ((HP.out.more HB1.out.size).below' hb)
                  have HB9 := Lib.hid (below_on HBX.out hb)
                  clear hb
                  go_wp2_with fail
                  go_ret2
                  exact ⟨A5, j, c5, rfl, HP9.out, HB9.out⟩
                · obtain ⟨e, e2⟩ := u4 hS
                  subst e
                  subst e2
                  obtain ⟨S', hS'⟩ : ∃ S', S' = packS p s bits := ⟨_, rfl⟩
                  rw [← hS'] at hS HRK
                  have hsb := str_ne (fun e => hS e.symm : ¬ S' = b)
                  clear hu u1 u2 u3 u4 hrt hp6 hS HU HUP2 HUN2 hp hS'
                  go_wp2_with fail
                  refine HRK.out.mono ?_
                  rintro e w9 ⟨rfl, hb⟩
                  have HB9 := Lib.hid (below_on HBX.out hb)
                  clear hb
                  go_wp2_with fail
                  go_ret2
                  exact RToldO.none _ HB9.out
    · have e : E = 1 := by rw [HE0.out, if_neg (by omega), if_pos (by omega)]
      subst e
      have e2 := HL0.out (by omega)
      subst e2
      clear h2 h0 hbl HE0 HL0 HUP HUN
      by_cases hb1 : bits < 0
      · clear hbi
        go_enter Tryz.func15, Tryz.ntmps15
        go_wp2_with fail
        refine HBC.out.mono ?_
        rintro e w' ⟨rfl, rfl⟩
        go_wp2_with fail
        go_ret2
        exact RToldO.none _ (Below.refl _ _)
      · have hb2 : 400 < bits := by omega
        clear hbi
        go_enter Tryz.func15, Tryz.ntmps15
        go_wp2_with fail
        refine HBC.out.mono ?_
        rintro e w' ⟨rfl, rfl⟩
        go_wp2_with fail
        go_ret2
        exact RToldO.none _ (Below.refl _ _)
  · have e : E = Ph.bandErr s := by rw [HE0.out, if_pos h0]
    rw [← e] at h0 HBC
    have e2 := HL0.out h0
    subst e2
    have hEb : (E != 0) = true := by simp [h0]
    obtain ⟨BN, hBN⟩ : ∃ N, N = bandN s := ⟨_, rfl⟩
    rw [← hBN] at HBC
    clear h2 hbl HE0 HL0 HUP HUN e hBN
    go_enter Tryz.func15, Tryz.ntmps15
    go_wp2_with fail
    refine HBC.out.mono ?_
    rintro e w' ⟨rfl, rfl⟩
    go_wp2_with fail
    go_ret2
    exact RToldO.none _ (Below.refl _ _)
theorem runpack_any (b : ByteArray) (A2 : Option Addr) (n2 c2 : Nat) (s : List Int) (bits : Int) (w : World) (B : Nat) (h2 : RdI w B A2 n2 s) (hB : B ≤ w.heap.size) (hn : n2 ≤ 100000000000000) (hs : b.size ≤ 140737488351232) :
    Calls Tryz.prog 15 #[.string b, .slice A2 n2 c2, .int .i64 bits] w (RToldP (unpE (bytesOf b) s bits) (unpL (bytesOf b) s bits) w) := by
  refine (runpack_own b A2 n2 c2 s bits w B h2 hB hn hs).mono ?_
  rintro e w' ⟨A, n, c, rfl, ho, hb⟩
  exact ⟨A, n, c, rfl, ho.rd, hb⟩
end Go.Proofs.YtmohilfebgahoaaGreatDoor
