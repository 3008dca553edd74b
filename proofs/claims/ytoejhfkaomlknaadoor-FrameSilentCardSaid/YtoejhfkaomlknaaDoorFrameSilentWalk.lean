/- The walk of the law FrameSilent. -/
import Derived.Test.YtoejhfkaomlknaaDoorTold
import Derived.Test.YtoejhfkaomlknaaDoorSilent
import Derived.Test.YtoejhfkaomlknaaDoorOpen
namespace Go.Proofs.YtoejhfkaomlknaaDoor
open Go.RowKit

set_option maxHeartbeats 4000000 in
set_option maxRecDepth 1000000 in
theorem frameSilent_walk (w : World) (A0 : Option Addr) (n0 c0 : Nat) (s : List Int) (h0 : RdI w w.heap.size A0 n0 s) (hb0 : n0 ≤ c0 ∧ c0 ≤ 17592186044415) (_ : ∀ x ∈ s, Is64 x) (bits : Int) (hg : Laid w) :
    Calls Tryd.prog 5 #[.slice A0 n0 c0, .int .i64 bits] w fun e w' => e = .returned (.bool true) ∧ Below w.heap.size w w' := by
  have HG := Lib.hid hg
  have hn0 : n0 ≤ 100000000000000 := by omega
  by_cases hb : Ph.bandErr s = 0
  · have hb8 := Ph.bandErr_zero.1 hb
    have HBC := Lib.hid (bandCheck_ok A0 n0 c0 s w w.heap.size h0 hb)
    have H0 := Lib.hid h0
    have htp : 0 ≤ Ph.total s := Ph.total_nonneg fun x hx => by have := hb8.2.2.1 x hx; omega
    have htl : Ph.total s ≤ 32 := hb8.2.2.2
    obtain ⟨T, hT⟩ := Int.eq_ofNat_of_zero_le htp
    rw [hT] at HBC htl
    have hT32 : T ≤ 32 := by omega
    have HMK := make_ints T (by omega)
    have HHE := Lib.hid (silent_err (bits := bits) hb hT)
    have HHP := Lib.hid fun hE => silent_parts (s := s) (bits := bits) (T := T) hE
    have HHD := Lib.hid fun hE => silent_told (s := s) (bits := bits) (T := T) hE
    obtain ⟨W1, hW1⟩ : ∃ W1, W1 = w.alloc (.cells (madeCells #[.int .i64 0] T) 3) := ⟨_, rfl⟩
    have HB1 : Hid (Below w.heap.size w W1) := Lib.hid (by rw [hW1]; exact below_alloc0 _ _)
    have HZ1 : Hid (RdI W1 W1.heap.size (some ⟨w.heap.size, 0, none⟩) T (List.replicate T 0)) := Lib.hid (by rw [hW1]; exact RdI.own (made_own w T (by omega)))
    have HEN := Lib.hid (encode_any (some ⟨w.heap.size, 0, none⟩) T T (List.replicate T 0) A0 n0 c0 s bits W1 W1.heap.size HZ1.out (H0.out.on HB1.out) (Nat.le_refl _) (by omega) hn0)
    have HW1 := Lib.hid hW1
    have HTL : Hid (s.length = n0) := Lib.hid h0.len
    have hn8 : n0 ≤ 8 := by have := hb8.2.1; have := h0.len; omega
    have hel := Ph.enc_length (l := List.replicate T 0) (sizes := s) (bits := bits)
    rw [h0.len] at hel
    obtain ⟨E, hE⟩ : ∃ E, E = Ph.encErr (List.replicate T 0) s bits := ⟨_, rfl⟩
    obtain ⟨P, hP⟩ : ∃ P, P = Ph.encoded (List.replicate T 0) s bits := ⟨_, rfl⟩
    rw [← hE] at HEN HHE HHP HHD
    rw [← hP] at HEN HHP HHD hel
    clear h0 hb hb8 htp hT htl hE hP hW1 hg
    by_cases hE0 : E = 0
    · have HPP := Lib.hid (HHP.out hE0)
      have hdd := HHD.out hE0
      subst hE0
      rw [gotP_zero, show ToldP 0 P = ToldP 0 P from rfl] at HEN
      have HPL := Lib.hid hel
      have HDE := Lib.hid fun A c W hW => decode_any A n0 c P W W.heap.size hW (Nat.le_refl _) (by omega) (fun p hp => by have := (Ph.pulsesErr_zero.1 (HPP.out p hp).2.1).1; omega)
      rw [hdd.1, got_zero, hdd.2] at HDE
      clear HHE HHP HHD hdd hel
      go_enter Tryd.func5, Tryd.ntmps5
      go_wp2_with fail
      refine HBC.out.mono ?_
      rintro e w' ⟨rfl, rfl⟩
      go_wp2_with fail
      rw [← HW1.out]
      refine HEN.out.mono ?_
      rintro e w3 ⟨A3, n3, c3, rfl, ho, hb⟩
      have hn3 : n3 = n0 := by have := ho.len; have := HPL.out; omega
      subst hn3
      have HP3 := Lib.hid ho.rd
      have HC3 := Lib.hid ho
      have HB3 := Lib.hid (below_on HB1.out hb)
      rw [errV_zero]
      clear ho hb HEN HW1
      go_wp2_with fail
      go_loopw [10, 11, 12] (fun i _ _ wr => ∃ k : Nat, k ≤ n3 ∧ i = .int .i64 k ∧ Hid (Below w3.heap.size w3 wr)) (fun i _ _ _ => n3 - (intOf i).toNat)
      case atStart => exact ⟨0, Nat.zero_le _, rfl, Lib.hid (Below.refl _ _)⟩
      case round =>
        obtain ⟨k, hk, rfl, HBW⟩ := hrel
        by_cases hlt : k < n3
        · obtain ⟨b5, o5, A5, c5, hA5, hb5, d1, d2, hcc, hrd⟩ := (HP3.out.below HBW.out).at_ hlt
          subst hA5
          have hpk := HPP.out _ (partD_mem (by rw [HPL.out]; exact hlt))
          obtain ⟨p, hp⟩ : ∃ p, p = P.getD k ⟨0, []⟩ := ⟨_, rfl⟩
          rw [← hp] at d1 d2 hcc hrd hpk
          obtain ⟨g, v⟩ := p
          simp only at d1 d2 hcc hrd hpk
          obtain ⟨rfl, hpe, hlv⟩ := hpk
          have hvl : v.length ≤ 6 := (Ph.pulsesErr_zero.1 hpe).1
          have hrd2 := hrd.more HBW.out.size
          obtain ⟨q, hq⟩ : ∃ q, q = v.length := ⟨_, rfl⟩
          rw [← hq] at d2 hcc hrd2 hvl
          have hpc := pCheck_any A5 q c5 v wr wr.heap.size hrd2 (Nat.le_refl _) (by omega)
          rw [hpe, if_pos rfl, errV_zero, hlv] at hpc
          have HPC := Lib.hid hpc
          clear hp hrd hrd2 hq hpc hpe hlv
          go_wp2_with fail
          refine HPC.out.mono ?_
          rintro e w4 ⟨rfl, hb⟩
          have d3 := (hb.cell (World.block_lt_of_cell? wr _ d1)).trans d1
          have HB4 := Lib.hid (below_on HBW.out hb)
          clear hb d1 d2
          go_wp2_with fail
          go_roundw
          case rel => exact ⟨k + 1, by omega, by go_num, HB4⟩
          case measure => simp [intOf]; omega
        · obtain rfl : k = n3 := by omega
          have HB5 := Lib.hid (below_on HB3.out HBW.out)
          have HC5 := Lib.hid (HP3.out.on HBW.out)
          have hkk : ((k : Int) == (k : Int)) = true := by simp
          go_wp2_with fail
          refine (HDE.out _ _ _ HC5.out).mono ?_
          rintro e w6 ⟨A6, c6, rfl, ho, hb⟩
          rw [List.length_replicate] at ho ⊢
          have HB6 := Lib.hid (below_on HB5.out hb)
          have HO6 := Lib.hid (RdI.own ho)
          rw [errV_zero]
          obtain ⟨W7, hW7⟩ : ∃ W7, W7 = w6.alloc (.cells (madeCells #[.int .i64 0] T) 3) := ⟨_, rfl⟩
          have hbe : Below w6.heap.size w6 W7 := by rw [hW7]; exact below_alloc0 _ _
          have HZ7 : Hid (RdI W7 W7.heap.size (some ⟨w6.heap.size, 0, none⟩) T (List.replicate T 0)) := Lib.hid (by rw [hW7]; exact RdI.own (made_own w6 T (by omega)))
          have HIN := Lib.hid (ints_any A6 (some ⟨w6.heap.size, 0, none⟩) T c6 T T _ _ W7 _ _ (HO6.out.on hbe) HZ7.out (Nat.le_refl _) (Nat.le_refl _) (by omega))
          rw [sameI_true.2 rfl] at HIN
          have HB7 := Lib.hid (below_on HB6.out hbe)
          have HW7 := Lib.hid hW7
          clear ho hb hbe hW7 HDE
          go_wp2_with fail
          rw [← HW7.out]
          refine HIN.out.mono ?_
          rintro e w8 ⟨rfl, hb⟩
          have HB8 := Lib.hid (below_on HB7.out hb)
          clear hb
          go_wp2_with fail
          go_ret
          exact ⟨ret_true (by simp), HB8.out⟩
    · have hq := HHE.out hE0
      have hT0 : (0 : Int) ≤ (T : Int) := by omega
      have k1 : (T : Int).tmod 2 = (T : Int) % 2 := Int.tmod_eq_emod_of_nonneg hT0
      rw [gotP_ne hE0] at HEN
      have hcs : ((T : Int) % 2 != 0) = true ∨ (((T : Int) % 2 != 0) = false ∧ bits < 0) ∨ (((T : Int) % 2 != 0) = false ∧ ¬ bits < 0 ∧ 400 < bits) := by
        by_cases h2 : (T : Int) % 2 = 0
        · right
          have e : ((T : Int) % 2 != 0) = false := by simp [h2]
          by_cases h3 : bits < 0
          · exact .inl ⟨e, h3⟩
          · exact .inr ⟨e, h3, by omega⟩
        · left; simp [h2]
      clear HHE HHP HHD hel hq
      rcases hcs with q1 | ⟨q1, q2⟩ | ⟨q1, q2, q3⟩
      all_goals
        go_enter Tryd.func5, Tryd.ntmps5
        go_wp2_with fail
        refine HBC.out.mono ?_
        rintro e w' ⟨rfl, rfl⟩
        go_wp2_with fail
        rw [← HW1.out]
        refine HEN.out.mono ?_
        rintro e w3 ⟨A3, n3, c3, rfl, ho, hb⟩
        have HB3 := Lib.hid (below_on HB1.out hb)
        rw [errV_ne hE0]
        clear ho hb
        go_wp2_with fail
        go_ret
        exact ⟨ret_true (by simp), HB3.out⟩
  · have HBC := Lib.hid (bandCheck_no A0 n0 c0 s w w.heap.size h0 hn0 hb)
    rw [errV_ne hb] at HBC
    have hde := decode_any none 0 0 [] w w.heap.size RdP.nil (Nat.le_refl _) (by omega) (fun p hp => by cases hp)
    rw [show Ph.decErr [] = 5 from rfl, got_ne (by omega)] at hde
    have HDE := Lib.hid hde
    obtain ⟨E, hE⟩ : ∃ E, E = Ph.bandErr s := ⟨_, rfl⟩
    rw [← hE] at HBC
    clear h0 hb hE hde hg
    go_enter Tryd.func5, Tryd.ntmps5
    go_wp2_with fail
    refine HBC.out.mono ?_
    rintro e w' ⟨rfl, rfl⟩
    go_wp2_with fail
    refine HDE.out.mono ?_
    rintro e w3 ⟨A3, c3, rfl, ho, hb⟩
    have HB3 := Lib.hid hb
    clear ho hb
    go_wp2_with fail
    refine (herr_yes 5 _ (HG.out.below HB3.out) (by omega)).mono ?_
    rintro e w4 ⟨rfl, hb⟩
    have HB4 := Lib.hid (below_on HB3.out hb)
    clear hb
    go_wp2_with fail
    go_ret
    exact ⟨rfl, HB4.out⟩
end Go.Proofs.YtoejhfkaomlknaaDoor
