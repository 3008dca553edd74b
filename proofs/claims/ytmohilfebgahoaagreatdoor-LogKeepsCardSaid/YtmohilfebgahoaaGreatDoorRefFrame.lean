/- The document's answers, walked (chapter 16): pulses by gains. -/
import Derived.Test.YtmohilfebgahoaaGreatDoorFrame
import Derived.Test.YtmohilfebgahoaaGreatDoorFrameC
import Derived.Test.YtmohilfebgahoaaGreatDoorRefGain
import Derived.Test.YtmohilfebgahoaaGreatDoorRefShare
import Derived.Test.YtmohilfebgahoaaGreatDoorRefPulse
import Derived.Test.YtmohilfebgahoaaGreatDoorRefBand
import Derived.Test.YtmohilfebgahoaaGreatDoorRefNear
import Derived.Test.YtmohilfebgahoaaGreatDoorRefLap
namespace Go.Proofs.YtmohilfebgahoaaGreatDoor
open Go.RowKit

theorem rvalue_all (g : Int) (w : World) : Calls Tryz.prog 37 #[.int .i64 g] w fun e w' => e = .returned (.tuple #[.int .i64 (valV g), .bool (valB g)]) ∧ w = w' := by
  by_cases h : g < 0 ∨ 53 < g
  · exact rvalue_no g w h
  · obtain ⟨q, rfl⟩ := Int.eq_ofNat_of_zero_le (by omega : 0 ≤ g)
    exact rvalue_in q w (by omega)
theorem valB_ok (g : Int) : valB g = Ph.gainOk g := by
  unfold valB
  by_cases h : Ph.gainOk g = true
  · have h1 := Ph.gainOk_le h
    have h2 := h
    unfold Ph.gainOk at h2
    rw [Bool.and_eq_true] at h2
    rw [h, h2.2]; simp; omega
  · have h1 : Ph.gainOk g = false := by simpa using h
    rw [h1]
    unfold Ph.gainOk at h1
    cases hv : Ph.valued g.toNat with
    | false => simp
    | true => rw [hv] at h1; simp at h1; simp; omega
theorem valV_ok {g : Int} (h : Ph.gainOk g = true) : valV g = Ph.val g := by
  unfold valV
  rw [if_pos (by rw [valB_ok]; exact h)]
  rfl
set_option maxHeartbeats 2000000 in
theorem rgiven_own (A1 : Option Addr) (n c1 : Nat) (ps : List Ph.Part) (A2 : Option Addr) (c2 : Nat) (s : List Int) (bits : Int) (w : World) (B1 B2 : Nat) (h1 : RdP w B1 A1 n ps) (h2 : RdI w B2 A2 n s) (hB1 : B1 ≤ w.heap.size) (hB2 : B2 ≤ w.heap.size) (hg : ∀ p ∈ ps, Ph.gainOk p.gain = true) (h0 : Ph.bandErr s = 0) (hb : 0 ≤ bits ∧ bits ≤ 400) :
    Calls Tryz.prog 38 #[.slice A1 n c1, .slice A2 n c2, .int .i64 bits] w fun e w' => ∃ A' c', e = .returned (.slice A' n c') ∧ w'.ownsRow w.heap.size 3 1 (.slice A' n c') n (ivals (Ph.shared ps s bits)) ∧ Below w.heap.size w w' := by
  have hn8 : n ≤ 8 := by have := (Ph.bandErr_zero.1 h0); have := h2.len; omega
  have hvl : (Ph.vals ps).length = n := by unfold Ph.vals; rw [List.length_map, h1.len]
  have HVB : Hid (∀ x ∈ Ph.vals ps, 0 ≤ x ∧ x ≤ 8000) := Lib.hid fun x hx => by
    obtain ⟨p, hp, rfl⟩ := List.mem_map.1 hx
    exact val_bd (hg p hp)
  have H := Lib.hid h1
  have H2 := Lib.hid h2
  have HG := Lib.hid hg
  have HL := Lib.hid h1.len
  have HS := Lib.hid fun A5 c5 W (hW1 : RdI W W.heap.size A2 n s) (hW2 : RdI W W.heap.size A5 n (Ph.vals ps)) => rshare_own A2 n c2 s A5 c5 (Ph.vals ps) bits W W.heap.size hW1 hW2 (Nat.le_refl _) h0 HVB.out hb
  rw [show Ph.shareOf s (Ph.vals ps) bits = Ph.shared ps s bits from rfl] at HS
  obtain ⟨S, hS⟩ : ∃ S, S = Ph.shared ps s bits := ⟨_, rfl⟩
  rw [← hS] at HS ⊢
  have HVL := Lib.hid hvl
  clear h1 h2 hg h0 hvl hS HVB
  go_enter Tryz.func38, Tryz.ntmps38
  go_wp2_with fail
  go_loopw [7, 8, 9, 10] (fun v i _ _ wr => ∃ (k : Nat) (A5 : Option Addr) (c5 : Nat), k ≤ n ∧ i = .int .i64 k ∧ v = .slice A5 k c5 ∧ Hid (wr.ownsRow w.heap.size 3 1 (.slice A5 k c5) k (ivals ((Ph.vals ps).take k))) ∧ Hid (Below w.heap.size w wr)) (fun _ i _ _ _ => n - (intOf i).toNat)
  case atStart => exact ⟨0, none, 0, Nat.zero_le _, rfl, rfl, Lib.hid (own_nil _ _ _), Lib.hid (Below.refl _ _)⟩
  case round =>
    obtain ⟨k, A5, c5, hk, rfl, rfl, HO, HBW⟩ := hrel
    by_cases hlt : k < n
    · obtain ⟨b0, o0, A3, c3, rfl, hb0, d1, d2, _, _⟩ := (H.out.below (HBW.out.mono hB1)).at_ hlt
      have ht := vals_take ps k (by rw [HL.out]; exact hlt)
      have hgo := HG.out _ (partD_mem (by rw [HL.out]; exact hlt))
      obtain ⟨g, hge⟩ : ∃ g, g = (ps.getD k ⟨0, []⟩).gain := ⟨_, rfl⟩
      rw [← hge] at d1 ht hgo
      have HT := Lib.hid ht
      have HM := Lib.hid fun W => rvalue_all g W
      rw [valB_ok, hgo, valV_ok hgo] at HM
      obtain ⟨V, hV⟩ : ∃ V, V = Ph.val g := ⟨_, rfl⟩
      rw [← hV] at HM HT
      have hlt' : (k : Int) < (n : Int) := by omega
      clear hge ht hgo hV d2
      go_wp2_with fail
      refine (HM.out _).mono ?_
      rintro e w1 ⟨rfl, rfl⟩
      clear d1
      go_wp2_with (at_builtin; refine wpList_push _ (by rfl) _ _ (by rfl) w w.heap.size A5 k c5 _ V HO.out HBW.out HBW.out.size (by omega) (by rfl) (by rfl) ?_; intro g9 cap w2 ho2 hb2)
      have HO2 := Lib.hid ho2
      have HB2 := Lib.hid hb2
      clear ho2 hb2
      go_wp2_with fail
      go_roundw
      case rel => exact ⟨k + 1, some ⟨g9, 0, none⟩, cap, by omega, by go_num, rfl, Lib.hid (by rw [HT.out]; exact HO2.out), HB2⟩
      case measure => simp [intOf]; omega
    · obtain rfl : k = n := by omega
      have hall : (Ph.vals ps).take k = Ph.vals ps := List.take_of_length_le (by rw [HVL.out]; omega)
      rw [hall] at HO
      clear hall
      go_wp2_with fail
      refine (HS.out A5 c5 _ ((H2.out.below (HBW.out.mono hB2)).more (Nat.le_trans hB2 HBW.out.size)) (RdI.own HO.out)).mono ?_
      rintro e w2 ⟨A6, c6, rfl, hr, hb2⟩
      have HR2 := Lib.hid (own_more hr HBW.out.size)
      have HB2 := Lib.hid (below_on HBW.out hb2)
      clear hr hb2
      go_wp2_with fail
      go_ret
      exact ⟨A6, c6, rfl, HR2.out, HB2.out⟩
theorem rgiven_any (A1 : Option Addr) (n c1 : Nat) (ps : List Ph.Part) (A2 : Option Addr) (c2 : Nat) (s : List Int) (bits : Int) (w : World) (B1 B2 : Nat) (h1 : RdP w B1 A1 n ps) (h2 : RdI w B2 A2 n s) (hB1 : B1 ≤ w.heap.size) (hB2 : B2 ≤ w.heap.size) (hg : ∀ p ∈ ps, Ph.gainOk p.gain = true) (h0 : Ph.bandErr s = 0) (hb : 0 ≤ bits ∧ bits ≤ 400) :
    Calls Tryz.prog 38 #[.slice A1 n c1, .slice A2 n c2, .int .i64 bits] w fun e w' => ∃ A' c', e = .returned (.slice A' n c') ∧ RdI w' w'.heap.size A' n (Ph.shared ps s bits) ∧ Below w.heap.size w w' := by
  refine (rgiven_own A1 n c1 ps A2 c2 s bits w B1 B2 h1 h2 hB1 hB2 hg h0 hb).mono ?_
  rintro e w' ⟨A', c', rfl, ho, hb'⟩
  exact ⟨A', c', rfl, RdI.own ho, hb'⟩
set_option maxHeartbeats 4000000 in
set_option maxRecDepth 100000 in
theorem rframe_any (A1 : Option Addr) (n1 c1 : Nat) (ps : List Ph.Part) (A2 : Option Addr) (n2 c2 : Nat) (s : List Int) (bits : Int) (w : World) (B : Nat) (h1 : RdP w B A1 n1 ps) (h2 : RdI w B A2 n2 s) (hB : B ≤ w.heap.size) (hn1 : n1 ≤ 100000000000000) (hn2 : n2 ≤ 100000000000000) (hp : ∀ p ∈ ps, p.pulses.length ≤ 100000000000000) :
    Calls Tryz.prog 76 #[.slice A1 n1 c1, .slice A2 n2 c2, .int .i64 bits] w fun e w' => e = .returned (.int .i64 (Ph.frameErr ps s bits)) ∧ Below w.heap.size w w' := by
  have HL1 := Lib.hid h1.len
  have HL2 := Lib.hid h2.len
  have HE : Hid (Ph.frameErr ps s bits = if Ph.bandErr s ≠ 0 then Ph.bandErr s else if n1 ≠ n2 then 3 else if ps.map (fun x => (x.pulses.length : Int)) ≠ s then 3 else if Ph.partsErr ps ≠ 0 then Ph.partsErr ps else if bits < 0 ∨ 400 < bits then 1 else if ps.map (fun x => Ph.loud x.pulses) ≠ Ph.shared ps s bits then 3 else 0) := Lib.hid (by
    unfold Ph.frameErr
    rw [HL1.out, HL2.out])
  have HBC := Lib.hid fun W (hW : RdI W B A2 n2 s) => rbands_any A2 n2 c2 s W B hW hn2
  have H1 := Lib.hid h1
  have H2 := Lib.hid h2
  have HPB := Lib.hid hp
  obtain ⟨E, hE⟩ : ∃ E, E = Ph.frameErr ps s bits := ⟨_, rfl⟩
  rw [← hE] at HE ⊢
  obtain ⟨T, hT⟩ : ∃ T, T = bandN s := ⟨_, rfl⟩
  rw [← hT] at HBC
  clear hT hE h1 h2 hp
  by_cases hbe : Ph.bandErr s = 0
  · have hb8 := Ph.bandErr_zero.1 hbe
    have hn8 : n2 ≤ 8 := by have := hb8.2.1; have := HL2.out; omega
    have HBE := Lib.hid hbe
    rw [hbe] at HBC
    clear hb8
    by_cases hne : n1 = n2
    · subst hne
      have HE2 : Hid (E = if ps.map (fun x => (x.pulses.length : Int)) ≠ s then 3 else if Ph.partsErr ps ≠ 0 then Ph.partsErr ps else if bits < 0 ∨ 400 < bits then 1 else if ps.map (fun x => Ph.loud x.pulses) ≠ Ph.shared ps s bits then 3 else 0) := Lib.hid (by rw [HE.out, if_neg (by omega), if_neg (by omega)])
      have hnn : ((n1 : Int) != (n1 : Int)) = false := by simp
      clear HE hbe
      go_enter Tryz.func76, Tryz.ntmps76
      go_wp2_with fail
      refine (HBC.out _ H2.out).mono ?_
      rintro e w' ⟨rfl, rfl⟩
      go_wp2_with fail
      go_loopw [9] (fun i wr => ∃ k : Nat, k ≤ n1 ∧ i = .int .i64 k ∧ Hid (∀ j, j < k → ((ps.getD j ⟨0, []⟩).pulses.length : Int) = s.getD j 0) ∧ Hid (Below w.heap.size w wr)) (fun i _ => n1 - (intOf i).toNat)
      case atStart => exact ⟨0, Nat.zero_le _, rfl, Lib.hid (fun j hj => absurd hj (by omega)), Lib.hid (Below.refl _ _)⟩
      case round =>
        obtain ⟨k, hk, rfl, HA, HBW⟩ := hrel
        by_cases hlt : k < n1
        · obtain ⟨b0, o0, A4, c4, rfl, hb0, d1, d2, _, _⟩ := (H1.out.below (HBW.out.mono hB)).at_ hlt
          obtain ⟨b2, o2, rfl, hb2, d3⟩ := (H2.out.below (HBW.out.mono hB)).at_ hlt
          have hkl : k < ps.length := by rw [HL1.out]; exact hlt
          have hno : Hid (((ps.getD k ⟨0, []⟩).pulses.length : Int) ≠ s.getD k 0 → E = 3) := Lib.hid fun h => by rw [HE2.out, if_pos (map_ne (f := fun x => (x.pulses.length : Int)) hkl h)]
          have hyes : Hid (((ps.getD k ⟨0, []⟩).pulses.length : Int) = s.getD k 0 → ∀ j, j < k + 1 → ((ps.getD j ⟨0, []⟩).pulses.length : Int) = s.getD j 0) := Lib.hid fun h j hj => by
            by_cases hjk : j < k
            · exact HA.out j hjk
            · obtain rfl : j = k := by omega
              exact h
          obtain ⟨P, hP⟩ : ∃ P, P = (ps.getD k ⟨0, []⟩).pulses.length := ⟨_, rfl⟩
          rw [← hP] at d2 hno hyes
          obtain ⟨x, hx⟩ : ∃ x, x = s.getD k 0 := ⟨_, rfl⟩
          rw [← hx] at d3 hno hyes
          have hlt' : (k : Int) < (n1 : Int) := by omega
          clear hP hx hkl d1
          cases hq : ((P : Int) != x)
          · have hPx : (P : Int) = x := by simpa using hq
            have HY := Lib.hid (hyes.out hPx)
            clear hPx hno hyes
            go_wp2_with fail
            go_quiet (fail)
            go_wp2_with fail
            go_roundw
            case rel => exact ⟨k + 1, by omega, by go_num, HY, Lib.hid (below_drewN' HBW.out _)⟩
            case measure => simp [intOf]; omega
          · have hPx : (P : Int) ≠ x := by simpa using hq
            have hE3 := hno.out hPx
            subst hE3
            clear hPx hno hyes
            go_wp2_with fail
            go_quiet (fail)
            go_wp2_with fail
            go_ret
            exact ⟨rfl, below_drewN' HBW.out _⟩
        · obtain rfl : k = n1 := by omega
          have hsz := map_eq (f := fun x => (x.pulses.length : Int)) (ps := ps) (s := s) (by rw [HL1.out, HL2.out]) (fun j hj => HA.out j (by rw [← HL1.out]; exact hj))
          have HE3 : Hid (E = if Ph.partsErr ps ≠ 0 then Ph.partsErr ps else if bits < 0 ∨ 400 < bits then 1 else if ps.map (fun x => Ph.loud x.pulses) ≠ Ph.shared ps s bits then 3 else 0) := Lib.hid (by rw [HE2.out, if_neg (by simp [hsz])])
          clear HE2 hsz HA
          go_wp2_with fail
          rename World => wa
          have hBa := Nat.le_trans hB HBW.out.size
          go_loopw [8, 10, 11, 12] (fun _ i _ _ wr2 => ∃ j : Nat, j ≤ k ∧ i = .int .i64 j ∧ Hid (Ph.partsErr (ps.drop j) = Ph.partsErr ps) ∧ Hid (Below w.heap.size w wr2)) (fun _ i _ _ _ => k - (intOf i).toNat)
          case atStart => exact ⟨0, Nat.zero_le _, rfl, Lib.hid rfl, HBW⟩
          case round =>
            obtain ⟨j, hj, rfl, HD, HB2⟩ := hrel
            by_cases hlt2 : j < k
            · have hjl : j < ps.length := by rw [HL1.out]; exact hlt2
              obtain ⟨b0, o0, A4, c4, rfl, hb0, d1, d2, hcc, hrd⟩ := (H1.out.below (HB2.out.mono hB)).at_ hlt2
              have hdd := partsErr_drop ps j hjl
              rw [HD.out] at hdd
              have hpl := HPB.out _ (partD_mem hjl)
              obtain ⟨p, hpe⟩ : ∃ p, p = ps.getD j ⟨0, []⟩ := ⟨_, rfl⟩
              rw [← hpe] at d1 d2 hcc hrd hdd hpl
              obtain ⟨g, v⟩ := p
              simp only at d1 d2 hcc hrd hdd hpl
              obtain ⟨P, hP⟩ : ∃ P, P = v.length := ⟨_, rfl⟩
              rw [← hP] at d2 hcc hrd hpl
              have HC := Lib.hid (rpulses_any A4 P c4 v wr B hrd hpl)
              obtain ⟨Z, hZ⟩ : ∃ Z, Z = (if Ph.pulsesErr v = 0 then Ph.loud v else 0) := ⟨_, rfl⟩
              rw [← hZ] at HC
              have HGV := Lib.hid fun W => rvalue_all g W
              rw [valB_ok] at HGV
              obtain ⟨V, hV⟩ : ∃ V, V = valV g := ⟨_, rfl⟩
              rw [← hV] at HGV
              have hlt3 : (j : Int) < (k : Int) := by omega
              clear hP hpe hrd hb0 hV hZ hcc hjl
              by_cases hgo : Ph.gainOk g = true
              · rw [if_neg (by rw [hgo]; simp)] at hdd
                rw [hgo] at HGV
                clear hgo
                by_cases hpe : Ph.pulsesErr v = 0
                · rw [if_neg (by omega)] at hdd
                  have HDN := Lib.hid hdd.symm
                  rw [hpe] at HC
                  clear hdd hpe
                  go_wp2_with fail
                  refine (HGV.out _).mono ?_
                  rintro e w5 ⟨rfl, rfl⟩
                  go_wp2_with fail
                  refine HC.out.mono ?_
                  rintro e w4 ⟨rfl, rfl⟩
                  go_wp2_with fail
                  go_roundw
                  case rel => exact ⟨j + 1, by omega, by go_num, HDN, HB2⟩
                  case measure => simp [intOf]; omega
                · rw [if_pos hpe] at hdd
                  have e : E = Ph.pulsesErr v := by rw [HE3.out, hdd, if_pos hpe]
                  rw [← e] at HC hpe
                  have hpb : (E != 0) = true := by simp [hpe]
                  clear e hdd HE3
                  go_wp2_with fail
                  refine (HGV.out _).mono ?_
                  rintro e w5 ⟨rfl, rfl⟩
                  go_wp2_with fail
                  refine HC.out.mono ?_
                  rintro e w4 ⟨rfl, rfl⟩
                  go_wp2_with fail
                  go_ret
                  exact ⟨rfl, HB2.out⟩
              · have hgf : Ph.gainOk g = false := by simpa using hgo
                rw [if_pos hgf] at hdd
                rw [hgf] at HGV
                have e : E = 1 := by rw [HE3.out, hdd, if_pos (by omega)]
                subst e
                clear hdd hgo hgf HE3
                go_wp2_with fail
                refine (HGV.out _).mono ?_
                rintro e w5 ⟨rfl, rfl⟩
                go_wp2_with fail
                go_ret
                exact ⟨rfl, HB2.out⟩
            · obtain rfl : j = k := by omega
              have hd0 := HD.out
              rw [List.drop_of_length_le (by rw [HL1.out]; omega)] at hd0
              have hpz : Ph.partsErr ps = 0 := hd0.symm
              have hz := Ph.partsErr_zero.1 hpz
              have HZ := Lib.hid hz
              have HE4 : Hid (E = if bits < 0 ∨ 400 < bits then 1 else if ps.map (fun x => Ph.loud x.pulses) ≠ Ph.shared ps s bits then 3 else 0) := Lib.hid (by rw [HE3.out, if_neg (by omega)])
              clear hd0 hpz HE3 HD hlt2 hlt
              by_cases hbi : 0 ≤ bits ∧ bits ≤ 400
              · have hb1 : ¬ bits < 0 := by omega
                have hb2 : ¬ 400 < bits := by omega
                have HE5 : Hid (E = if ps.map (fun x => Ph.loud x.pulses) ≠ Ph.shared ps s bits then 3 else 0) := Lib.hid (by rw [HE4.out, if_neg (by omega)])
                have HGI := Lib.hid fun W (hW1 : RdP W B A1 j ps) (hW2 : RdI W B A2 j s) hBW => rgiven_any A1 j c1 ps A2 c2 s bits W B B hW1 hW2 hBW hBW (fun p hp => (HZ.out p hp).1) HBE.out hbi
                have hsl : (Ph.shared ps s bits).length = j := by
                  have := (Ph.share_ok (s := s) (loud := Ph.vals ps) (bits := bits) hbi.1).1
                  rw [HL2.out] at this
                  exact this
                obtain ⟨K, hK⟩ : ∃ K, K = Ph.shared ps s bits := ⟨_, rfl⟩
                rw [← hK] at HE5 HGI hsl
                have HKL := Lib.hid hsl
                clear hK hsl HE4 hz hbi
                go_wp2_with fail
                refine (HGI.out _ (H1.out.below (HB2.out.mono hB)) (H2.out.below (HB2.out.mono hB)) (Nat.le_trans hB HB2.out.size)).mono ?_
                rintro e w7 ⟨A77, c77, rfl, ho, hb⟩
                have HK7 := Lib.hid ho
                have HB7 := Lib.hid (below_on HB2.out hb)
                clear ho hb HGI HB2
                go_wp2_with fail
                go_loopw [14] (fun i wr3 => ∃ k : Nat, k ≤ j ∧ i = .int .i64 k ∧ Hid (∀ i, i < k → Ph.loud (ps.getD i ⟨0, []⟩).pulses = K.getD i 0) ∧ Hid (Below w7.heap.size w7 wr3)) (fun i _ => j - (intOf i).toNat)
                case atStart => exact ⟨0, Nat.zero_le _, rfl, Lib.hid (fun i hi => absurd hi (by omega)), Lib.hid (Below.refl _ _)⟩
                case round =>
                  obtain ⟨k, hk, rfl, HA, HB8⟩ := hrel
                  by_cases hlt : k < j
                  · have hkl : k < ps.length := by rw [HL1.out]; exact hlt
                    have HB9 := Lib.hid (below_on HB7.out HB8.out)
                    obtain ⟨b0, o0, A4, c4, rfl, hb0, d1, d2, hcc, hrd⟩ := (H1.out.below (HB9.out.mono hB)).at_ hlt
                    obtain ⟨b6, o6, hA6, hb6, d6⟩ := (HK7.out.below HB8.out).at_ hlt
                    subst hA6
                    have hz6 := Ph.pulsesErr_zero.1 (HZ.out _ (partD_mem hkl)).2
                    have hno : Hid (Ph.loud (ps.getD k ⟨0, []⟩).pulses ≠ K.getD k 0 → E = 3) := Lib.hid fun h => by rw [HE5.out, if_pos (map_ne (f := fun x => Ph.loud x.pulses) hkl h)]
                    have hyes : Hid (Ph.loud (ps.getD k ⟨0, []⟩).pulses = K.getD k 0 → ∀ i, i < k + 1 → Ph.loud (ps.getD i ⟨0, []⟩).pulses = K.getD i 0) := Lib.hid fun h i hi => by
                      by_cases hjk : i < k
                      · exact HA.out i hjk
                      · obtain rfl : i = k := by omega
                        exact h
                    obtain ⟨v, hv⟩ : ∃ v, v = (ps.getD k ⟨0, []⟩).pulses := ⟨_, rfl⟩
                    rw [← hv] at d2 hcc hrd hz6 hno hyes
                    obtain ⟨x, hx⟩ : ∃ x, x = K.getD k 0 := ⟨_, rfl⟩
                    rw [← hx] at d6 hno hyes
                    have HSU : Hid (∀ q, Calls Tryz.prog 78 #[.slice A4 v.length c4] (wr.drewN q) fun e w' => e = .returned (.int .i64 (Ph.loud v)) ∧ w' = wr.drewN q) := Lib.hid fun q => (rloud_any A4 v.length c4 v (wr.drewN q) _ (hrd.drewN q) (Ph.allIn_mono hz6.2.1 (by omega)) (by omega)).mono fun e w' ⟨q1, q2⟩ => ⟨q1, q2.symm⟩
                    obtain ⟨P, hP⟩ : ∃ P, P = v.length := ⟨_, rfl⟩
                    rw [← hP] at d2 HSU
                    obtain ⟨Z, hZ⟩ : ∃ Z, Z = Ph.loud v := ⟨_, rfl⟩
                    rw [← hZ] at HSU hno hyes
                    have hlt' : (k : Int) < (j : Int) := by omega
                    clear hv hx hP hZ hrd hz6 hkl hcc d1
                    cases hq : (Z != x)
                    · have hPx : Z = x := by simpa using hq
                      have HY := Lib.hid (hyes.out hPx)
                      clear hPx hno hyes
                      go_wp2_with fail
                      go_quiet ((go_at_call 78; exact Calls.quiet_of_same (HSU.out _)))
                      go_wp2_with fail
                      go_roundw
                      case rel => exact ⟨k + 1, by omega, by go_num, HY, Lib.hid (below_drewN' HB8.out _)⟩
                      case measure => simp [intOf]; omega
                    · have hPx : Z ≠ x := by simpa using hq
                      have hE3 := hno.out hPx
                      subst hE3
                      clear hPx hno hyes
                      go_wp2_with fail
                      go_quiet ((go_at_call 78; exact Calls.quiet_of_same (HSU.out _)))
                      go_wp2_with fail
                      go_ret
                      exact ⟨rfl, below_drewN' HB9.out _⟩
                  · obtain rfl : k = j := by omega
                    have hsz := map_eq (f := fun x => Ph.loud x.pulses) (ps := ps) (s := K) (by rw [HL1.out, HKL.out]) (fun i hi => HA.out i (by rw [← HL1.out]; exact hi))
                    have hE : E = 0 := by rw [HE5.out, if_neg (by simp [hsz])]
                    subst hE
                    clear hsz HE5 HA
                    go_wp2_with fail
                    go_ret
                    exact ⟨rfl, below_on HB7.out HB8.out⟩
              · have e : E = 1 := by rw [HE4.out, if_pos (by omega)]
                subst e
                clear HE4 hz
                by_cases hb1 : bits < 0
                · clear hbi
                  go_wp2_with fail
                  go_ret
                  exact ⟨rfl, HB2.out⟩
                · have hb2 : 400 < bits := by omega
                  clear hbi
                  go_wp2_with fail
                  go_ret
                  exact ⟨rfl, HB2.out⟩
    · have e : E = 3 := by rw [HE.out, if_neg (by omega), if_pos hne]
      subst e
      have hnn : ((n1 : Int) != (n2 : Int)) = true := by simp; omega
      clear HE hne hbe
      go_enter Tryz.func76, Tryz.ntmps76
      go_wp2_with fail
      refine (HBC.out _ H2.out).mono ?_
      rintro e w' ⟨rfl, rfl⟩
      go_wp2_with fail
      go_ret
      exact ⟨rfl, Below.refl _ _⟩
  · have e : E = Ph.bandErr s := by rw [HE.out, if_pos hbe]
    rw [← e] at HBC hbe
    have hpb : (E != 0) = true := by simp [hbe]
    clear HE e
    go_enter Tryz.func76, Tryz.ntmps76
    go_wp2_with fail
    refine (HBC.out _ H2.out).mono ?_
    rintro e w' ⟨rfl, rfl⟩
    go_wp2_with fail
    go_ret
    exact ⟨rfl, Below.refl _ _⟩
end Go.Proofs.YtmohilfebgahoaaGreatDoor
/- The document's answers, walked (chapter 16): a frame of samples, and samples of one. -/
namespace Go.Proofs.YtmohilfebgahoaaGreatDoor
open Go.RowKit

/-- Parts are told, and the fault's number. -/
def RToldP (E : Int) (ps : List Ph.Part) (w : World) (e : Ending) (w' : World) : Prop :=
  ∃ A n c, e = .returned (.tuple #[.slice A n c, .int .i64 E]) ∧ RdP w' w'.heap.size A n ps ∧ Below w.heap.size w w'
theorem RToldP.none (E : Int) {w w' : World} (hb : Below w.heap.size w w') : RToldP E [] w (.returned (.tuple #[.slice none 0 0, .int .i64 E])) w' :=
  ⟨Option.none, 0, 0, rfl, RdP.nil, hb⟩
/-- Numbers are told, and the fault's number. -/
def RToldL (E : Int) (l : List Int) (w : World) (e : Ending) (w' : World) : Prop :=
  ∃ A n c, e = .returned (.tuple #[.slice A n c, .int .i64 E]) ∧ w'.ownsRow w.heap.size 3 1 (.slice A n c) n (ivals l) ∧ Below w.heap.size w w'
theorem RToldL.none (E : Int) {w w' : World} (hb : Below w.heap.size w w') : RToldL E [] w (.returned (.tuple #[.slice none 0 0, .int .i64 E])) w' :=
  ⟨Option.none, 0, 0, rfl, own_nil _ _ _, hb⟩
theorem rnum_up {g x : Int} {v : List Int} (hL : 0 < Ph.loud v) (hx : ¬ x < 0) (hV : 0 ≤ Ph.val g) : Ph.number1 ⟨g, v⟩ x = Ph.far x * Ph.val g / Ph.loud v := by
  unfold Ph.number1
  simp only
  rw [if_pos hL]
  have : Ph.far x = x := by rw [Ph.far_eq, if_neg hx]
  rw [this, Int.tdiv_eq_ediv_of_nonneg (Int.mul_nonneg (by omega) hV)]
theorem rnum_down {g x : Int} {v : List Int} (hL : 0 < Ph.loud v) (hx : x < 0) (hV : 0 ≤ Ph.val g) : Ph.number1 ⟨g, v⟩ x = -(Ph.far x * Ph.val g / Ph.loud v) := by
  unfold Ph.number1
  simp only
  rw [if_pos hL]
  have : Ph.far x = -x := by rw [Ph.far_eq, if_pos hx]
  rw [this, ← Int.tdiv_eq_ediv_of_nonneg (Int.mul_nonneg (by omega) hV), Int.neg_mul, Int.neg_tdiv, Int.neg_neg]
theorem rnum_none {g : Int} {v : List Int} (hL : ¬ 0 < Ph.loud v) (k : Nat) : Ph.number1 ⟨g, v⟩ (v.getD k 0) = 0 ∧ ¬ v.getD k 0 < 0 := by
  have h0 : Ph.loud v = 0 := by have := Ph.loud_nonneg v; omega
  have hz : v.getD k 0 = 0 := by
    rcases Nat.lt_or_ge k v.length with h | h
    · rw [List.getD_eq_getElem?_getD, List.getElem?_eq_getElem h]; exact Ph.loud_eq_zero h0 _ (List.getElem_mem h)
    · rw [List.getD_eq_getElem?_getD, List.getElem?_eq_none h]; rfl
  rw [hz]
  unfold Ph.number1
  simp only
  rw [if_neg hL]
  exact ⟨rfl, by omega⟩
theorem numbers_take (g : Int) (v : List Int) (k : Nat) (h : k < v.length) : (Ph.numbers ⟨g, v⟩).take (k + 1) = (Ph.numbers ⟨g, v⟩).take k ++ [Ph.number1 ⟨g, v⟩ (v.getD k 0)] := by
  unfold Ph.numbers
  rw [List.take_succ_eq_append_getElem (by simpa using h), List.getElem_map, List.getD_eq_getElem?_getD, List.getElem?_eq_getElem h]
  rfl
end Go.Proofs.YtmohilfebgahoaaGreatDoor
