/- The document's answers, walked (chapter 16): pulses by gains. -/
import Derived.Test.YtlilommhdjdblaaGreatDoorFrame
import Derived.Test.YtlilommhdjdblaaGreatDoorFrameC
import Derived.Test.YtlilommhdjdblaaGreatDoorRefGain
import Derived.Test.YtlilommhdjdblaaGreatDoorRefShare
import Derived.Test.YtlilommhdjdblaaGreatDoorRefPulse
import Derived.Test.YtlilommhdjdblaaGreatDoorRefBand
import Derived.Test.YtlilommhdjdblaaGreatDoorRefNear
import Derived.Test.YtlilommhdjdblaaGreatDoorRefLap
namespace Go.Proofs.YtlilommhdjdblaaGreatDoor
open Go.RowKit

theorem rvalue_all (g : Int) (w : World) : Calls Tryz.prog 38 #[.int .i64 g] w fun e w' => e = .returned (.tuple #[.int .i64 (valV g), .bool (valB g)]) ∧ w = w' := by
  by_cases h : g < 0 ∨ 53 < g
  · exact rvalue_no g w h
  · obtain ⟨q, rfl⟩ := Int.eq_ofNat_of_zero_le (by omega : 0 ≤ g)
    exact rvalue_in q w (by omega)
theorem valB_ok (g : Int) : valB g = Ph.gainOk g := by
  unfold valB
  by_cases h : Ph.gainOk g = true
  · have h1 := Ph.gainOk_le h
    have h2 := h
    unfold Ph.gainOk at h2
    rw [Bool.and_eq_true] at h2
    rw [h, h2.2]; simp; omega
  · have h1 : Ph.gainOk g = false := by simpa using h
    rw [h1]
    unfold Ph.gainOk at h1
    cases hv : Ph.valued g.toNat with
    | false => simp
    | true => rw [hv] at h1; simp at h1; simp; omega
theorem valV_ok {g : Int} (h : Ph.gainOk g = true) : valV g = Ph.val g := by
  unfold valV
  rw [if_pos (by rw [valB_ok]; exact h)]
  rfl
set_option maxHeartbeats 2000000 in
theorem rgiven_own (A1 : Option Addr) (n c1 : Nat) (ps : List Ph.Part) (A2 : Option Addr) (c2 : Nat) (s : List Int) (bits : Int) (w : World) (B1 B2 : Nat) (h1 : RdP w B1 A1 n ps) (h2 : RdI w B2 A2 n s) (hB1 : B1 ≤ w.heap.size) (hB2 : B2 ≤ w.heap.size) (hg : ∀ p ∈ ps, Ph.gainOk p.gain = true) (h0 : Ph.bandErr s = 0) (hb : 0 ≤ bits ∧ bits ≤ 400) :
    Calls Tryz.prog 48 #[.slice A1 n c1, .slice A2 n c2, .int .i64 bits] w fun e w' => ∃ A' c', e = .returned (.slice A' n c') ∧ w'.ownsRow w.heap.size 3 1 (.slice A' n c') n (ivals (Ph.shared ps s bits)) ∧ Below w.heap.size w w' := by
  have hn8 : n ≤ 8 := by have := (Ph.bandErr_zero.1 h0); have := h2.len; omega
  have hvl : (Ph.vals ps).length = n := by unfold Ph.vals; rw [List.length_map, h1.len]
  have HVB : Hid (∀ x ∈ Ph.vals ps, 0 ≤ x ∧ x ≤ 8000) := Lib.hid fun x hx => by
    obtain ⟨p, hp, rfl⟩ := List.mem_map.1 hx
    exact val_bd (hg p hp)
  have H := Lib.hid h1
  have H2 := Lib.hid h2
  have HG := Lib.hid hg
  have HL := Lib.hid h1.len
  have HS := Lib.hid fun A5 c5 W (hW1 : RdI W W.heap.size A2 n s) (hW2 : RdI W W.heap.size A5 n (Ph.vals ps)) => rshare_own A2 n c2 s A5 c5 (Ph.vals ps) bits W W.heap.size hW1 hW2 (Nat.le_refl _) h0 HVB.out hb
  rw [show Ph.shareOf s (Ph.vals ps) bits = Ph.shared ps s bits from rfl] at HS
  obtain ⟨S, hS⟩ : ∃ S, S = Ph.shared ps s bits := ⟨_, rfl⟩
  rw [← hS] at HS ⊢
  have HVL := Lib.hid hvl
  clear h1 h2 hg h0 hvl hS HVB
  go_enter Tryz.func48, Tryz.ntmps48
  go_wp2_with fail
  go_loopw [7, 8, 9, 10] (fun v i _ _ wr => ∃ (k : Nat) (A5 : Option Addr) (c5 : Nat), k ≤ n ∧ i = .int .i64 k ∧ v = .slice A5 k c5 ∧ Hid (wr.ownsRow w.heap.size 3 1 (.slice A5 k c5) k (ivals ((Ph.vals ps).take k))) ∧ Hid (Below w.heap.size w wr)) (fun _ i _ _ _ => n - (intOf i).toNat)
  case atStart => exact ⟨0, none, 0, Nat.zero_le _, rfl, rfl, Lib.hid (own_nil _ _ _), Lib.hid (Below.refl _ _)⟩
  case round =>
    obtain ⟨k, A5, c5, hk, rfl, rfl, HO, HBW⟩ := hrel
    by_cases hlt : k < n
    · obtain ⟨b0, o0, A3, c3, rfl, hb0, d1, d2, _, _⟩ := (H.out.below (HBW.out.mono hB1)).at_ hlt
      have ht := vals_take ps k (by rw [HL.out]; exact hlt)
      have hgo := HG.out _ (partD_mem (by rw [HL.out]; exact hlt))
      obtain ⟨g, hge⟩ : ∃ g, g = (ps.getD k ⟨0, []⟩).gain := ⟨_, rfl⟩
      rw [← hge] at d1 ht hgo
      have HT := Lib.hid ht
      have HM := Lib.hid fun W => rvalue_all g W
      rw [valB_ok, hgo, valV_ok hgo] at HM
      obtain ⟨V, hV⟩ : ∃ V, V = Ph.val g := ⟨_, rfl⟩
      rw [← hV] at HM HT
      have hlt' : (k : Int) < (n : Int) := by omega
      clear hge ht hgo hV d2
      go_wp2_with fail
      refine (HM.out _).mono ?_
      rintro e w1 ⟨rfl, rfl⟩
      clear d1
      go_wp2_with (at_builtin; refine wpList_push _ (by rfl) _ _ (by rfl) w w.heap.size A5 k c5 _ V HO.out HBW.out HBW.out.size (by omega) (by rfl) (by rfl) ?_; intro g9 cap w2 ho2 hb2)
      have HO2 := Lib.hid ho2
      have HB2 := Lib.hid hb2
      clear ho2 hb2
      go_wp2_with fail
      go_roundw
      case rel => exact ⟨k + 1, some ⟨g9, 0, none⟩, cap, by omega, by go_num, rfl, Lib.hid (by rw [HT.out]; exact HO2.out), HB2⟩
      case measure => simp [intOf]; omega
    · obtain rfl : k = n := by omega
      have hall : (Ph.vals ps).take k = Ph.vals ps := List.take_of_length_le (by rw [HVL.out]; omega)
      rw [hall] at HO
      clear hall
      go_wp2_with fail
      refine (HS.out A5 c5 _ ((H2.out.below (HBW.out.mono hB2)).more (Nat.le_trans hB2 HBW.out.size)) (RdI.own HO.out)).mono ?_
      rintro e w2 ⟨A6, c6, rfl, hr, hb2⟩
      have HR2 := Lib.hid (own_more hr HBW.out.size)
      have HB2 := Lib.hid (below_on HBW.out hb2)
      clear hr hb2
      go_wp2_with fail
      go_ret
      exact ⟨A6, c6, rfl, HR2.out, HB2.out⟩
theorem rgiven_any (A1 : Option Addr) (n c1 : Nat) (ps : List Ph.Part) (A2 : Option Addr) (c2 : Nat) (s : List Int) (bits : Int) (w : World) (B1 B2 : Nat) (h1 : RdP w B1 A1 n ps) (h2 : RdI w B2 A2 n s) (hB1 : B1 ≤ w.heap.size) (hB2 : B2 ≤ w.heap.size) (hg : ∀ p ∈ ps, Ph.gainOk p.gain = true) (h0 : Ph.bandErr s = 0) (hb : 0 ≤ bits ∧ bits ≤ 400) :
    Calls Tryz.prog 48 #[.slice A1 n c1, .slice A2 n c2, .int .i64 bits] w fun e w' => ∃ A' c', e = .returned (.slice A' n c') ∧ RdI w' w'.heap.size A' n (Ph.shared ps s bits) ∧ Below w.heap.size w w' := by
  refine (rgiven_own A1 n c1 ps A2 c2 s bits w B1 B2 h1 h2 hB1 hB2 hg h0 hb).mono ?_
  rintro e w' ⟨A', c', rfl, ho, hb'⟩
  exact ⟨A', c', rfl, RdI.own ho, hb'⟩
set_option maxHeartbeats 4000000 in
set_option maxRecDepth 100000 in
theorem rframe_any (A1 : Option Addr) (n1 c1 : Nat) (ps : List Ph.Part) (A2 : Option Addr) (n2 c2 : Nat) (s : List Int) (bits : Int) (w : World) (B : Nat) (h1 : RdP w B A1 n1 ps) (h2 : RdI w B A2 n2 s) (hB : B ≤ w.heap.size) (hn1 : n1 ≤ 100000000000000) (hn2 : n2 ≤ 100000000000000) (hp : ∀ p ∈ ps, p.pulses.length ≤ 100000000000000) :
    Calls Tryz.prog 89 #[.slice A1 n1 c1, .slice A2 n2 c2, .int .i64 bits] w fun e w' => e = .returned (.int .i64 (Ph.frameErr ps s bits)) ∧ Below w.heap.size w w' := by
  have HL1 := Lib.hid h1.len
  have HL2 := Lib.hid h2.len
  have HE : Hid (Ph.frameErr ps s bits = if Ph.bandErr s ≠ 0 then Ph.bandErr s else if n1 ≠ n2 then 3 else if ps.map (fun x => (x.pulses.length : Int)) ≠ s then 3 else if Ph.partsErr ps ≠ 0 then Ph.partsErr ps else if bits < 0 ∨ 400 < bits then 1 else if ps.map (fun x => Ph.loud x.pulses) ≠ Ph.shared ps s bits then 3 else 0) := Lib.hid (by
    unfold Ph.frameErr
    rw [HL1.out, HL2.out])
  have HBC := Lib.hid fun W (hW : RdI W B A2 n2 s) => rbands_any A2 n2 c2 s W B hW hn2
  have H1 := Lib.hid h1
  have H2 := Lib.hid h2
  have HPB := Lib.hid hp
  obtain ⟨E, hE⟩ : ∃ E, E = Ph.frameErr ps s bits := ⟨_, rfl⟩
  rw [← hE] at HE ⊢
  obtain ⟨T, hT⟩ : ∃ T, T = bandN s := ⟨_, rfl⟩
  rw [← hT] at HBC
  clear hT hE h1 h2 hp
  by_cases hbe : Ph.bandErr s = 0
  · have hb8 := Ph.bandErr_zero.1 hbe
    have hn8 : n2 ≤ 8 := by have := hb8.2.1; have := HL2.out; omega
    have HBE := Lib.hid hbe
    rw [hbe] at HBC
    clear hb8
    by_cases hne : n1 = n2
    · subst hne
      have HE2 : Hid (E = if ps.map (fun x => (x.pulses.length : Int)) ≠ s then 3 else if Ph.partsErr ps ≠ 0 then Ph.partsErr ps else if bits < 0 ∨ 400 < bits then 1 else if ps.map (fun x => Ph.loud x.pulses) ≠ Ph.shared ps s bits then 3 else 0) := Lib.hid (by rw [HE.out, if_neg (by omega), if_neg (by omega)])
      have hnn : ((n1 : Int) != (n1 : Int)) = false := by simp
      clear HE hbe
      go_enter Tryz.func89, Tryz.ntmps89
      go_wp2_with fail
      refine (HBC.out _ H2.out).mono ?_
      rintro e w' ⟨rfl, rfl⟩
      go_wp2_with fail
      go_loopw [9] (fun i wr => ∃ k : Nat, k ≤ n1 ∧ i = .int .i64 k ∧ Hid (∀ j, j < k → ((ps.getD j ⟨0, []⟩).pulses.length : Int) = s.getD j 0) ∧ Hid (Below w.heap.size w wr)) (fun i _ => n1 - (intOf i).toNat)
      case atStart => exact ⟨0, Nat.zero_le _, rfl, Lib.hid (fun j hj => absurd hj (by omega)), Lib.hid (Below.refl _ _)⟩
      case round =>
        obtain ⟨k, hk, rfl, HA, HBW⟩ := hrel
        by_cases hlt : k < n1
        · obtain ⟨b0, o0, A4, c4, rfl, hb0, d1, d2, _, _⟩ := (H1.out.below (HBW.out.mono hB)).at_ hlt
          obtain ⟨b2, o2, rfl, hb2, d3⟩ := (H2.out.below (HBW.out.mono hB)).at_ hlt
          have hkl : k < ps.length := by rw [HL1.out]; exact hlt
          have hno : Hid (((ps.getD k ⟨0, []⟩).pulses.length : Int) ≠ s.getD k 0 → E = 3) := Lib.hid fun h => by rw [HE2.out, if_pos (map_ne (f := fun x => (x.pulses.length : Int)) hkl h)]
          have hyes : Hid (((ps.getD k ⟨0, []⟩).pulses.length : Int) = s.getD k 0 → ∀ j, j < k + 1 → ((ps.getD j ⟨0, []⟩).pulses.length : Int) = s.getD j 0) := Lib.hid fun h j hj => by
            by_cases hjk : j < k
            · exact HA.out j hjk
            · obtain rfl : j = k := by omega
              exact h
          obtain ⟨P, hP⟩ : ∃ P, P = (ps.getD k ⟨0, []⟩).pulses.length := ⟨_, rfl⟩
          rw [← hP] at d2 hno hyes
          obtain ⟨x, hx⟩ : ∃ x, x = s.getD k 0 := ⟨_, rfl⟩
          rw [← hx] at d3 hno hyes
          have hlt' : (k : Int) < (n1 : Int) := by omega
          clear hP hx hkl d1
          cases hq : ((P : Int) != x)
          · have hPx : (P : Int) = x := by simpa using hq
            have HY := Lib.hid (hyes.out hPx)
            clear hPx hno hyes
            go_wp2_with fail
            go_quiet (fail)
            go_wp2_with fail
            go_roundw
            case rel => exact ⟨k + 1, by omega, by go_num, HY, Lib.hid (below_drewN' HBW.out _)⟩
            case measure => simp [intOf]; omega
          · have hPx : (P : Int) ≠ x := by simpa using hq
            have hE3 := hno.out hPx
            subst hE3
            clear hPx hno hyes
            go_wp2_with fail
            go_quiet (fail)
            go_wp2_with fail
            go_ret
            exact ⟨rfl, below_drewN' HBW.out _⟩
        · obtain rfl : k = n1 := by omega
          have hsz := map_eq (f := fun x => (x.pulses.length : Int)) (ps := ps) (s := s) (by rw [HL1.out, HL2.out]) (fun j hj => HA.out j (by rw [← HL1.out]; exact hj))
          have HE3 : Hid (E = if Ph.partsErr ps ≠ 0 then Ph.partsErr ps else if bits < 0 ∨ 400 < bits then 1 else if ps.map (fun x => Ph.loud x.pulses) ≠ Ph.shared ps s bits then 3 else 0) := Lib.hid (by rw [HE2.out, if_neg (by simp [hsz])])
          clear HE2 hsz HA
          go_wp2_with fail
          rename World => wa
          have hBa := Nat.le_trans hB HBW.out.size
          go_loopw [8, 10, 11, 12] (fun _ i _ _ wr2 => ∃ j : Nat, j ≤ k ∧ i = .int .i64 j ∧ Hid (Ph.partsErr (ps.drop j) = Ph.partsErr ps) ∧ Hid (Below w.heap.size w wr2)) (fun _ i _ _ _ => k - (intOf i).toNat)
          case atStart => exact ⟨0, Nat.zero_le _, rfl, Lib.hid rfl, HBW⟩
          case round =>
            obtain ⟨j, hj, rfl, HD, HB2⟩ := hrel
            by_cases hlt2 : j < k
            · have hjl : j < ps.length := by rw [HL1.out]; exact hlt2
              obtain ⟨b0, o0, A4, c4, rfl, hb0, d1, d2, hcc, hrd⟩ := (H1.out.below (HB2.out.mono hB)).at_ hlt2
              have hdd := partsErr_drop ps j hjl
              rw [HD.out] at hdd
              have hpl := HPB.out _ (partD_mem hjl)
              obtain ⟨p, hpe⟩ : ∃ p, p = ps.getD j ⟨0, []⟩ := ⟨_, rfl⟩
              rw [← hpe] at d1 d2 hcc hrd hdd hpl
              obtain ⟨g, v⟩ := p
              simp only at d1 d2 hcc hrd hdd hpl
              obtain ⟨P, hP⟩ : ∃ P, P = v.length := ⟨_, rfl⟩
              rw [← hP] at d2 hcc hrd hpl
              have HC := Lib.hid (rpulses_any A4 P c4 v wr B hrd hpl)
              obtain ⟨Z, hZ⟩ : ∃ Z, Z = (if Ph.pulsesErr v = 0 then Ph.loud v else 0) := ⟨_, rfl⟩
              rw [← hZ] at HC
              have HGV := Lib.hid fun W => rvalue_all g W
              rw [valB_ok] at HGV
              obtain ⟨V, hV⟩ : ∃ V, V = valV g := ⟨_, rfl⟩
              rw [← hV] at HGV
              have hlt3 : (j : Int) < (k : Int) := by omega
              clear hP hpe hrd hb0 hV hZ hcc hjl
              by_cases hgo : Ph.gainOk g = true
              · rw [if_neg (by rw [hgo]; simp)] at hdd
                rw [hgo] at HGV
                clear hgo
                by_cases hpe : Ph.pulsesErr v = 0
                · rw [if_neg (by omega)] at hdd
                  have HDN := Lib.hid hdd.symm
                  rw [hpe] at HC
                  clear hdd hpe
                  go_wp2_with fail
                  refine (HGV.out _).mono ?_
                  rintro e w5 ⟨rfl, rfl⟩
                  go_wp2_with fail
                  refine HC.out.mono ?_
                  rintro e w4 ⟨rfl, rfl⟩
                  go_wp2_with fail
                  go_roundw
                  case rel => exact ⟨j + 1, by omega, by go_num, HDN, HB2⟩
                  case measure => simp [intOf]; omega
                · rw [if_pos hpe] at hdd
                  have e : E = Ph.pulsesErr v := by rw [HE3.out, hdd, if_pos hpe]
                  rw [← e] at HC hpe
                  have hpb : (E != 0) = true := by simp [hpe]
                  clear e hdd HE3
                  go_wp2_with fail
                  refine (HGV.out _).mono ?_
                  rintro e w5 ⟨rfl, rfl⟩
                  go_wp2_with fail
                  refine HC.out.mono ?_
                  rintro e w4 ⟨rfl, rfl⟩
                  go_wp2_with fail
                  go_ret
                  exact ⟨rfl, HB2.out⟩
              · have hgf : Ph.gainOk g = false := by simpa using hgo
                rw [if_pos hgf] at hdd
                rw [hgf] at HGV
                have e : E = 1 := by rw [HE3.out, hdd, if_pos (by omega)]
                subst e
                clear hdd hgo hgf HE3
                go_wp2_with fail
                refine (HGV.out _).mono ?_
                rintro e w5 ⟨rfl, rfl⟩
                go_wp2_with fail
                go_ret
                exact ⟨rfl, HB2.out⟩
            · obtain rfl : j = k := by omega
              have hd0 := HD.out
              rw [List.drop_of_length_le (by rw [HL1.out]; omega)] at hd0
              have hpz : Ph.partsErr ps = 0 := hd0.symm
              have hz := Ph.partsErr_zero.1 hpz
              have HZ := Lib.hid hz
              have HE4 : Hid (E = if bits < 0 ∨ 400 < bits then 1 else if ps.map (fun x => Ph.loud x.pulses) ≠ Ph.shared ps s bits then 3 else 0) := Lib.hid (by rw [HE3.out, if_neg (by omega)])
              clear hd0 hpz HE3 HD hlt2 hlt
              by_cases hbi : 0 ≤ bits ∧ bits ≤ 400
              · have hb1 : ¬ bits < 0 := by omega
                have hb2 : ¬ 400 < bits := by omega
                have HE5 : Hid (E = if ps.map (fun x => Ph.loud x.pulses) ≠ Ph.shared ps s bits then 3 else 0) := Lib.hid (by rw [HE4.out, if_neg (by omega)])
                have HGI := Lib.hid fun W (hW1 : RdP W B A1 j ps) (hW2 : RdI W B A2 j s) hBW => rgiven_any A1 j c1 ps A2 c2 s bits W B B hW1 hW2 hBW hBW (fun p hp => (HZ.out p hp).1) HBE.out hbi
                have hsl : (Ph.shared ps s bits).length = j := by
                  have := (Ph.share_ok (s := s) (loud := Ph.vals ps) (bits := bits) hbi.1).1
                  rw [HL2.out] at this
                  exact this
                obtain ⟨K, hK⟩ : ∃ K, K = Ph.shared ps s bits := ⟨_, rfl⟩
                rw [← hK] at HE5 HGI hsl
                have HKL := Lib.hid hsl
                clear hK hsl HE4 hz hbi
                go_wp2_with fail
                refine (HGI.out _ (H1.out.below (HB2.out.mono hB)) (H2.out.below (HB2.out.mono hB)) (Nat.le_trans hB HB2.out.size)).mono ?_
                rintro e w7 ⟨A77, c77, rfl, ho, hb⟩
                have HK7 := Lib.hid ho
                have HB7 := Lib.hid (below_on HB2.out hb)
                clear ho hb HGI HB2
                go_wp2_with fail
                go_loopw [14] (fun i wr3 => ∃ k : Nat, k ≤ j ∧ i = .int .i64 k ∧ Hid (∀ i, i < k → Ph.loud (ps.getD i ⟨0, []⟩).pulses = K.getD i 0) ∧ Hid (Below w7.heap.size w7 wr3)) (fun i _ => j - (intOf i).toNat)
                case atStart => exact ⟨0, Nat.zero_le _, rfl, Lib.hid (fun i hi => absurd hi (by omega)), Lib.hid (Below.refl _ _)⟩
                case round =>
                  obtain ⟨k, hk, rfl, HA, HB8⟩ := hrel
                  by_cases hlt : k < j
                  · have hkl : k < ps.length := by rw [HL1.out]; exact hlt
                    have HB9 := Lib.hid (below_on HB7.out HB8.out)
                    obtain ⟨b0, o0, A4, c4, rfl, hb0, d1, d2, hcc, hrd⟩ := (H1.out.below (HB9.out.mono hB)).at_ hlt
                    obtain ⟨b6, o6, hA6, hb6, d6⟩ := (HK7.out.below HB8.out).at_ hlt
                    subst hA6
                    have hz6 := Ph.pulsesErr_zero.1 (HZ.out _ (partD_mem hkl)).2
                    have hno : Hid (Ph.loud (ps.getD k ⟨0, []⟩).pulses ≠ K.getD k 0 → E = 3) := Lib.hid fun h => by rw [HE5.out, if_pos (map_ne (f := fun x => Ph.loud x.pulses) hkl h)]
                    have hyes : Hid (Ph.loud (ps.getD k ⟨0, []⟩).pulses = K.getD k 0 → ∀ i, i < k + 1 → Ph.loud (ps.getD i ⟨0, []⟩).pulses = K.getD i 0) := Lib.hid fun h i hi => by
                      by_cases hjk : i < k
                      · exact HA.out i hjk
                      · obtain rfl : i = k := by omega
                        exact h
                    obtain ⟨v, hv⟩ : ∃ v, v = (ps.getD k ⟨0, []⟩).pulses := ⟨_, rfl⟩
                    rw [← hv] at d2 hcc hrd hz6 hno hyes
                    obtain ⟨x, hx⟩ : ∃ x, x = K.getD k 0 := ⟨_, rfl⟩
                    rw [← hx] at d6 hno hyes
                    have HSU : Hid (∀ q, Calls Tryz.prog 91 #[.slice A4 v.length c4] (wr.drewN q) fun e w' => e = .returned (.int .i64 (Ph.loud v)) ∧ w' = wr.drewN q) := Lib.hid fun q => (rloud_any A4 v.length c4 v (wr.drewN q) _ (hrd.drewN q) (Ph.allIn_mono hz6.2.1 (by omega)) (by omega)).mono fun e w' ⟨q1, q2⟩ => ⟨q1, q2.symm⟩
                    obtain ⟨P, hP⟩ : ∃ P, P = v.length := ⟨_, rfl⟩
                    rw [← hP] at d2 HSU
                    obtain ⟨Z, hZ⟩ : ∃ Z, Z = Ph.loud v := ⟨_, rfl⟩
                    rw [← hZ] at HSU hno hyes
                    have hlt' : (k : Int) < (j : Int) := by omega
                    clear hv hx hP hZ hrd hz6 hkl hcc d1
                    cases hq : (Z != x)
                    · have hPx : Z = x := by simpa using hq
                      have HY := Lib.hid (hyes.out hPx)
                      clear hPx hno hyes
                      go_wp2_with fail
                      go_quiet ((go_at_call 91; exact Calls.quiet_of_same (HSU.out _)))
                      go_wp2_with fail
                      go_roundw
                      case rel => exact ⟨k + 1, by omega, by go_num, HY, Lib.hid (below_drewN' HB8.out _)⟩
                      case measure => simp [intOf]; omega
                    · have hPx : Z ≠ x := by simpa using hq
                      have hE3 := hno.out hPx
                      subst hE3
                      clear hPx hno hyes
                      go_wp2_with fail
                      go_quiet ((go_at_call 91; exact Calls.quiet_of_same (HSU.out _)))
                      go_wp2_with fail
                      go_ret
                      exact ⟨rfl, below_drewN' HB9.out _⟩
                  · obtain rfl : k = j := by omega
                    have hsz := map_eq (f := fun x => Ph.loud x.pulses) (ps := ps) (s := K) (by rw [HL1.out, HKL.out]) (fun i hi => HA.out i (by rw [← HL1.out]; exact hi))
                    have hE : E = 0 := by rw [HE5.out, if_neg (by simp [hsz])]
                    subst hE
                    clear hsz HE5 HA
                    go_wp2_with fail
                    go_ret
                    exact ⟨rfl, below_on HB7.out HB8.out⟩
              · have e : E = 1 := by rw [HE4.out, if_pos (by omega)]
                subst e
                clear HE4 hz
                by_cases hb1 : bits < 0
                · clear hbi
                  go_wp2_with fail
                  go_ret
                  exact ⟨rfl, HB2.out⟩
                · have hb2 : 400 < bits := by omega
                  clear hbi
                  go_wp2_with fail
                  go_ret
                  exact ⟨rfl, HB2.out⟩
    · have e : E = 3 := by rw [HE.out, if_neg (by omega), if_pos hne]
      subst e
      have hnn : ((n1 : Int) != (n2 : Int)) = true := by simp; omega
      clear HE hne hbe
      go_enter Tryz.func89, Tryz.ntmps89
      go_wp2_with fail
      refine (HBC.out _ H2.out).mono ?_
      rintro e w' ⟨rfl, rfl⟩
      go_wp2_with fail
      go_ret
      exact ⟨rfl, Below.refl _ _⟩
  · have e : E = Ph.bandErr s := by rw [HE.out, if_pos hbe]
    rw [← e] at HBC hbe
    have hpb : (E != 0) = true := by simp [hbe]
    clear HE e
    go_enter Tryz.func89, Tryz.ntmps89
    go_wp2_with fail
    refine (HBC.out _ H2.out).mono ?_
    rintro e w' ⟨rfl, rfl⟩
    go_wp2_with fail
    go_ret
    exact ⟨rfl, Below.refl _ _⟩
end Go.Proofs.YtlilommhdjdblaaGreatDoor
/- The document's answers, walked (chapter 16): a frame of samples, and samples of one. -/
namespace Go.Proofs.YtlilommhdjdblaaGreatDoor
open Go.RowKit

/-- Parts are told, and the fault's number. -/
def RToldP (E : Int) (ps : List Ph.Part) (w : World) (e : Ending) (w' : World) : Prop :=
  ∃ A n c, e = .returned (.tuple #[.slice A n c, .int .i64 E]) ∧ RdP w' w'.heap.size A n ps ∧ Below w.heap.size w w'
theorem RToldP.none (E : Int) {w w' : World} (hb : Below w.heap.size w w') : RToldP E [] w (.returned (.tuple #[.slice none 0 0, .int .i64 E])) w' :=
  ⟨Option.none, 0, 0, rfl, RdP.nil, hb⟩
/-- Numbers are told, and the fault's number. -/
def RToldL (E : Int) (l : List Int) (w : World) (e : Ending) (w' : World) : Prop :=
  ∃ A n c, e = .returned (.tuple #[.slice A n c, .int .i64 E]) ∧ w'.ownsRow w.heap.size 3 1 (.slice A n c) n (ivals l) ∧ Below w.heap.size w w'
theorem RToldL.none (E : Int) {w w' : World} (hb : Below w.heap.size w w') : RToldL E [] w (.returned (.tuple #[.slice none 0 0, .int .i64 E])) w' :=
  ⟨Option.none, 0, 0, rfl, own_nil _ _ _, hb⟩
theorem rnum_up {g x : Int} {v : List Int} (hL : 0 < Ph.loud v) (hx : ¬ x < 0) (hV : 0 ≤ Ph.val g) : Ph.number1 ⟨g, v⟩ x = Ph.far x * Ph.val g / Ph.loud v := by
  unfold Ph.number1
  simp only
  rw [if_pos hL]
  have : Ph.far x = x := by rw [Ph.far_eq, if_neg hx]
  rw [this, Int.tdiv_eq_ediv_of_nonneg (Int.mul_nonneg (by omega) hV)]
theorem rnum_down {g x : Int} {v : List Int} (hL : 0 < Ph.loud v) (hx : x < 0) (hV : 0 ≤ Ph.val g) : Ph.number1 ⟨g, v⟩ x = -(Ph.far x * Ph.val g / Ph.loud v) := by
  unfold Ph.number1
  simp only
  rw [if_pos hL]
  have : Ph.far x = -x := by rw [Ph.far_eq, if_pos hx]
  rw [this, ← Int.tdiv_eq_ediv_of_nonneg (Int.mul_nonneg (by omega) hV), Int.neg_mul, Int.neg_tdiv, Int.neg_neg]
theorem rnum_none {g : Int} {v : List Int} (hL : ¬ 0 < Ph.loud v) (k : Nat) : Ph.number1 ⟨g, v⟩ (v.getD k 0) = 0 ∧ ¬ v.getD k 0 < 0 := by
  have h0 : Ph.loud v = 0 := by have := Ph.loud_nonneg v; omega
  have hz : v.getD k 0 = 0 := by
    rcases Nat.lt_or_ge k v.length with h | h
    · rw [List.getD_eq_getElem?_getD, List.getElem?_eq_getElem h]; exact Ph.loud_eq_zero h0 _ (List.getElem_mem h)
    · rw [List.getD_eq_getElem?_getD, List.getElem?_eq_none h]; rfl
  rw [hz]
  unfold Ph.number1
  simp only
  rw [if_neg hL]
  exact ⟨rfl, by omega⟩
theorem numbers_take (g : Int) (v : List Int) (k : Nat) (h : k < v.length) : (Ph.numbers ⟨g, v⟩).take (k + 1) = (Ph.numbers ⟨g, v⟩).take k ++ [Ph.number1 ⟨g, v⟩ (v.getD k 0)] := by
  unfold Ph.numbers
  rw [List.take_succ_eq_append_getElem (by simpa using h), List.getElem_map, List.getD_eq_getElem?_getD, List.getElem?_eq_getElem h]
  rfl
set_option maxHeartbeats 4000000 in
set_option maxRecDepth 100000 in
theorem rdecode_any (A : Option Addr) (n c : Nat) (ps : List Ph.Part) (w : World) (B : Nat) (h : RdP w B A n ps) (hB : B ≤ w.heap.size) (hn : n ≤ 100000000000000) (hp : ∀ p ∈ ps, p.pulses.length ≤ 100000000000000) :
    Calls Tryz.prog 39 #[.slice A n c] w (RToldL (Ph.decErr ps) (got (Ph.decErr ps) (Ph.lapI (Ph.decAll ps))) w) := by
  have H := Lib.hid h
  have HL := Lib.hid h.len
  have HPB := Lib.hid hp
  clear h hp
  have HE : Hid (Ph.decErr ps = if n = 0 then 5 else if 8 < n ∨ 32 < Ph.manyOf ps then 4 else if Ph.decPart ps ≠ 0 then Ph.decPart ps else Ph.lapErr (Ph.decAll ps) 4000) := Lib.hid (by unfold Ph.decErr; rw [HL.out])
  obtain ⟨E, hE⟩ : ∃ E, E = Ph.decErr ps := ⟨_, rfl⟩
  rw [← hE] at HE ⊢
  clear hE
  by_cases h0 : n = 0
  · have e : E = 5 := by rw [HE.out, if_pos h0]
    subst e
    have h0' : ((n : Int) == 0) = true := by simp [h0]
    clear HE h0
    go_enter Tryz.func39, Tryz.ntmps39
    go_wp2_with fail
    go_ret2
    exact RToldL.none _ (Below.refl _ _)
  · have h0' : ((n : Int) == 0) = false := by simp [h0]
    have HN0 := Lib.hid h0
    clear h0
    go_enter Tryz.func39, Tryz.ntmps39
    go_wp2_with fail
    go_loopw [4, 5] (fun m i wr => ∃ (k : Nat) (M : Int), k ≤ n ∧ i = .int .i64 k ∧ m = .int .i64 M ∧ Hid (n ≤ 8 → M = (Ph.manyOf (ps.take k) : Nat)) ∧ Hid (Below w.heap.size w wr)) (fun _ i _ => n - (intOf i).toNat)
    case atStart => exact ⟨0, 0, Nat.zero_le _, rfl, rfl, Lib.hid fun _ => rfl, Lib.hid (Below.refl _ _)⟩
    case round =>
      obtain ⟨k, M, hk, rfl, rfl, HM, HBW⟩ := hrel
      by_cases hlt : k < n
      · obtain ⟨b0, o0, A2, c2, rfl, hb0, d1, d2, _, _⟩ := (H.out.below (HBW.out.mono hB)).at_ hlt
        have hmt := many_take ps k (by rw [HL.out]; exact hlt)
        have hpl := HPB.out _ (partD_mem (by rw [HL.out]; exact hlt))
        obtain ⟨P, hP⟩ : ∃ P, P = (ps.getD k ⟨0, []⟩).pulses.length := ⟨_, rfl⟩
        rw [← hP] at d2 hmt hpl
        obtain ⟨X, hX⟩ : ∃ X, X = IntKind.i64.wrap (M + (P : Int)) := ⟨_, rfl⟩
        have HN : Hid (n ≤ 8 → X = (Ph.manyOf (ps.take (k + 1)) : Nat)) := Lib.hid fun h8 => by
          have h1 := HM.out h8
          have h2 := many_le (fun p hp => HPB.out p (List.mem_of_mem_take (i := k) hp))
          have h3 := Nat.le_trans h2 (Nat.mul_le_mul_right 100000000000000 (Nat.le_trans (List.length_take_le k ps) (show k ≤ 8 by omega)))
          have h4 : Ph.manyOf (ps.take k) ≤ 800000000000000 := h3
          clear h2 h3
          rw [hX, IntWalk.i64_in _ (by omega)]
          omega
        have k1 : IntKind.i64.wrap (M + (P : Int)) = X := hX.symm
        have hlt' : (k : Int) < (n : Int) := by omega
        clear hP hX hmt hpl d1
        go_wp2_with fail
        go_roundw
        case rel => exact ⟨k + 1, X, by omega, by go_num, rfl, HN, HBW⟩
        case measure => simp [intOf]; omega
      · obtain rfl : k = n := by omega
        have HMM : Hid (k ≤ 8 → M = (Ph.manyOf ps : Nat)) := Lib.hid fun h8 => by
          have := HM.out h8
          rwa [List.take_of_length_le (by rw [HL.out]; omega)] at this
        clear HM
        by_cases h8 : 8 < k
        · have e : E = 4 := by rw [HE.out, if_neg HN0.out, if_pos (.inl h8)]
          subst e
          have h8' : (8 : Int) < (k : Int) := by omega
          clear HE
          go_wp2_with fail
          go_ret2
          exact RToldL.none _ HBW.out
        · by_cases h32 : 32 < M
          · have hm := HMM.out (by omega)
            have e : E = 4 := by rw [HE.out, if_neg HN0.out, if_pos (.inr (by omega))]
            subst e
            clear HE hm
            go_wp2_with fail
            go_ret2
            exact RToldL.none _ HBW.out
          · have hm := HMM.out (by omega)
            have HE2 : Hid (E = if Ph.decPart ps ≠ 0 then Ph.decPart ps else Ph.lapErr (Ph.decAll ps) 4000) := Lib.hid (by rw [HE.out, if_neg HN0.out, if_neg (by omega)])
            have hmb : Ph.manyOf ps ≤ 32 := by omega
            have HMB := Lib.hid hmb
            have HMQ := Lib.hid hm
            have htm : M.tmod 2 = M % 2 := Int.tmod_eq_emod_of_nonneg (by omega)
            clear HE HMM hm hmb
            go_wp2_with fail
            rename World => wa
            have hBa := HBW.out.size
            go_loopw [6, 7, 8, 9, 10, 11, 12, 13] (fun al i _ _ _ _ _ _ wr2 => ∃ (j : Nat) (A7 : Option Addr) (c7 : Nat), j ≤ k ∧ i = .int .i64 j ∧ al = .slice A7 (Ph.decAll (ps.take j)).length c7 ∧ Hid (wr2.ownsRow w.heap.size 3 1 (.slice A7 (Ph.decAll (ps.take j)).length c7) (Ph.decAll (ps.take j)).length (ivals (Ph.decAll (ps.take j)))) ∧ Hid (Ph.decPart (ps.drop j) = Ph.decPart ps) ∧ Hid (Below w.heap.size w wr2)) (fun _ i _ _ _ _ _ _ _ => k - (intOf i).toNat)
            case atStart => exact ⟨0, none, 0, Nat.zero_le _, rfl, rfl, Lib.hid (own_nil _ _ _), Lib.hid rfl, HBW⟩
            case round =>
              obtain ⟨j, A7, c7, hj, rfl, rfl, HO, HD, HB2⟩ := hrel
              by_cases hlt2 : j < k
              · have hjl : j < ps.length := by rw [HL.out]; exact hlt2
                have HAT := Lib.hid ((H.out.below (HB2.out.mono hB)).at_ hlt2)
                have HAN : Hid (∀ W, Below w.heap.size w W → ∃ b off A2 c2, A = some ⟨b, off, none⟩ ∧ b < B ∧ W.cell? ⟨b, off + j * 2, none⟩ = some (.int .i64 (ps.getD j ⟨0, []⟩).gain) ∧
    W.cell? ⟨b, off + j * 2 + 1, none⟩ = some (.slice A2 (ps.getD j ⟨0, []⟩).pulses.length c2) ∧ ((ps.getD j ⟨0, []⟩).pulses.length ≤ c2 ∧ (A2 = none → c2 = 0)) ∧ RdI W B A2 (ps.getD j ⟨0, []⟩).pulses.length (ps.getD j ⟨0, []⟩).pulses) := Lib.hid fun W hW => (H.out.below (hW.mono hB)).at_ hlt2
                obtain ⟨b0, o0, A2, c2, rfl, hb0, d1, d2, hcc, hrd⟩ := HAT.out
                have hdd := decPart_drop ps j hjl
                rw [HD.out] at hdd
                have hdt := decAll_take ps j hjl
                have hpl := HPB.out _ (partD_mem hjl)
                have hdl := decAll_le ps (j + 1)
                have hnl : (Ph.numbers (ps.getD j ⟨0, []⟩)).length = (ps.getD j ⟨0, []⟩).pulses.length := by unfold Ph.numbers; simp
                obtain ⟨p, hpe⟩ : ∃ p, p = ps.getD j ⟨0, []⟩ := ⟨_, rfl⟩
                rw [← hpe] at d1 d2 hcc hrd hdd hdt hpl hnl HAN
                obtain ⟨g, v⟩ := p
                simp only at d1 d2 hcc hrd hdd hpl hnl
                have hvl : v.length ≤ 100000000000000 := hpl
                have HC := Lib.hid (rpulses_any A2 v.length c2 v wr B hrd hvl)
                have HGV := Lib.hid fun W => rvalue_all g W
                rw [valB_ok] at HGV
                clear HAT hpe hcc hjl
                by_cases hpe : Ph.pulsesErr v = 0
                · rw [hpe] at HC
                  simp only [if_pos] at HC
                  by_cases hgo : Ph.gainOk g = true
                  · rw [if_neg (by omega), if_neg (by rw [hgo]; simp)] at hdd
                    rw [hgo, valV_ok hgo] at HGV
                    have HDN := Lib.hid hdd.symm
                    have HDT := Lib.hid hdt
                    have HGO := Lib.hid hgo
                    have hz6 := Ph.pulsesErr_zero.1 hpe
                    have HZ6 := Lib.hid hz6
                    have hvb := val_bd hgo
                    rw [hdt, List.length_append, hnl] at hdl
                    have HNL := Lib.hid hnl
                    obtain ⟨D, hD⟩ : ∃ D, D = Ph.decAll (ps.take j) := ⟨_, rfl⟩
                    rw [← hD] at HDT hdl HO ⊢
                    obtain ⟨V, hV⟩ : ∃ V, V = Ph.val g := ⟨_, rfl⟩
                    rw [← hV] at HGV hvb
                    have HV := Lib.hid hV
                    obtain ⟨P, hP⟩ : ∃ P, P = v.length := ⟨_, rfl⟩
                    have HP := Lib.hid hP
                    rw [← hP] at d2 HC HNL hdl
                    obtain ⟨L, hL⟩ : ∃ L, L = Ph.loud v := ⟨_, rfl⟩
                    have hL8 : 0 ≤ L ∧ L ≤ 8 := by have := Ph.loud_nonneg v; have := hz6.2.2; omega
                    rw [← hL] at HC
                    have HL6 := Lib.hid hL
                    have HDB : Hid (D.length + P ≤ 32) := Lib.hid (Nat.le_trans hdl HMB.out)
                    have HA0 : Hid (wr.ownsRow w.heap.size 3 1 (.slice A7 (D.length + 0) c7) (D.length + 0) (ivals (D ++ (Ph.numbers ⟨g, v⟩).take 0))) := Lib.hid (by simpa using HO.out)
                    clear hdd hgo hdt hD hV hpe HO hz6 hL hP hnl hdl hrd hpl hvl
                    have hlt3 : (j : Int) < (k : Int) := by omega
                    go_wp2_with fail
                    refine HC.out.mono ?_
                    rintro e w4 ⟨rfl, rfl⟩
                    go_wp2_with fail
                    refine (HGV.out _).mono ?_
                    rintro e w5 ⟨rfl, rfl⟩
                    clear d1 HC HGV
                    go_wp2_with fail
                    clear d2
                    go_loopw [6, 12, 13] (fun al i _ wr3 => ∃ (q : Nat) (A5 : Option Addr) (c5 : Nat), q ≤ P ∧ i = .int .i64 q ∧ al = .slice A5 (D.length + q) c5 ∧ Hid (wr3.ownsRow w.heap.size 3 1 (.slice A5 (D.length + q) c5) (D.length + q) (ivals (D ++ (Ph.numbers ⟨g, v⟩).take q))) ∧ Hid (Below w.heap.size w wr3)) (fun _ i _ _ => P - (intOf i).toNat)
                    case atStart => exact ⟨0, A7, c7, Nat.zero_le _, rfl, rfl, HA0, HB2⟩
                    case round =>
                      obtain ⟨q, A5, c5, hq, rfl, rfl, HO5, HB5⟩ := hrel
                      obtain ⟨b1, o1, A3, c3, hA1, hb1, d1, d2, _, hrd⟩ := HAN.out _ HB5.out
                      obtain ⟨rfl, rfl⟩ : b0 = b1 ∧ o0 = o1 := by simpa using hA1
                      try simp only at d1 d2 hrd
                      rw [← HP.out] at d2 hrd
                      by_cases hqp : q < P
                      · obtain ⟨b6, o6, hA6, hb6, d6⟩ := hrd.at_ hqp
                        subst hA6
                        have hxb := Ph.allIn_getD HZ6.out.2.1 (by omega) q
                        have hnt := numbers_take g v q (by rw [← HP.out]; exact hqp)
                        have hup := fun h1 h2 => rnum_up (g := g) (x := v.getD q 0) (v := v) h1 h2 (by rw [← HV.out]; exact hvb.1)
                        have hdn := fun h1 h2 => rnum_down (g := g) (x := v.getD q 0) (v := v) h1 h2 (by rw [← HV.out]; exact hvb.1)
                        have hno := fun h1 => rnum_none (g := g) (v := v) h1 q
                        rw [← HV.out, ← HL6.out] at hup hdn
                        rw [← HL6.out] at hno
                        obtain ⟨x, hx⟩ : ∃ x, x = v.getD q 0 := ⟨_, rfl⟩
                        rw [← hx] at d6 hxb hnt hup hdn hno
                        obtain ⟨Z, hZ⟩ : ∃ Z, Z = Ph.number1 ⟨g, v⟩ x := ⟨_, rfl⟩
                        rw [← hZ] at hnt hup hdn hno
                        have HNT := Lib.hid hnt
                        have hqP : (q : Int) < (P : Int) := by omega
                        have HDB2 := HDB.out
                        clear hnt hx hZ d1 hrd
                        by_cases hL0 : 0 < L
                        · have hF := Ph.far_nonneg x
                          have hF2 : Ph.far x ≤ 8 := Ph.far_le.2 hxb
                          have HFA := Lib.hid fun W => rfar_any x W (by omega)
                          by_cases hx0 : x < 0
                          · have hz := hdn hL0 hx0
                            obtain ⟨F, hFe⟩ : ∃ F, F = Ph.far x := ⟨_, rfl⟩
                            rw [← hFe] at HFA hF hF2 hz
                            have hkF : 0 ≤ F * V ∧ F * V ≤ 64000 := ⟨Int.mul_nonneg hF hvb.1, by have := Int.mul_le_mul hF2 hvb.2 hvb.1 (by omega); omega⟩
                            obtain ⟨N, hN⟩ : ∃ N, N = F * V := ⟨_, rfl⟩
                            rw [← hN] at hkF hz
                            have k1 : IntKind.i64.wrap (F * V) = N := by rw [← hN]; exact IntWalk.i64_in _ (by omega)
                            have hQ0 : 0 ≤ N / L := Int.ediv_nonneg hkF.1 (by omega)
                            have hQ1 : N / L ≤ 64000 := Int.le_trans (Int.ediv_le_self _ hkF.1) hkF.2
                            have HZ := Lib.hid hz
                            have hLn : ¬ L = 0 := by omega
                            clear hz hup hdn hno hFe hN
                            go_wp2_with fail
                            refine (HFA.out _).mono ?_
                            rintro e w' ⟨rfl, rfl⟩
                            go_wp2_with (at_builtin; refine wpList_push _ (by rfl) _ _ (by rfl) w w.heap.size A5 (D.length + q) c5 _ (-(N / L)) HO5.out HB5.out HB5.out.size (by omega) (by rfl) (by rfl) ?_; intro g9 cap w9 ho9 hb9)
                            have HO9 := Lib.hid ho9
                            have HB9 := Lib.hid hb9
                            clear ho9 hb9
                            go_wp2_with fail
                            go_roundw
                            case rel => exact ⟨q + 1, some ⟨g9, 0, none⟩, cap, by omega, by go_num, rfl, Lib.hid (by rw [HNT.out, ← List.append_assoc, HZ.out]; exact HO9.out), HB9⟩
                            case measure => simp [intOf]; omega
                          · have hz := hup hL0 hx0
                            obtain ⟨F, hFe⟩ : ∃ F, F = Ph.far x := ⟨_, rfl⟩
                            rw [← hFe] at HFA hF hF2 hz
                            have hkF : 0 ≤ F * V ∧ F * V ≤ 64000 := ⟨Int.mul_nonneg hF hvb.1, by have := Int.mul_le_mul hF2 hvb.2 hvb.1 (by omega); omega⟩
                            obtain ⟨N, hN⟩ : ∃ N, N = F * V := ⟨_, rfl⟩
                            rw [← hN] at hkF hz
                            have k1 : IntKind.i64.wrap (F * V) = N := by rw [← hN]; exact IntWalk.i64_in _ (by omega)
                            have hQ0 : 0 ≤ N / L := Int.ediv_nonneg hkF.1 (by omega)
                            have hQ1 : N / L ≤ 64000 := Int.le_trans (Int.ediv_le_self _ hkF.1) hkF.2
                            have HZ := Lib.hid hz
                            have hLn : ¬ L = 0 := by omega
                            clear hz hup hdn hno hFe hN
                            go_wp2_with fail
                            refine (HFA.out _).mono ?_
                            rintro e w' ⟨rfl, rfl⟩
                            go_wp2_with (at_builtin; refine wpList_push _ (by rfl) _ _ (by rfl) w w.heap.size A5 (D.length + q) c5 _ (N / L) HO5.out HB5.out HB5.out.size (by omega) (by rfl) (by rfl) ?_; intro g9 cap w9 ho9 hb9)
                            have HO9 := Lib.hid ho9
                            have HB9 := Lib.hid hb9
                            clear ho9 hb9
                            go_wp2_with fail
                            go_roundw
                            case rel => exact ⟨q + 1, some ⟨g9, 0, none⟩, cap, by omega, by go_num, rfl, Lib.hid (by rw [HNT.out, ← List.append_assoc, HZ.out]; exact HO9.out), HB9⟩
                            case measure => simp [intOf]; omega
                        · obtain ⟨hz, hx0⟩ := hno hL0
                          subst hz
                          clear hup hdn hno
                          go_wp2_with (at_builtin; refine wpList_push _ (by rfl) _ _ (by rfl) w w.heap.size A5 (D.length + q) c5 _ 0 HO5.out HB5.out HB5.out.size (by omega) (by rfl) (by rfl) ?_; intro g9 cap w9 ho9 hb9)
                          have HO9 := Lib.hid ho9
                          have HB9 := Lib.hid hb9
                          clear ho9 hb9
                          go_wp2_with fail
                          go_roundw
                          case rel => exact ⟨q + 1, some ⟨g9, 0, none⟩, cap, by omega, by go_num, rfl, Lib.hid (by rw [HNT.out, ← List.append_assoc]; exact HO9.out), HB9⟩
                          case measure => simp [intOf]; omega
                      · obtain rfl : q = P := by omega
                        have htk : (Ph.numbers ⟨g, v⟩).take q = Ph.numbers ⟨g, v⟩ := List.take_of_length_le (by rw [HNL.out]; omega)
                        rw [htk] at HO5
                        clear htk d1 hrd
                        go_wp2_with fail
                        go_roundw
                        case rel => exact ⟨j + 1, A5, c5, by omega, by go_num, by rw [HDT.out, List.length_append, HNL.out], Lib.hid (by rw [HDT.out, List.length_append, HNL.out]; exact HO5.out), HDN, HB5⟩
                        case measure => simp [intOf]; omega
                  · have hgf : Ph.gainOk g = false := by simpa using hgo
                    rw [if_neg (by omega), if_pos hgf] at hdd
                    rw [hgf] at HGV
                    have e : E = 1 := by rw [HE2.out, hdd, if_pos (by omega)]
                    subst e
                    have hlt3 : (j : Int) < (k : Int) := by omega
                    clear HE2 hdd hgo hgf hdt hdl hnl hpl hvl hpe
                    go_wp2_with fail
                    refine HC.out.mono ?_
                    rintro e w4 ⟨rfl, rfl⟩
                    go_wp2_with fail
                    refine (HGV.out _).mono ?_
                    rintro e w5 ⟨rfl, rfl⟩
                    go_wp2_with fail
                    go_ret2
                    exact RToldL.none _ HB2.out
                · rw [if_pos hpe] at hdd
                  have e : E = Ph.pulsesErr v := by rw [HE2.out, hdd, if_pos hpe]
                  rw [← e] at HC hpe
                  rw [if_neg hpe] at HC
                  have hpb : (E != 0) = true := by simp [hpe]
                  have hlt3 : (j : Int) < (k : Int) := by omega
                  clear e HE2 hdd hdt hdl hnl hpl hvl
                  go_wp2_with fail
                  refine HC.out.mono ?_
                  rintro e w4 ⟨rfl, rfl⟩
                  go_wp2_with fail
                  go_ret2
                  rw [got_ne hpe]
                  exact RToldL.none _ HB2.out
              · obtain rfl : j = k := by omega
                have htk : ps.take j = ps := List.take_of_length_le (by rw [HL.out]; omega)
                have hdk : ps.drop j = [] := List.drop_of_length_le (by rw [HL.out]; omega)
                have hd0 := HD.out
                rw [hdk] at hd0
                have hd1 : Ph.decPart ps = 0 := hd0.symm
                have hE : E = Ph.lapErr (Ph.decAll ps) 4000 := by rw [HE2.out, if_neg (by omega)]
                have hdl : (Ph.decAll ps).length ≤ 32 := by rw [Ph.decAll_length]; exact HMB.out
                have hml : M = ((Ph.decAll ps).length : Nat) := by rw [Ph.decAll_length]; exact HMQ.out
                rw [htk] at HO ⊢
                have HAL := Lib.hid (rall_any A7 (Ph.decAll ps).length c7 (Ph.decAll ps) 4000 wr wr.heap.size (RdI.own HO.out) (by omega) (by omega))
                have HUN := Lib.hid fun h0 => runlap_own A7 (Ph.decAll ps).length c7 (Ph.decAll ps) wr wr.heap.size (RdI.own HO.out) (Nat.le_refl _) h0
                obtain ⟨D, hD⟩ : ∃ D, D = Ph.decAll ps := ⟨_, rfl⟩
                rw [← hD] at HAL HUN hE hdl hml HO ⊢
                have HDD : Hid (Ph.decAll ps = D) := Lib.hid hD.symm
                have hlt3 : ¬ (j : Int) < (j : Int) := by omega
                clear hD HE2 hd0 hd1 hdk htk HD HO
                by_cases hev : M % 2 = 0
                · have hevb : (M % 2 != 0) = false := by simp [hev]
                  cases ha : Ph.allIn D 4000 with
                  | true =>
                    have hle : Ph.lapErr D 4000 = 0 := Ph.lapErr_zero.2 ⟨hdl, by omega, ha⟩
                    rw [ha] at HAL
                    have HU := Lib.hid (HUN.out hle)
                    rw [hle] at hE
                    subst hE
                    rw [got_zero]
                    clear HUN ha hle hml hev hdl
                    go_wp2_with fail
                    refine HAL.out.mono ?_
                    rintro e w4 ⟨rfl, rfl⟩
                    go_wp2_with fail
                    refine HU.out.mono ?_
                    rintro e w8 ⟨A8, c8, rfl, ho8, hb8⟩
                    have HO8 := Lib.hid (own_more ho8 HB2.out.size)
                    have HB8 := Lib.hid (below_on HB2.out hb8)
                    clear ho8 hb8
                    go_wp2_with fail
                    go_ret2
                    rw [HDD.out, got_zero]
                    exact ⟨A8, D.length, c8, rfl, HO8.out, HB8.out⟩
                  | false =>
                    have hle : Ph.lapErr D 4000 = 1 := by unfold Ph.lapErr; rw [if_neg (by omega), if_neg (by omega), if_neg (by simp [ha])]
                    rw [ha] at HAL
                    rw [hle] at hE
                    subst hE
                    rw [got_ne (by omega)]
                    clear HUN ha hle hml hev hdl
                    go_wp2_with fail
                    refine HAL.out.mono ?_
                    rintro e w4 ⟨rfl, rfl⟩
                    go_wp2_with fail
                    go_ret2
                    exact RToldL.none _ HB2.out
                · have hevb : (M % 2 != 0) = true := by simp [hev]
                  have hle : Ph.lapErr D 4000 = 3 := by unfold Ph.lapErr; rw [if_neg (by omega), if_pos (by omega)]
                  rw [hle] at hE
                  subst hE
                  rw [got_ne (by omega)]
                  clear HUN HAL hle hml hev hdl
                  go_wp2_with fail
                  go_ret2
                  exact RToldL.none _ HB2.out
end Go.Proofs.YtlilommhdjdblaaGreatDoor
