/- Plain facts: the pulses of each part. -/
import Derived.Test.YtmohilfebgahoaaGreatDoorFrame
namespace Go.Proofs.YtmohilfebgahoaaGreatDoor

theorem vals_len (ps : List Ph.Part) : (Ph.vals ps).length = ps.length := by unfold Ph.vals; simp
/-- The pulses of each part. -/
def louds (ps : List Ph.Part) : List Int := ps.map fun p => Ph.loud p.pulses
theorem louds_len (ps : List Ph.Part) : (louds ps).length = ps.length := by unfold louds; simp
theorem louds_take (ps : List Ph.Part) (k : Nat) (h : k < ps.length) : (louds ps).take (k + 1) = (louds ps).take k ++ [Ph.loud (ps.getD k ⟨0, []⟩).pulses] := by
  unfold louds
  rw [List.take_succ_eq_append_getElem (by simpa using h), List.getElem_map, List.getD_eq_getElem?_getD, List.getElem?_eq_getElem h]
  rfl
theorem louds_get (ps : List Ph.Part) (k : Nat) (h : k < ps.length) : (louds ps).getD k 0 = Ph.loud (ps.getD k ⟨0, []⟩).pulses := by
  unfold louds
  rw [List.getD_eq_getElem?_getD, List.getElem?_map, List.getD_eq_getElem?_getD, List.getElem?_eq_getElem h]; rfl
end Go.Proofs.YtmohilfebgahoaaGreatDoor
/- Walks: frames (chapter 16): is a frame one that may be? -/
namespace Go.Proofs.YtmohilfebgahoaaGreatDoor
open Go.RowKit

theorem partsErr_drop (ps : List Ph.Part) (k : Nat) (h : k < ps.length) :
    Ph.partsErr (ps.drop k) = if Ph.gainOk (ps.getD k ⟨0, []⟩).gain = false then 1 else if Ph.pulsesErr (ps.getD k ⟨0, []⟩).pulses ≠ 0 then Ph.pulsesErr (ps.getD k ⟨0, []⟩).pulses else Ph.partsErr (ps.drop (k + 1)) := by
  rw [drop_part h]; rfl
theorem map_ne {f : Ph.Part → Int} {ps : List Ph.Part} {s : List Int} {k : Nat} (hk : k < ps.length) (h : f (ps.getD k ⟨0, []⟩) ≠ s.getD k 0) : ps.map f ≠ s := by
  intro e
  apply h
  rw [← e, List.getD_eq_getElem?_getD (l := ps.map f), List.getElem?_map, List.getD_eq_getElem?_getD, List.getElem?_eq_getElem hk]
  rfl
theorem map_eq {f : Ph.Part → Int} {ps : List Ph.Part} {s : List Int} (hl : ps.length = s.length) (h : ∀ k, k < ps.length → f (ps.getD k ⟨0, []⟩) = s.getD k 0) : ps.map f = s := by
  apply Ph.ext_getD
  · rw [List.length_map, hl]
  · intro i hi
    rw [List.length_map] at hi
    rw [← h i hi, List.getD_eq_getElem?_getD, List.getElem?_map, List.getD_eq_getElem?_getD, List.getElem?_eq_getElem hi]
    rfl
set_option maxHeartbeats 4000000 in
set_option maxRecDepth 100000 in
theorem frcheck_any (A1 : Option Addr) (n1 c1 : Nat) (ps : List Ph.Part) (A2 : Option Addr) (n2 c2 : Nat) (s : List Int) (bits : Int) (w : World) (B : Nat) (h1 : RdP w B A1 n1 ps) (h2 : RdI w B A2 n2 s) (hB : B ≤ w.heap.size) (hn1 : n1 ≤ 100000000000000) (hn2 : n2 ≤ 100000000000000) (hp : ∀ p ∈ ps, p.pulses.length ≤ 100000000000000) :
    Calls Tryz.prog 52 #[.slice A1 n1 c1, .slice A2 n2 c2, .int .i64 bits] w fun e w' => e = .returned (errV (Ph.frameErr ps s bits)) ∧ Below w.heap.size w w' := by
  have HL1 := Lib.hid h1.len
  have HL2 := Lib.hid h2.len
  have HE : Hid (Ph.frameErr ps s bits = if Ph.bandErr s ≠ 0 then Ph.bandErr s else if n1 ≠ n2 then 3 else if ps.map (fun x => (x.pulses.length : Int)) ≠ s then 3 else if Ph.partsErr ps ≠ 0 then Ph.partsErr ps else if bits < 0 ∨ 400 < bits then 1 else if ps.map (fun x => Ph.loud x.pulses) ≠ Ph.shared ps s bits then 3 else 0) := Lib.hid (by
    unfold Ph.frameErr
    rw [HL1.out, HL2.out])
  have H1 := Lib.hid h1
  have H2 := Lib.hid h2
  have HPB := Lib.hid hp
  obtain ⟨E, hE⟩ : ∃ E, E = Ph.frameErr ps s bits := ⟨_, rfl⟩
  rw [← hE] at HE ⊢
  by_cases hbe : Ph.bandErr s = 0
  · have HBC := Lib.hid (bandCheck_ok A2 n2 c2 s w B h2 hbe)
    have hb8 := Ph.bandErr_zero.1 hbe
    have hn8 : n2 ≤ 8 := by have := hb8.2.1; have := HL2.out; omega
    have hsp : ∀ x ∈ s, 1 ≤ x ∧ x ≤ 6 := hb8.2.2.1
    have HSP := Lib.hid hsp
    have HBE := Lib.hid hbe
    obtain ⟨T, hT⟩ : ∃ T, T = Ph.total s := ⟨_, rfl⟩
    rw [← hT] at HBC
    clear h1 h2 hp hE hb8 hsp hT
    by_cases hne : n1 = n2
    · subst hne
      have HE2 : Hid (E = if ps.map (fun x => (x.pulses.length : Int)) ≠ s then 3 else if Ph.partsErr ps ≠ 0 then Ph.partsErr ps else if bits < 0 ∨ 400 < bits then 1 else if ps.map (fun x => Ph.loud x.pulses) ≠ Ph.shared ps s bits then 3 else 0) := Lib.hid (by rw [HE.out, if_neg (by omega), if_neg (by omega)])
      have hnn : ((n1 : Int) != (n1 : Int)) = false := by simp
      clear HE
      go_enter Tryz.func52, Tryz.ntmps52
      go_wp2_with fail
      refine HBC.out.mono ?_
      rintro e w' ⟨rfl, rfl⟩
      go_wp2_with fail
      go_loopw [9, 10, 34] (fun _ _ i wr => ∃ k : Nat, k ≤ n1 ∧ i = .int .i64 k ∧ Hid (∀ j, j < k → ((ps.getD j ⟨0, []⟩).pulses.length : Int) = s.getD j 0) ∧ Hid (Below w.heap.size w wr)) (fun _ _ i _ => n1 - (intOf i).toNat)
      case atStart => exact ⟨0, Nat.zero_le _, rfl, Lib.hid (fun j hj => absurd hj (by omega)), Lib.hid (Below.refl _ _)⟩
      case round =>
        obtain ⟨k, hk, rfl, HA, HBW⟩ := hrel
        by_cases hlt : k < n1
        · obtain ⟨b0, o0, A4, c4, rfl, hb0, d1, d2, _, _⟩ := (H1.out.below (HBW.out.mono hB)).at_ hlt
          obtain ⟨b2, o2, rfl, hb2, d3⟩ := (H2.out.below (HBW.out.mono hB)).at_ hlt
          have hb2w : b2 < wr.heap.size := Nat.lt_of_lt_of_le hb2 (Nat.le_trans hB HBW.out.size)
          have hkl : k < ps.length := by rw [HL1.out]; exact hlt
          have hno : Hid (((ps.getD k ⟨0, []⟩).pulses.length : Int) ≠ s.getD k 0 → E = 3) := Lib.hid fun h => by rw [HE2.out, if_pos (map_ne (f := fun x => (x.pulses.length : Int)) hkl h)]
          have hyes : Hid (((ps.getD k ⟨0, []⟩).pulses.length : Int) = s.getD k 0 → ∀ j, j < k + 1 → ((ps.getD j ⟨0, []⟩).pulses.length : Int) = s.getD j 0) := Lib.hid fun h j hj => by
            by_cases hjk : j < k
            · exact HA.out j hjk
            · obtain rfl : j = k := by omega
              exact h
          obtain ⟨P, hP⟩ : ∃ P, P = (ps.getD k ⟨0, []⟩).pulses.length := ⟨_, rfl⟩
          rw [← hP] at d2 hno hyes
          obtain ⟨g, hg⟩ : ∃ g, g = (ps.getD k ⟨0, []⟩).gain := ⟨_, rfl⟩
          rw [← hg] at d1
          obtain ⟨x, hx⟩ : ∃ x, x = s.getD k 0 := ⟨_, rfl⟩
          rw [← hx] at d3 hno hyes
          obtain ⟨W1, hW1⟩ : ∃ W1, W1 = wr.alloc (.cells #[.int .i64 g, .slice A4 P c4] 78) := ⟨_, rfl⟩
          have HB1 : Hid (Below w.heap.size w W1) := Lib.hid (by rw [hW1]; exact HBW.out.alloc HBW.out.size _)
          have e3 : W1.cell? ⟨b2, o2 + k, none⟩ = some (.int .i64 x) := by rw [hW1]; exact (World.cell?_alloc_lt wr _ ⟨b2, o2 + k, none⟩ hb2w).trans d3
          obtain ⟨B4, hB4⟩ : ∃ q, q = wr.heap.size := ⟨_, rfl⟩
          have y1 : W1.cell? ⟨B4, 1, none⟩ = some (.slice A4 P c4) := by rw [hW1, hB4]; simp
          have HW1 := Lib.hid hW1
          have HB4 := Lib.hid hB4
          have hlt' : (k : Int) < (n1 : Int) := by omega
          clear hP hg hx hW1 hB4 hb2w hkl
          cases hq : ((P : Int) != x)
          · have hPx : (P : Int) = x := by simpa using hq
            have HY := Lib.hid (hyes.out hPx)
            clear hPx hno hyes
            go_wp2_with fail
            rw [← HW1.out, ← HB4.out]
            clear d1 d2 d3
            go_quiet (fail)
            go_wp2_with fail
            go_roundw
            case rel => exact ⟨k + 1, by omega, by go_num, HY, Lib.hid (below_drewN' HB1.out _)⟩
            case measure => simp [intOf]; omega
          · have hPx : (P : Int) ≠ x := by simpa using hq
            have hE3 := hno.out hPx
            subst hE3
            clear hPx hno hyes
            go_wp2_with fail
            rw [← HW1.out, ← HB4.out]
            clear d1 d2 d3
            go_quiet (fail)
            go_wp2_with fail
            go_ret
            exact ⟨by rw [errV_ne (by omega)]; rfl, below_drewN' HB1.out _⟩
        · obtain rfl : k = n1 := by omega
          have hsz := map_eq (f := fun x => (x.pulses.length : Int)) (ps := ps) (s := s) (by rw [HL1.out, HL2.out]) (fun j hj => HA.out j (by rw [← HL1.out]; exact hj))
          have HE3 : Hid (E = if Ph.partsErr ps ≠ 0 then Ph.partsErr ps else if bits < 0 ∨ 400 < bits then 1 else if ps.map (fun x => Ph.loud x.pulses) ≠ Ph.shared ps s bits then 3 else 0) := Lib.hid (by rw [HE2.out, if_neg (by simp [hsz])])
          clear HE2 hsz HA
          go_wp2_with fail
          rename World => wa
          have hBa := Nat.le_trans hB HBW.out.size
          go_loopw [12, 13, 14, 15, 51] (fun _ _ _ _ i wr2 => ∃ j : Nat, j ≤ k ∧ i = .int .i64 j ∧ Hid (Ph.partsErr (ps.drop j) = Ph.partsErr ps) ∧ Hid (Below w.heap.size w wr2)) (fun _ _ _ _ i _ => k - (intOf i).toNat)
          case atStart => exact ⟨0, Nat.zero_le _, rfl, Lib.hid rfl, HBW⟩
          case round =>
            obtain ⟨j, hj, rfl, HD, HB2⟩ := hrel
            by_cases hlt2 : j < k
            · have hjl : j < ps.length := by rw [HL1.out]; exact hlt2
              obtain ⟨b0, o0, A4, c4, rfl, hb0, d1, d2, hcc, hrd⟩ := (H1.out.below (HB2.out.mono hB)).at_ hlt2
              have hdd := partsErr_drop ps j hjl
              rw [HD.out] at hdd
              have hpl := HPB.out _ (partD_mem hjl)
              obtain ⟨p, hpe⟩ : ∃ p, p = ps.getD j ⟨0, []⟩ := ⟨_, rfl⟩
              rw [← hpe] at d1 d2 hcc hrd hdd hpl
              obtain ⟨g, v⟩ := p
              simp only at d1 d2 hcc hrd hdd hpl
              have HRD := Lib.hid (hrd.more (Nat.le_trans hB HB2.out.size))
              obtain ⟨P, hP⟩ : ∃ P, P = v.length := ⟨_, rfl⟩
              rw [← hP] at d2 hcc HRD hpl
              have HC := Lib.hid fun W (hW : RdI W W.heap.size A4 P v) => fcheck_any g A4 P c4 v W W.heap.size hW (Nat.le_refl _) hpl
              unfold partV at HC
              have HGV := Lib.hid fun W => gv_ok g W
              have HGN := Lib.hid fun W => gv_no g W
              obtain ⟨W1, hW1⟩ : ∃ W1, W1 = wr.alloc (.cells #[.int .i64 g, .slice A4 P c4] 78) := ⟨_, rfl⟩
              have HB3 : Hid (Below w.heap.size w W1) := Lib.hid (by rw [hW1]; exact HB2.out.alloc HB2.out.size _)
              have HBE2 : Hid (Below wr.heap.size wr W1) := Lib.hid (by rw [hW1]; exact below_alloc0 _ _)
              have HR3 := Lib.hid (HRD.out.on HBE2.out)
              obtain ⟨B4, hB4⟩ : ∃ q, q = wr.heap.size := ⟨_, rfl⟩
              have z0 : W1.cell? ⟨B4, 0, none⟩ = some (.int .i64 g) := by rw [hW1, hB4]; simp
              have z1 : W1.cell? ⟨B4, 1, none⟩ = some (.slice A4 P c4) := by rw [hW1, hB4]; simp
              have hsz : W1.heap.size = B4 + 1 := by rw [hW1, hB4]; simp
              have HW1 := Lib.hid hW1
              have HB4 := Lib.hid hB4
              clear hP hpe hrd hb0 hW1 hB4
              by_cases hgo : Ph.gainOk g = true
              · rw [if_neg (by rw [hgo]; simp)] at hdd
                have HGO := Lib.hid hgo
                obtain ⟨V, hV⟩ : ∃ V, V = Ph.val g := ⟨_, rfl⟩
                rw [← hV] at HGV
                clear hgo HGN hV
                by_cases hpe : Ph.pulsesErr v = 0
                · rw [if_neg (by omega)] at hdd
                  have HDN := Lib.hid hdd.symm
                  rw [hpe, errV_zero] at HC
                  clear hdd hpe
                  go_wp2_with fail
                  rw [← HW1.out, ← HB4.out]
                  refine (HGV.out _ HGO.out).mono ?_
                  rintro e w5 ⟨rfl, nq, rfl⟩
                  obtain ⟨W5, hW5⟩ : ∃ W5, W5 = W1.drewN nq := ⟨_, rfl⟩
                  have x0 : W5.cell? ⟨B4, 0, none⟩ = some (.int .i64 g) := by rw [hW5]; exact z0
                  have x1 : W5.cell? ⟨B4, 1, none⟩ = some (.slice A4 P c4) := by rw [hW5]; exact z1
                  have HB5 : Hid (Below w.heap.size w W5) := Lib.hid (by rw [hW5]; exact below_drewN' HB3.out _)
                  have HR5 : Hid (RdI W5 W5.heap.size A4 P v) := Lib.hid (by rw [hW5]; exact HR3.out)
                  rw [← hW5]
                  clear hW5 z0 z1 d1 d2
                  go_wp2_with fail
                  refine (HC.out _ HR5.out).mono ?_
                  rintro e w4 ⟨rfl, hb4⟩
                  have HB6 := Lib.hid (below_on HB5.out hb4)
                  clear hb4
                  go_wp2_with fail
                  go_roundw
                  case rel => exact ⟨j + 1, by omega, by go_num, HDN, HB6⟩
                  case measure => simp [intOf]; omega
                · rw [if_pos hpe] at hdd
                  have e : E = Ph.pulsesErr v := by rw [HE3.out, hdd, if_pos hpe]
                  rw [← e] at HC hpe
                  clear e hdd HE3
                  go_wp2_with fail
                  rw [← HW1.out, ← HB4.out]
                  refine (HGV.out _ HGO.out).mono ?_
                  rintro e w5 ⟨rfl, nq, rfl⟩
                  obtain ⟨W5, hW5⟩ : ∃ W5, W5 = W1.drewN nq := ⟨_, rfl⟩
                  have x0 : W5.cell? ⟨B4, 0, none⟩ = some (.int .i64 g) := by rw [hW5]; exact z0
                  have x1 : W5.cell? ⟨B4, 1, none⟩ = some (.slice A4 P c4) := by rw [hW5]; exact z1
                  have HB5 : Hid (Below w.heap.size w W5) := Lib.hid (by rw [hW5]; exact below_drewN' HB3.out _)
                  have HR5 : Hid (RdI W5 W5.heap.size A4 P v) := Lib.hid (by rw [hW5]; exact HR3.out)
                  rw [← hW5]
                  clear hW5 z0 z1 d1 d2
                  go_wp2_with fail
                  refine (HC.out _ HR5.out).mono ?_
                  rintro e w4 ⟨rfl, hb4⟩
                  have HB6 := Lib.hid (below_on HB5.out hb4)
                  rw [errV_ne hpe]
                  clear hb4
                  go_wp2_with fail
                  go_ret
                  exact ⟨by rw [errV_ne hpe]; rfl, HB6.out⟩
              · have hgf : Ph.gainOk g = false := by simpa using hgo
                rw [if_pos hgf] at hdd
                have e : E = 1 := by rw [HE3.out, hdd, if_pos (by omega)]
                subst e
                clear hdd hgo HGV HE3
                go_wp2_with fail
                rw [← HW1.out, ← HB4.out]
                refine (HGN.out _ hgf).mono ?_
                rintro e w5 ⟨rfl, nq, rfl⟩
                go_wp2_with fail
                go_ret
                exact ⟨by rw [errV_ne (by omega)]; rfl, below_drewN' HB3.out _⟩
            · obtain rfl : j = k := by omega
              have hd0 := HD.out
              rw [List.drop_of_length_le (by rw [HL1.out]; omega)] at hd0
              have hpz : Ph.partsErr ps = 0 := hd0.symm
              have hz := Ph.partsErr_zero.1 hpz
              have HZ := Lib.hid hz
              have HE4 : Hid (E = if bits < 0 ∨ 400 < bits then 1 else if ps.map (fun x => Ph.loud x.pulses) ≠ Ph.shared ps s bits then 3 else 0) := Lib.hid (by rw [HE3.out, if_neg (by omega)])
              have HSB := Lib.hid fun W => shbits_any bits W
              clear hd0 hpz HE3 HD hlt2 hlt
              by_cases hbi : 0 ≤ bits ∧ bits ≤ 400
              · rw [show bitsOk bits = true from bitsOk_iff.2 hbi] at HSB
                have HE5 : Hid (E = if ps.map (fun x => Ph.loud x.pulses) ≠ Ph.shared ps s bits then 3 else 0) := Lib.hid (by rw [HE4.out, if_neg (by omega)])
                have HGI := Lib.hid fun W (hW1 : RdP W B A1 j ps) (hW2 : RdI W B A2 j s) hBW => fgiven_any A1 j c1 ps A2 c2 s bits W B B hW1 hW2 hBW hBW (fun p hp => (HZ.out p hp).1) HBE.out hbi
                have hsl : (Ph.shared ps s bits).length = j := by
                  have := (Ph.share_ok (s := s) (loud := Ph.vals ps) (bits := bits) hbi.1).1
                  rw [HL2.out] at this
                  exact this
                obtain ⟨K, hK⟩ : ∃ K, K = Ph.shared ps s bits := ⟨_, rfl⟩
                rw [← hK] at HE5 HGI hsl
                have HKL := Lib.hid hsl
                clear hK hsl HE4 hz
                go_wp2_with fail
                refine (HSB.out _).mono ?_
                rintro e w' ⟨rfl, rfl⟩
                go_wp2_with fail
                refine (HGI.out _ (H1.out.below (HB2.out.mono hB)) (H2.out.below (HB2.out.mono hB)) (Nat.le_trans hB HB2.out.size)).mono ?_
                rintro e w7 ⟨A77, c77, rfl, ho, hb⟩
                rw [HKL.out] at ho ⊢
                have HK7 := Lib.hid (RdI.own ho)
                have HB7 := Lib.hid (below_on HB2.out hb)
                clear ho hb HGI HB2
                go_wp2_with fail
                go_loopw [16, 17, 79] (fun _ _ i wr3 => ∃ k : Nat, k ≤ j ∧ i = .int .i64 k ∧ Hid (∀ i, i < k → Ph.loud (ps.getD i ⟨0, []⟩).pulses = K.getD i 0) ∧ Hid (Below w7.heap.size w7 wr3)) (fun _ _ i _ => j - (intOf i).toNat)
                case atStart => exact ⟨0, Nat.zero_le _, rfl, Lib.hid (fun i hi => absurd hi (by omega)), Lib.hid (Below.refl _ _)⟩
                case round =>
                  obtain ⟨k, hk, rfl, HA, HB8⟩ := hrel
                  by_cases hlt : k < j
                  · have hkl : k < ps.length := by rw [HL1.out]; exact hlt
                    have HB9 := Lib.hid (below_on HB7.out HB8.out)
                    obtain ⟨b0, o0, A4, c4, rfl, hb0, d1, d2, hcc, hrd⟩ := (H1.out.below (HB9.out.mono hB)).at_ hlt
                    obtain ⟨b6, o6, hA6, hb6, d6⟩ := (HK7.out.below HB8.out).at_ hlt
                    subst hA6
                    have hz6 := Ph.pulsesErr_zero.1 (HZ.out _ (partD_mem hkl)).2
                    have hno : Hid (Ph.loud (ps.getD k ⟨0, []⟩).pulses ≠ K.getD k 0 → E = 3) := Lib.hid fun h => by rw [HE5.out, if_pos (map_ne (f := fun x => Ph.loud x.pulses) hkl h)]
                    have hyes : Hid (Ph.loud (ps.getD k ⟨0, []⟩).pulses = K.getD k 0 → ∀ i, i < k + 1 → Ph.loud (ps.getD i ⟨0, []⟩).pulses = K.getD i 0) := Lib.hid fun h i hi => by
                      by_cases hjk : i < k
                      · exact HA.out i hjk
                      · obtain rfl : i = k := by omega
                        exact h
                    obtain ⟨v, hv⟩ : ∃ v, v = (ps.getD k ⟨0, []⟩).pulses := ⟨_, rfl⟩
                    rw [← hv] at d2 hcc hrd hz6 hno hyes
                    obtain ⟨g, hg⟩ : ∃ g, g = (ps.getD k ⟨0, []⟩).gain := ⟨_, rfl⟩
                    rw [← hg] at d1
                    obtain ⟨x, hx⟩ : ∃ x, x = K.getD k 0 := ⟨_, rfl⟩
                    rw [← hx] at d6 hno hyes
                    have HSU := Lib.hid (sum_any A4 v.length c4 v wr _ hrd (Ph.allIn_mono hz6.2.1 (by omega)) (by omega))
                    obtain ⟨P, hP⟩ : ∃ P, P = v.length := ⟨_, rfl⟩
                    rw [← hP] at d2 HSU
                    obtain ⟨Z, hZ⟩ : ∃ Z, Z = Ph.loud v := ⟨_, rfl⟩
                    rw [← hZ] at HSU hno hyes
                    have hlt' : (k : Int) < (j : Int) := by omega
                    clear hv hg hx hP hZ hrd hz6 hkl hcc
                    cases hq : (Z != x)
                    · have hPx : Z = x := by simpa using hq
                      have HY := Lib.hid (hyes.out hPx)
                      clear hPx hno hyes
                      go_wp2_with fail
                      refine HSU.out.mono ?_
                      rintro e w' ⟨rfl, rfl⟩
                      go_wp2_with fail
                      go_roundw
                      case rel => exact ⟨k + 1, by omega, by go_num, HY, HB8⟩
                      case measure => simp [intOf]; omega
                    · have hPx : Z ≠ x := by simpa using hq
                      have hE3 := hno.out hPx
                      subst hE3
                      clear hPx hno hyes
                      go_wp2_with fail
                      refine HSU.out.mono ?_
                      rintro e w' ⟨rfl, rfl⟩
                      go_wp2_with fail
                      go_ret
                      exact ⟨by rw [errV_ne (by omega)]; rfl, HB9.out⟩
                  · obtain rfl : k = j := by omega
                    have hsz := map_eq (f := fun x => Ph.loud x.pulses) (ps := ps) (s := K) (by rw [HL1.out, HKL.out]) (fun i hi => HA.out i (by rw [← HL1.out]; exact hi))
                    have hE : E = 0 := by rw [HE5.out, if_neg (by simp [hsz])]
                    subst hE
                    clear hsz HE5 HA
                    go_wp2_with fail
                    go_ret
                    exact ⟨rfl, below_on HB7.out HB8.out⟩
              · rw [show bitsOk bits = false by unfold bitsOk; simp; omega] at HSB
                have e : E = 1 := by rw [HE4.out, if_pos (by omega)]
                subst e
                clear HE4 hz
                go_wp2_with fail
                refine (HSB.out _).mono ?_
                rintro e w' ⟨rfl, rfl⟩
                go_wp2_with fail
                go_ret
                exact ⟨by rw [errV_ne (by omega)]; rfl, HB2.out⟩
    · have e : E = 3 := by rw [HE.out, if_neg (by omega), if_pos hne]
      subst e
      have hnn : ((n1 : Int) != (n2 : Int)) = true := by simp; omega
      clear HE hne
      go_enter Tryz.func52, Tryz.ntmps52
      go_wp2_with fail
      refine HBC.out.mono ?_
      rintro e w' ⟨rfl, rfl⟩
      go_wp2_with fail
      go_ret
      exact ⟨by rw [errV_ne (by omega)]; rfl, Below.refl _ _⟩
  · have HBC := Lib.hid (bandCheck_no A2 n2 c2 s w B h2 hn2 hbe)
    have e : E = Ph.bandErr s := by rw [HE.out, if_pos hbe]
    rw [← e] at HBC hbe
    rw [errV_ne hbe] at HBC ⊢
    clear h1 h2 hE HE e hp
    go_enter Tryz.func52, Tryz.ntmps52
    go_wp2_with fail
    refine HBC.out.mono ?_
    rintro e w' ⟨rfl, rfl⟩
    go_wp2_with fail
    go_ret
    exact ⟨rfl, Below.refl _ _⟩
end Go.Proofs.YtmohilfebgahoaaGreatDoor
