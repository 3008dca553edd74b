/- Walks: frames (chapter 16): values of gains, pulses by gains, a part's fault, a part's numbers. -/
import Derived.Test.YtmohilfebgahoaaGreatDoorParts
import Derived.Test.YtmohilfebgahoaaGreatDoorGain
import Derived.Test.YtmohilfebgahoaaGreatDoorShare
import Derived.Test.YtmohilfebgahoaaGreatDoorPulse
import Derived.Test.YtmohilfebgahoaaGreatDoorTree
import Derived.Test.YtmohilfebgahoaaGreatDoorLap
import Derived.Test.YtmohilfebgahoaaGreatDoorSound
import Derived.Test.YtmohilfebgahoaaGreatDoorNear
import Derived.Test.YtmohilfebgahoaaGreatDoorBand
namespace Go.Proofs.YtmohilfebgahoaaGreatDoor
open Go.RowKit

theorem gainOk_nat {g : Int} (h : Ph.gainOk g = true) : ∃ q : Nat, g = q ∧ q ≤ 53 ∧ Ph.valued q = true := by
  have h1 := Ph.gainOk_le h
  unfold Ph.gainOk at h
  rw [Bool.and_eq_true, decide_eq_true_eq] at h
  exact ⟨g.toNat, by omega, by omega, h.2⟩
theorem vals_take (ps : List Ph.Part) (k : Nat) (h : k < ps.length) : (Ph.vals ps).take (k + 1) = (Ph.vals ps).take k ++ [Ph.val (ps.getD k ⟨0, []⟩).gain] := by
  unfold Ph.vals
  rw [List.take_succ_eq_append_getElem (by simpa using h), List.getElem_map, List.getD_eq_getElem?_getD, List.getElem?_eq_getElem h]
  rfl
theorem partD_mem {ps : List Ph.Part} {k : Nat} (h : k < ps.length) : ps.getD k ⟨0, []⟩ ∈ ps := by
  rw [List.getD_eq_getElem?_getD, List.getElem?_eq_getElem h]; exact List.getElem_mem h
set_option maxHeartbeats 1000000 in
theorem values_any (A : Option Addr) (n c : Nat) (ps : List Ph.Part) (w : World) (B : Nat) (h : RdP w B A n ps) (hB : B ≤ w.heap.size) (hg : ∀ p ∈ ps, Ph.gainOk p.gain = true) (hn : n ≤ 1000000) :
    Calls Tryz.prog 90 #[.slice A n c] w (OwnI 3 (Ph.vals ps) w) := by
  have H := Lib.hid h
  have HL := Lib.hid h.len
  have HG := Lib.hid hg
  clear h hg
  go_enter Tryz.func90, Tryz.ntmps90
  go_wp2_with fail
  go_loopw [3, 5, 8] (fun v _ i wr => ∃ (k : Nat) (A5 : Option Addr) (c5 : Nat), k ≤ n ∧ i = .int .i64 k ∧ v = .slice A5 k c5 ∧ Hid (wr.ownsRow w.heap.size 3 1 (.slice A5 k c5) k (ivals ((Ph.vals ps).take k))) ∧ Hid (Below w.heap.size w wr)) (fun _ _ i _ => n - (intOf i).toNat)
  case atStart => exact ⟨0, none, 0, Nat.zero_le _, rfl, rfl, Lib.hid (own_nil _ _ _), Lib.hid (Below.refl _ _)⟩
  case round =>
    obtain ⟨k, A5, c5, hk, rfl, rfl, HO, HBW⟩ := hrel
    by_cases hlt : k < n
    · obtain ⟨b0, o0, A2, c2, rfl, hb0, d1, d2, _, _⟩ := (H.out.below (HBW.out.mono hB)).at_ hlt
      have ht := vals_take ps k (by rw [HL.out]; exact hlt)
      obtain ⟨q, hq, hq53, hqv⟩ := gainOk_nat (HG.out _ (partD_mem (by rw [HL.out]; exact hlt)))
      rw [hq] at d1 ht
      have hv : Ph.val ((q : Nat) : Int) = (Ph.mean q : Nat) := by unfold Ph.val; rw [Int.toNat_natCast]
      rw [hv] at ht
      obtain ⟨P, hP⟩ : ∃ P, P = (ps.getD k ⟨0, []⟩).pulses.length := ⟨_, rfl⟩
      rw [← hP] at d2
      have HT := Lib.hid ht
      have HM := Lib.hid fun W => mean_any q W hq53
      have hbl := HBW.out.size
      clear hP hq ht hv hqv
      go_wp2_with fail
      refine (HM.out _).mono ?_
      rintro e w1 ⟨rfl, nq, rfl⟩
      obtain ⟨W1, hW1⟩ : ∃ W1, W1 = (wr.alloc (.cells #[.int .i64 (q : Int), .slice A2 P c2] 78)).drewN nq := ⟨_, rfl⟩
      rw [← hW1]
      have HO1 : Hid (W1.ownsRow w.heap.size 3 1 (.slice A5 k c5) k (ivals ((Ph.vals ps).take k))) := Lib.hid (by rw [hW1]; exact HO.out.alloc _)
      have HB1 : Hid (Below w.heap.size w W1) := Lib.hid (by rw [hW1]; exact below_drewN' (HBW.out.alloc hbl _) _)
      clear hW1 d1 d2 hbl
      go_wp2_with (at_builtin; refine wpList_push _ (by rfl) _ _ (by rfl) w w.heap.size A5 k c5 _ (Ph.mean q : Nat) HO1.out HB1.out HB1.out.size (by omega) (by rfl) (by rfl) ?_; intro g cap w2 ho2 hb2)
      have HO2 := Lib.hid ho2
      have HB2 := Lib.hid hb2
      clear ho2 hb2
      go_wp2_with fail
      go_roundw
      case rel => exact ⟨k + 1, some ⟨g, 0, none⟩, cap, by omega, by go_num, rfl, Lib.hid (by rw [HT.out]; exact HO2.out), HB2⟩
      case measure => simp [intOf]; omega
    · obtain rfl : k = n := by omega
      have hall : (Ph.vals ps).take k = Ph.vals ps := List.take_of_length_le (by unfold Ph.vals; rw [List.length_map, HL.out]; omega)
      have hlen : (Ph.vals ps).length = k := by unfold Ph.vals; rw [List.length_map, HL.out]
      rw [hall] at HO
      go_wp2_with fail
      go_ret
      exact ⟨A5, c5, by rw [hlen]; rfl, by rw [hlen]; exact HO.out, HBW.out⟩
theorem val_bd {g : Int} (h : Ph.gainOk g = true) : 0 ≤ Ph.val g ∧ Ph.val g ≤ 8000 := by
  obtain ⟨q, rfl, _, hv⟩ := gainOk_nat h
  unfold Ph.val
  rw [Int.toNat_natCast]
  simp only [Ph.valued, Bool.and_eq_true, decide_eq_true_eq] at hv
  have hh := hv.2
  omega
theorem fgiven_any (A1 : Option Addr) (n c1 : Nat) (ps : List Ph.Part) (A2 : Option Addr) (c2 : Nat) (s : List Int) (bits : Int) (w : World) (B1 B2 : Nat) (h1 : RdP w B1 A1 n ps) (h2 : RdI w B2 A2 n s) (hB1 : B1 ≤ w.heap.size) (hB2 : B2 ≤ w.heap.size) (hg : ∀ p ∈ ps, Ph.gainOk p.gain = true) (h0 : Ph.bandErr s = 0) (hb : 0 ≤ bits ∧ bits ≤ 400) :
    Calls Tryz.prog 50 #[.slice A1 n c1, .slice A2 n c2, .int .i64 bits] w (OwnI 3 (Ph.shared ps s bits) w) := by
  have hn8 : n ≤ 8 := by have := (Ph.bandErr_zero.1 h0); have := h2.len; omega
  have hvl : (Ph.vals ps).length = n := by unfold Ph.vals; rw [List.length_map, h1.len]
  have HV := Lib.hid (values_any A1 n c1 ps w B1 h1 hB1 hg (by omega))
  have HVB : Hid (∀ x ∈ Ph.vals ps, 0 ≤ x ∧ x ≤ 8000) := Lib.hid fun x hx => by
    obtain ⟨p, hp, rfl⟩ := List.mem_map.1 hx
    exact val_bd (hg p hp)
  have H2 := Lib.hid (h2.more hB2)
  have HG := Lib.hid fun A5 c5 W hW1 hW2 => given_any A2 n c2 s A5 c5 (Ph.vals ps) bits W W.heap.size hW1 hW2 (Nat.le_refl _) h0 HVB.out hb
  have HS : Hid (Ph.shared ps s bits = Ph.shareOf s (Ph.vals ps) bits) := Lib.hid rfl
  obtain ⟨S, hS⟩ : ∃ S, S = Ph.shared ps s bits := ⟨_, rfl⟩
  rw [← hS] at HS ⊢
  have HL := Lib.hid hvl
  clear h1 h2 hg h0 hS hvl
  go_enter Tryz.func50, Tryz.ntmps50
  go_wp2_with fail
  refine (HV.out).mono ?_
  rintro e w1 ⟨A5, c5, rfl, ho, hb1⟩
  rw [HL.out] at ho
  have HO := Lib.hid ho
  have HB1 := Lib.hid hb1
  rw [HL.out]
  clear ho hb1
  go_wp2_with fail
  refine (HG.out A5 c5 _ (H2.out.on HB1.out) (RdI.own HO.out)).mono ?_
  rw [← HS.out]
  rintro e w2 ⟨A6, c6, rfl, ho, hb2⟩
  have HO2 := Lib.hid (own_more ho HB1.out.size)
  have HB2 := Lib.hid (below_on HB1.out hb2)
  clear ho hb2
  go_wp2_with fail
  go_ret
  exact ⟨A6, c6, rfl, HO2.out, HB2.out⟩
/-- A part as a value. -/
def partV (g : Int) (A : Option Addr) (n c : Nat) : Value := .agg #[.int .i64 g, .slice A n c]
theorem fcheck_any (g : Int) (A : Option Addr) (n c : Nat) (v : List Int) (w : World) (B : Nat) (h : RdI w B A n v) (hB : B ≤ w.heap.size) (hn : n ≤ 100000000000000) :
    Calls Tryz.prog 59 #[partV g A n c] w fun e w' => e = .returned (errV (Ph.pulsesErr v)) ∧ Below w.heap.size w w' := by
  have H := Lib.hid (h.more hB)
  clear h
  unfold partV
  go_enter Tryz.func59, Tryz.ntmps59
  obtain ⟨W1, hW1⟩ : ∃ W1, W1 = w.alloc (.cells #[.int .i64 g, .slice A n c] 78) := ⟨_, rfl⟩
  have HB1 : Hid (Below w.heap.size w W1) := Lib.hid (by rw [hW1]; exact below_alloc0 _ _)
  have HC := Lib.hid (pCheck_any A n c v W1 W1.heap.size (H.out.on HB1.out) (Nat.le_refl _) hn)
  rw [hW1] at HC HB1
  obtain ⟨O, hO⟩ : ∃ O, O = (if Ph.pulsesErr v = 0 then Ph.loud v else 0) := ⟨_, rfl⟩
  rw [← hO] at HC
  clear hW1 hO
  go_wp2_with fail
  refine HC.out.mono ?_
  rintro e w2 ⟨rfl, hb2⟩
  have HB2 := Lib.hid (below_on HB1.out hb2)
  clear hb2
  go_wp2_with fail
  go_ret
  exact ⟨rfl, HB2.out⟩
theorem number1_bd {v : List Int} {g : Int} (hv : Ph.pulsesErr v = 0) (hg : Ph.gainOk g = true) (x : Int) (hx : x ∈ v) : -64000 ≤ x * Ph.val g ∧ x * Ph.val g ≤ 64000 := by
  have h1 := Ph.pulsesErr_zero.1 hv
  have h2 := val_bd hg
  have h3 := (Ph.allIn_iff.1 h1.2.1) x hx
  have h4 := Int.mul_le_mul_of_nonneg_right h3.1 h2.1
  have h5 := Int.mul_le_mul_of_nonneg_right h3.2 h2.1
  omega
/-- The first k are turned. -/
def halfway (f : Int → Int) (v : List Int) (k : Nat) : List Int := (v.take k).map f ++ v.drop k
theorem halfway_zero (f : Int → Int) (v : List Int) : halfway f v 0 = v := by simp [halfway]
theorem halfway_all (f : Int → Int) (v : List Int) (k : Nat) (h : v.length ≤ k) : halfway f v k = v.map f := by
  unfold halfway; rw [List.take_of_length_le h, List.drop_of_length_le h, List.append_nil]
theorem halfway_len (f : Int → Int) (v : List Int) (k : Nat) : (halfway f v k).length = v.length := by unfold halfway; simp; omega
theorem halfway_get (f : Int → Int) (v : List Int) (k : Nat) (h : k < v.length) : (halfway f v k).getD k 0 = v.getD k 0 := by
  unfold halfway
  rw [List.getD_eq_getElem?_getD, List.getElem?_append_right (by simp; omega), List.length_map, List.length_take, Nat.min_eq_left (by omega), Nat.sub_self, List.getElem?_drop, List.getD_eq_getElem?_getD]
  simp
theorem halfway_set (f : Int → Int) (v : List Int) (k : Nat) (h : k < v.length) : (halfway f v k).set k (f (v.getD k 0)) = halfway f v (k + 1) := by
  unfold halfway
  have hl : ((v.take k).map f).length = k := by simp; omega
  rw [List.set_append_right _ _ (by omega), hl, Nat.sub_self, List.take_succ_eq_append_getElem h, List.map_append, List.drop_eq_getElem_cons h, List.set_cons_zero, List.append_assoc, List.getD_eq_getElem?_getD, List.getElem?_eq_getElem h]
  rfl
theorem halfway_same (f : Int → Int) (v : List Int) (k : Nat) (h : k < v.length) (he : f (v.getD k 0) = v.getD k 0) : halfway f v (k + 1) = halfway f v k := by
  rw [← halfway_set f v k h, he]
  apply List.ext_getElem
  · simp
  · intro j h1 h2
    rw [List.getElem_set]
    split
    · rename_i e
      subst e
      have := halfway_get f v k h
      rw [List.getD_eq_getElem?_getD, List.getElem?_eq_getElem h2] at this
      simpa using this.symm
    · rfl
set_option maxHeartbeats 2000000 in
theorem fnumbers_any (g : Int) (A : Option Addr) (n c : Nat) (v : List Int) (w : World) (B : Nat) (h : RdI w B A n v) (hB : B ≤ w.heap.size) (hg : Ph.gainOk g = true) (h0 : Ph.pulsesErr v = 0) :
    Calls Tryz.prog 61 #[partV g A n c] w (OwnI 3 (Ph.numbers ⟨g, v⟩) w) := by
  have H := Lib.hid (h.more hB)
  have HL := Lib.hid h.len
  have h8 := Ph.pulsesErr_zero.1 h0
  have hn : n ≤ 6 := by have := h.len; omega
  have HBD := Lib.hid (number1_bd h0 hg)
  obtain ⟨q, rfl, hq53, hqv⟩ := gainOk_nat hg
  have HM := Lib.hid fun W => mean_any q W hq53
  have hval : Ph.val ((q : Nat) : Int) = (Ph.mean q : Nat) := by unfold Ph.val; rw [Int.toNat_natCast]
  have hln := Ph.loud_nonneg v
  have hl8 := h8.2.2
  have HAI := Lib.hid (Ph.allIn_mono h8.2.1 (show (8 : Int) ≤ 8000 by omega))
  unfold partV
  obtain ⟨W1, hW1⟩ : ∃ W1, W1 = w.alloc (.cells #[.int .i64 (q : Int), .slice A n c] 78) := ⟨_, rfl⟩
  have HB1 : Hid (Below w.heap.size w W1) := Lib.hid (by rw [hW1]; exact below_alloc0 _ _)
  have hgs : W1.heap.size = w.heap.size + 1 := by rw [hW1]; simp
  have p0 : W1.cell? ⟨w.heap.size, 0, none⟩ = some (.int .i64 (q : Int)) := by rw [hW1]; simp
  have HS := Lib.hid (sum_any A n c v W1 W1.heap.size (H.out.on HB1.out) HAI.out (by omega))
  have HCL := Lib.hid (clone_any A n c v W1 W1.heap.size (H.out.on HB1.out) (by omega))
  have HN : Hid (Ph.numbers ⟨(q : Int), v⟩ = v.map (Ph.number1 ⟨(q : Int), v⟩)) := Lib.hid rfl
  have HN1 : Hid (∀ x, Ph.number1 ⟨(q : Int), v⟩ x = if 0 < Ph.loud v then (x * (Ph.mean q : Nat)).tdiv (Ph.loud v) else x) := Lib.hid fun x => by unfold Ph.number1; rw [hval]
  rw [hval] at HBD
  obtain ⟨F, hF⟩ : ∃ F, F = Ph.number1 ⟨(q : Int), v⟩ := ⟨_, rfl⟩
  rw [← hF] at HN HN1
  obtain ⟨K, hK⟩ : ∃ K, K = Ph.loud v := ⟨_, rfl⟩
  rw [← hK] at HS HN1 hln hl8
  obtain ⟨G, hG⟩ : ∃ G, G = Ph.mean q := ⟨_, rfl⟩
  rw [← hG] at HM HN1 HBD
  rw [HN.out]
  rw [hW1] at HCL HS HB1 p0 hgs
  clear h hg h0 hval h8 hF hK hG hqv HN hW1
  go_enter Tryz.func61, Tryz.ntmps61
  go_wp2_with fail
  refine HS.out.mono ?_
  rintro e w' ⟨rfl, rfl⟩
  go_wp2_with fail
  refine HCL.out.mono ?_
  rintro e w2 ⟨A5, c5, rfl, ho, hb⟩
  have HO := Lib.hid ho
  have HB2 := Lib.hid (below_on HB1.out hb)
  have P0 := Lib.hid ((hb.cell (p := ⟨w.heap.size, 0, none⟩) (by simp)).trans p0)
  clear ho hb p0
  go_wp2_with fail
  rw [show (w.alloc (.cells #[.int .i64 (q : Int), .slice A n c] 78)).heap.size = w.heap.size + 1 from by simp] at HO
  go_loopw [5, 14] (fun _ i wr => ∃ k : Nat, k ≤ n ∧ i = .int .i64 k ∧ Hid (wr.ownsRow (w.heap.size + 1) 3 1 (.slice A5 n c5) n (ivals (halfway F v k))) ∧ Hid (wr.cell? ⟨w.heap.size, 0, none⟩ = some (.int .i64 (q : Int))) ∧ Hid (Below w.heap.size w wr)) (fun _ i _ => n - (intOf i).toNat)
  case atStart => exact ⟨0, Nat.zero_le _, rfl, by rw [halfway_zero]; exact HO, P0, HB2⟩
  case round =>
    obtain ⟨k, hk, rfl, HO2, P2, HB3⟩ := hrel
    by_cases hlt : k < n
    · have hlv : k < v.length := by rw [HL.out]; exact hlt
      obtain ⟨g5, rfl, hg5, hg5l⟩ := own_form HO2.out (by omega)
      by_cases hK0 : 0 < K
      · have hget := halfway_get F v k hlv
        have hset := halfway_set F v k hlv
        have hbd := HBD.out _ (Ph.getD_mem (l := v) (i := k) hlv)
        have hF := HN1.out (v.getD k 0)
        rw [if_pos hK0] at hF
        have c0 : wr.cell? ⟨g5, k, none⟩ = some (.int .i64 (v.getD k 0)) := by
          rw [HO2.out.cellAt k (by omega), ivals_get (by rw [halfway_len]; exact hlv), hget]
        obtain ⟨x, hx⟩ : ∃ x, x = v.getD k 0 := ⟨_, rfl⟩
        rw [← hx] at hset hbd hF c0
        obtain ⟨M, hM⟩ : ∃ M, M = x * (G : Int) := ⟨_, rfl⟩
        rw [← hM] at hbd hF
        have k1 : IntKind.i64.wrap (x * (G : Int)) = M := by rw [← hM]; exact IntWalk.i64_in _ (by omega)
        have k2 : IntKind.i64.wrap (M.tdiv K) = M.tdiv K := IntWalk.i64_in _ (by
          have := Int.natAbs_tdiv_le_natAbs M K
          omega)
        have hKn : ¬ K = 0 := by omega
        have f0 : wr.frozen? ⟨g5, k, none⟩ = false := HO2.out.frozenAt _
        have p2 := P2.out
        have HSET : Hid ((halfway F v k).set k (M.tdiv K) = halfway F v (k + 1)) := Lib.hid (by rw [← hF]; exact hset)
        clear hget hset hx hM hF hlv hK0
        go_wp2_with fail
        go_region_with (go_at_call 101; refine (HM.out _).mono ?_; rintro e w3 ⟨rfl, q3, rfl⟩)
        all_goals go_wp2_with fail
        all_goals go_roundw
        all_goals first
          | (simp [intOf]; omega)
          | (refine ⟨k + 1, by omega, by go_num, ?_, ?_, ?_⟩
             · have := ((own_drewN HO2.out (1 + q3)).stored k (.int .i64 (M.tdiv K))).1
               rw [ivals_set, HSET.out] at this
               exact Lib.hid this
             · exact Lib.hid ((World.cell?_setCell_other _ _ _ _ (by simp <;> omega)).trans P2.out)
             · exact Lib.hid ((below_drewN' HB3.out _).setCell (by show w.heap.size ≤ g5; omega) _))
      · have hF := HN1.out (v.getD k 0)
        rw [if_neg hK0] at hF
        have hsame := halfway_same F v k hlv hF
        rw [← hsame] at HO2
        have p2 := P2.out
        clear hF hsame hlv
        go_wp2_with fail
        go_roundw
        case rel => exact ⟨k + 1, by omega, by go_num, HO2, P2, HB3⟩
        case measure => simp [intOf]; omega
    · obtain rfl : k = n := by omega
      have hall := halfway_all F v k (by rw [HL.out]; omega)
      rw [hall] at HO2
      have hlen : (v.map F).length = k := by rw [List.length_map, HL.out]
      go_wp2_with fail
      go_ret
      exact ⟨A5, c5, by rw [hlen]; rfl, by rw [hlen]; exact own_more HO2.out (by omega), HB3.out⟩
end Go.Proofs.YtmohilfebgahoaaGreatDoor
/- Walks: frames (chapter 16): a frame told. -/
namespace Go.Proofs.YtmohilfebgahoaaGreatDoor
open Go.RowKit

theorem lapI_toldL (A : Option Addr) (n c : Nat) (l : List Int) (w : World) (B : Nat) (h : RdI w B A n l) (hB : B ≤ w.heap.size) (hc : n ≤ c) (hn : n ≤ 100000000000000) :
    Calls Tryz.prog 62 #[.slice A n c] w (ToldL 3 (Ph.lapErr l 4000) (got (Ph.lapErr l 4000) (Ph.lapI l)) w) := by
  by_cases h0 : Ph.lapErr l 4000 = 0
  · refine (lapI_ok A n c l w B h hB hc h0).mono ?_
    rintro e w' ⟨A', c', rfl, ho, hb⟩
    rw [h0, got_zero]
    exact ⟨A', c', rfl, ho, hb⟩
  · refine (lapI_no A n c l w B h hB hn h0).mono ?_
    rintro e w' ⟨rfl, hb⟩
    rw [got_ne h0]
    exact ⟨none, 0, rfl, own_nil _ _ _, hb⟩
theorem gv_ok (g : Int) (w : World) (h : Ph.gainOk g = true) : Calls Tryz.prog 60 #[.int .i64 g] w fun e w' => e = .returned (.tuple #[.int .i64 (Ph.val g), .nilIface]) ∧ ∃ q, w' = w.drewN q := by
  obtain ⟨q, rfl, _, hv⟩ := gainOk_nat h
  have e : Ph.val ((q : Nat) : Int) = (Ph.mean q : Nat) := by unfold Ph.val; rw [Int.toNat_natCast]
  rw [e]
  exact value_ok q w hv
theorem gv_no (g : Int) (w : World) (h : Ph.gainOk g = false) : Calls Tryz.prog 60 #[.int .i64 g] w fun e w' => e = .returned (.tuple #[.int .i64 0, .iface 65 (.int .i64 1)]) ∧ ∃ q, w' = w.drewN q := by
  by_cases hb : g < 0 ∨ 53 < g
  · refine (value_no0 g w hb).mono ?_
    rintro e w' ⟨rfl, rfl⟩
    exact ⟨rfl, 0, rfl⟩
  · obtain ⟨q, rfl⟩ := Int.eq_ofNat_of_zero_le (show 0 ≤ g by omega)
    refine value_no q w (by omega) ?_
    unfold Ph.gainOk at h
    rw [Int.toNat_natCast] at h
    simpa using h
theorem many_take (ps : List Ph.Part) (k : Nat) (h : k < ps.length) : Ph.manyOf (ps.take (k + 1)) = Ph.manyOf (ps.take k) + (ps.getD k ⟨0, []⟩).pulses.length := by
  rw [List.take_succ_eq_append_getElem h, List.getD_eq_getElem?_getD, List.getElem?_eq_getElem h]
  unfold Ph.manyOf
  rw [List.map_append, List.sum_append]
  simp
theorem decAll_take (ps : List Ph.Part) (k : Nat) (h : k < ps.length) : Ph.decAll (ps.take (k + 1)) = Ph.decAll (ps.take k) ++ Ph.numbers (ps.getD k ⟨0, []⟩) := by
  rw [List.take_succ_eq_append_getElem h, List.getD_eq_getElem?_getD, List.getElem?_eq_getElem h]
  unfold Ph.decAll
  rw [List.flatMap_append]
  simp
theorem drop_part {ps : List Ph.Part} {k : Nat} (h : k < ps.length) : ps.drop k = ps.getD k ⟨0, []⟩ :: ps.drop (k + 1) := by
  rw [List.getD_eq_getElem?_getD, List.getElem?_eq_getElem h]; exact List.drop_eq_getElem_cons h
theorem decPart_drop (ps : List Ph.Part) (k : Nat) (h : k < ps.length) :
    Ph.decPart (ps.drop k) = if Ph.pulsesErr (ps.getD k ⟨0, []⟩).pulses ≠ 0 then Ph.pulsesErr (ps.getD k ⟨0, []⟩).pulses else if Ph.gainOk (ps.getD k ⟨0, []⟩).gain = false then 1 else Ph.decPart (ps.drop (k + 1)) := by
  rw [drop_part h]; rfl
theorem decAll_le (ps : List Ph.Part) (k : Nat) : (Ph.decAll (ps.take k)).length ≤ Ph.manyOf ps := by
  rw [Ph.decAll_length]
  have : Ph.manyOf ps = Ph.manyOf (ps.take k) + Ph.manyOf (ps.drop k) := by
    unfold Ph.manyOf
    conv => lhs; rw [← List.take_append_drop k ps]
    rw [List.map_append, List.sum_append]
  omega
theorem many_le {b : Nat} : ∀ {q : List Ph.Part}, (∀ p ∈ q, p.pulses.length ≤ b) → Ph.manyOf q ≤ q.length * b
  | [], _ => by simp [Ph.manyOf]
  | x :: q, h => by
    have h3 := many_le (q := q) (fun p hp => h p (by simp [hp]))
    have h4 := h x (by simp)
    unfold Ph.manyOf at *
    simp only [List.map_cons, List.sum_cons, List.length_cons]
    rw [Nat.add_mul]
    omega
set_option maxHeartbeats 4000000 in
set_option maxRecDepth 100000 in
theorem decode_any (A : Option Addr) (n c : Nat) (ps : List Ph.Part) (w : World) (B : Nat) (h : RdP w B A n ps) (hB : B ≤ w.heap.size) (hn : n ≤ 100000000000000) (hp : ∀ p ∈ ps, p.pulses.length ≤ 100000000000000) :
    Calls Tryz.prog 24 #[.slice A n c] w (ToldL 3 (Ph.decErr ps) (got (Ph.decErr ps) (Ph.lapI (Ph.decAll ps))) w) := by
  have H := Lib.hid h
  have HL := Lib.hid h.len
  have HPB := Lib.hid hp
  clear h hp
  have HE : Hid (Ph.decErr ps = if n = 0 then 5 else if 8 < n ∨ 32 < Ph.manyOf ps then 4 else if Ph.decPart ps ≠ 0 then Ph.decPart ps else Ph.lapErr (Ph.decAll ps) 4000) := Lib.hid (by unfold Ph.decErr; rw [HL.out])
  obtain ⟨E, hE⟩ : ∃ E, E = Ph.decErr ps := ⟨_, rfl⟩
  rw [← hE] at HE ⊢
  clear hE
  go_enter Tryz.func24, Tryz.ntmps24
  go_wp2_with fail
  go_loopw [4, 6, 15] (fun m _ i wr => ∃ (k : Nat) (M : Int), k ≤ n ∧ i = .int .i64 k ∧ m = .int .i64 M ∧ Hid (n ≤ 8 → M = (Ph.manyOf (ps.take k) : Nat)) ∧ Hid (Below w.heap.size w wr)) (fun _ _ i _ => n - (intOf i).toNat)
  case atStart => exact ⟨0, 0, Nat.zero_le _, rfl, rfl, Lib.hid fun _ => rfl, Lib.hid (Below.refl _ _)⟩
  case round =>
    obtain ⟨k, M, hk, rfl, rfl, HM, HBW⟩ := hrel
    by_cases hlt : k < n
    · obtain ⟨b0, o0, A2, c2, rfl, hb0, d1, d2, _, _⟩ := (H.out.below (HBW.out.mono hB)).at_ hlt
      have hmt := many_take ps k (by rw [HL.out]; exact hlt)
      have hpl := HPB.out _ (partD_mem (by rw [HL.out]; exact hlt))
      obtain ⟨P, hP⟩ : ∃ P, P = (ps.getD k ⟨0, []⟩).pulses.length := ⟨_, rfl⟩
      rw [← hP] at d2 hmt hpl
      obtain ⟨G, hG⟩ : ∃ G, G = (ps.getD k ⟨0, []⟩).gain := ⟨_, rfl⟩
      rw [← hG] at d1
      obtain ⟨X, hX⟩ : ∃ X, X = IntKind.i64.wrap (M + (P : Int)) := ⟨_, rfl⟩
      have HN : Hid (n ≤ 8 → X = (Ph.manyOf (ps.take (k + 1)) : Nat)) := Lib.hid fun h8 => by
        have h1 := HM.out h8
        have h2 := many_le (fun p hp => HPB.out p (List.mem_of_mem_take (i := k) hp))
        have h3 := Nat.le_trans h2 (Nat.mul_le_mul_right 100000000000000 (Nat.le_trans (List.length_take_le k ps) (show k ≤ 8 by omega)))
        have h4 : Ph.manyOf (ps.take k) ≤ 800000000000000 := h3
        clear h2 h3
        rw [hX, IntWalk.i64_in _ (by omega)]
        omega
      have k1 : IntKind.i64.wrap (M + (P : Int)) = X := hX.symm
      have hbl := HBW.out.size
      clear hP hG hX hmt hpl
      go_wp2_with fail
      go_roundw
      case rel => exact ⟨k + 1, X, by omega, by go_num, rfl, HN, Lib.hid (HBW.out.alloc hbl _)⟩
      case measure => simp [intOf]; omega
    · obtain rfl : k = n := by omega
      have HMM : Hid (k ≤ 8 → M = (Ph.manyOf ps : Nat)) := Lib.hid fun h8 => by
        have := HM.out h8
        rwa [List.take_of_length_le (by rw [HL.out]; omega)] at this
      clear HM
      by_cases h0 : k = 0
      · have e : E = 5 := by rw [HE.out, if_pos h0]
        subst e
        have h0' : ((k : Int) == 0) = true := by simp [h0]
        clear HE h0
        go_wp2_with fail
        go_ret2
        exact ToldL.none _ _ _ (errV_ne (by omega)).symm HBW.out
      · by_cases h8 : 8 < k
        · have e : E = 4 := by rw [HE.out, if_neg h0, if_pos (.inl h8)]
          subst e
          have h8' : (8 : Int) < (k : Int) := by omega
          clear HE
          go_wp2_with fail
          go_ret2
          exact ToldL.none _ _ _ (errV_ne (by omega)).symm HBW.out
        · by_cases h32 : 32 < M
          · have hm := HMM.out (by omega)
            have e : E = 4 := by rw [HE.out, if_neg h0, if_pos (.inr (by omega))]
            subst e
            clear HE hm
            go_wp2_with fail
            go_ret2
            exact ToldL.none _ _ _ (errV_ne (by omega)).symm HBW.out
          · have hm := HMM.out (by omega)
            have HE2 : Hid (E = if Ph.decPart ps ≠ 0 then Ph.decPart ps else Ph.lapErr (Ph.decAll ps) 4000) := Lib.hid (by rw [HE.out, if_neg h0, if_neg (by omega)])
            have hmb : Ph.manyOf ps ≤ 32 := by omega
            have hn0 : ¬ (k : Int) = 0 := by omega
            clear HE HMM hm h0
            go_wp2_with fail
            rename World => wa
            have hBa := HBW.out.size
            go_loopw [7, 9, 10, 11, 12, 41] (fun al _ _ _ _ i wr2 => ∃ (j : Nat) (A7 : Option Addr) (c7 : Nat), j ≤ k ∧ i = .int .i64 j ∧ al = .slice A7 (Ph.decAll (ps.take j)).length c7 ∧ Hid (wr2.ownsRow w.heap.size 3 1 (.slice A7 (Ph.decAll (ps.take j)).length c7) (Ph.decAll (ps.take j)).length (ivals (Ph.decAll (ps.take j)))) ∧ Hid (Ph.decPart (ps.drop j) = Ph.decPart ps) ∧ Hid (Below w.heap.size w wr2)) (fun _ _ _ _ _ i _ => k - (intOf i).toNat)
            case atStart => exact ⟨0, none, 0, Nat.zero_le _, rfl, rfl, Lib.hid (own_nil _ _ _), Lib.hid rfl, HBW⟩
            case round =>
              obtain ⟨j, A7, c7, hj, rfl, rfl, HO, HD, HB2⟩ := hrel
              by_cases hlt2 : j < k
              · have hjl : j < ps.length := by rw [HL.out]; exact hlt2
                obtain ⟨b0, o0, A2, c2, rfl, hb0, d1, d2, hcc, hrd⟩ := (H.out.below (HB2.out.mono hB)).at_ hlt2
                have hdd := decPart_drop ps j hjl
                rw [HD.out] at hdd
                have hdt := decAll_take ps j hjl
                have hpl := HPB.out _ (partD_mem hjl)
                have hdl := decAll_le ps (j + 1)
                have hnl : (Ph.numbers (ps.getD j ⟨0, []⟩)).length = (ps.getD j ⟨0, []⟩).pulses.length := by unfold Ph.numbers; simp
                obtain ⟨p, hpe⟩ : ∃ p, p = ps.getD j ⟨0, []⟩ := ⟨_, rfl⟩
                rw [← hpe] at d1 d2 hcc hrd hdd hdt hpl hnl
                obtain ⟨g, v⟩ := p
                simp only at d1 d2 hcc hrd hdd hpl hnl
                have HRD := Lib.hid (hrd.more (Nat.le_trans hB HB2.out.size))
                have hvl : v.length ≤ 100000000000000 := hpl
                obtain ⟨P, hP⟩ : ∃ P, P = v.length := ⟨_, rfl⟩
                rw [← hP] at d2 hcc HRD hvl hnl
                have HC := Lib.hid fun W (hW : RdI W W.heap.size A2 P v) => fcheck_any g A2 P c2 v W W.heap.size hW (Nat.le_refl _) hvl
                have HNU := Lib.hid fun W (hW : RdI W W.heap.size A2 P v) h1 h2 => fnumbers_any g A2 P c2 v W W.heap.size hW (Nat.le_refl _) h1 h2
                unfold partV at HC HNU
                have HGV := Lib.hid fun W => gv_ok g W
                have HGN := Lib.hid fun W => gv_no g W
                obtain ⟨W1, hW1⟩ : ∃ W1, W1 = wr.alloc (.cells #[.int .i64 g, .slice A2 P c2] 78) := ⟨_, rfl⟩
                have HB3 : Hid (Below w.heap.size w W1) := Lib.hid (by rw [hW1]; exact HB2.out.alloc HB2.out.size _)
                have HBE : Hid (Below wr.heap.size wr W1) := Lib.hid (by rw [hW1]; exact below_alloc0 _ _)
                have HO3 := Lib.hid (own_below' HO.out HBE.out)
                have HR3 := Lib.hid (HRD.out.on HBE.out)
                have z0 : W1.cell? ⟨wr.heap.size, 0, none⟩ = some (.int .i64 g) := by rw [hW1]; simp
                have z1 : W1.cell? ⟨wr.heap.size, 1, none⟩ = some (.slice A2 P c2) := by rw [hW1]; simp
                have hsz : W1.heap.size = wr.heap.size + 1 := by rw [hW1]; simp
                have HW1 := Lib.hid hW1
                clear hP hpe hrd hb0 hW1 hpl
                by_cases hpe : Ph.pulsesErr v = 0
                · rw [hpe] at HC
                  by_cases hgo : Ph.gainOk g = true
                  · rw [if_neg (by omega), if_neg (by rw [hgo]; simp)] at hdd
                    have HDN := Lib.hid hdd.symm
                    have HDT := Lib.hid hdt
                    have HGO := Lib.hid hgo
                    have HPE := Lib.hid hpe
                    have HNL := Lib.hid hnl
                    rw [hdt, List.length_append, hnl] at hdl
                    obtain ⟨D, hD⟩ : ∃ D, D = Ph.decAll (ps.take j) := ⟨_, rfl⟩
                    rw [← hD] at HDT hdl HO3 ⊢
                    obtain ⟨V, hV⟩ : ∃ V, V = Ph.val g := ⟨_, rfl⟩
                    rw [← hV] at HGV
                    obtain ⟨N, hN⟩ : ∃ N, N = Ph.numbers ⟨g, v⟩ := ⟨_, rfl⟩
                    rw [← hN] at HNU HNL HDT
                    rw [errV_zero] at HC
                    clear hdd hgo HGN hdt hD hV hN hpe HO
                    go_wp2_with fail
                    rw [← HW1.out]
                    refine (HC.out _ HR3.out).mono ?_
                    rintro e w4 ⟨rfl, hb4⟩
                    have y0 := (hb4.cell (p := ⟨wr.heap.size, 0, none⟩) (by show wr.heap.size < _; omega)).trans z0
                    have y1 := (hb4.cell (p := ⟨wr.heap.size, 1, none⟩) (by show wr.heap.size < _; omega)).trans z1
                    have HB4 := Lib.hid (below_on HB3.out hb4)
                    have HO4 := Lib.hid (own_below' HO3.out hb4)
                    have HR4 := Lib.hid (HR3.out.on hb4)
                    clear hb4 z0 z1 d1 d2 HO3 HR3 HB3 HBE
                    go_wp2_with fail
                    refine (HGV.out _ HGO.out).mono ?_
                    rintro e w5 ⟨rfl, nq, rfl⟩
                    obtain ⟨W5, hW5⟩ : ∃ W5, W5 = w4.drewN nq := ⟨_, rfl⟩
                    have x0 : W5.cell? ⟨wr.heap.size, 0, none⟩ = some (.int .i64 g) := by rw [hW5]; exact y0
                    have x1 : W5.cell? ⟨wr.heap.size, 1, none⟩ = some (.slice A2 P c2) := by rw [hW5]; exact y1
                    have HB5 : Hid (Below w.heap.size w W5) := Lib.hid (by rw [hW5]; exact below_drewN' HB4.out _)
                    have HO5 : Hid (W5.ownsRow w.heap.size 3 1 (.slice A7 D.length c7) D.length (ivals D)) := Lib.hid (by rw [hW5]; exact HO4.out)
                    have HR5 : Hid (RdI W5 W5.heap.size A2 P v) := Lib.hid (by rw [hW5]; exact HR4.out)
                    rw [← hW5]
                    clear y0 y1 HB4 HO4 HR4 hW5
                    go_wp2_with fail
                    refine (HNU.out _ HR5.out HGO.out HPE.out).mono ?_
                    rintro e w6 ⟨A6, c6, rfl, ho6, hb6⟩
                    rw [HNL.out] at ho6 ⊢
                    have HO6 := Lib.hid ho6
                    have HD6 := Lib.hid (own_below' HO5.out hb6)
                    have HB6 := Lib.hid (below_on HB5.out hb6)
                    clear ho6 hb6 x0 x1 HO5 HR5
                    go_wp2_with (at_builtin; refine wpList_join _ (by rfl) _ _ (by rfl) w w.heap.size A7 D.length c7 D A6 P c6 N w6.heap.size HD6.out HB6.out HB6.out.size (RdI.own HO6.out) (own_none HO6.out) (by omega) (by rfl) (by rfl) ?_; intro A9 c9 w9 ho9 hb9)
                    have HO9 := Lib.hid ho9
                    have HB9 := Lib.hid hb9
                    clear ho9 hb9
                    go_wp2_with fail
                    go_roundw
                    case rel => exact ⟨j + 1, A9, c9, by omega, by go_num, by rw [HDT.out, List.length_append, HNL.out], Lib.hid (by rw [HDT.out, List.length_append, HNL.out]; exact HO9.out), HDN, HB9⟩
                    case measure => simp [intOf]; omega
                  · have hgf : Ph.gainOk g = false := by simpa using hgo
                    rw [if_neg (by omega), if_pos hgf] at hdd
                    have e : E = 1 := by rw [HE2.out, hdd, if_pos (by omega)]
                    subst e
                    rw [errV_zero] at HC
                    clear HE2 hdd hgo HNU HGV
                    go_wp2_with fail
                    rw [← HW1.out]
                    refine (HC.out _ HR3.out).mono ?_
                    rintro e w4 ⟨rfl, hb4⟩
                    have y0 := (hb4.cell (p := ⟨wr.heap.size, 0, none⟩) (by show wr.heap.size < _; omega)).trans z0
                    have HB4 := Lib.hid (below_on HB3.out hb4)
                    clear hb4 z0 z1 d1 d2
                    go_wp2_with fail
                    refine (HGN.out _ hgf).mono ?_
                    rintro e w5 ⟨rfl, nq, rfl⟩
                    go_wp2_with fail
                    go_ret2
                    exact ToldL.none _ _ _ (errV_ne (by omega)).symm (below_drewN' HB4.out _)
                · rw [if_pos hpe] at hdd
                  have e : E = Ph.pulsesErr v := by rw [HE2.out, hdd, if_pos hpe]
                  rw [← e] at HC hpe
                  clear e HE2 hdd HNU HGV HGN
                  go_wp2_with fail
                  rw [← HW1.out]
                  refine (HC.out _ HR3.out).mono ?_
                  rintro e w4 ⟨rfl, hb4⟩
                  have HB4 := Lib.hid (below_on HB3.out hb4)
                  rw [errV_ne hpe]
                  clear hb4 z0 z1 d1 d2
                  go_wp2_with fail
                  go_ret2
                  rw [got_ne hpe]
                  exact ToldL.none _ _ _ (errV_ne hpe).symm HB4.out
              · obtain rfl : j = k := by omega
                have htk : ps.take j = ps := List.take_of_length_le (by rw [HL.out]; omega)
                have hdk : ps.drop j = [] := List.drop_of_length_le (by rw [HL.out]; omega)
                have hd0 := HD.out
                rw [hdk] at hd0
                have hd1 : Ph.decPart ps = 0 := hd0.symm
                have hE : E = Ph.lapErr (Ph.decAll ps) 4000 := by rw [HE2.out, if_neg (by omega)]
                have hdl : (Ph.decAll ps).length ≤ 32 := by rw [Ph.decAll_length]; exact hmb
                rw [htk] at HO
                have HLI := Lib.hid (lapI_toldL A7 (Ph.decAll ps).length c7 (Ph.decAll ps) wr wr.heap.size (RdI.own HO.out) (Nat.le_refl _) (own_cap HO.out) (by omega))
                rw [← hE] at HLI
                rw [htk]
                obtain ⟨D, hD⟩ : ∃ D, D = Ph.decAll ps := ⟨_, rfl⟩
                rw [← hD] at HLI ⊢
                obtain ⟨X, hX⟩ : ∃ X, X = got E (Ph.lapI D) := ⟨_, rfl⟩
                rw [← hX] at HLI ⊢
                have HX : Hid (got E (Ph.lapI (Ph.decAll ps)) = X) := Lib.hid (by rw [hX, hD])
                clear hE hD hX HE2 hd0 hd1 hdk htk hdl HD HO
                go_wp2_with fail
                refine HLI.out.mono ?_
                rintro e w8 ⟨A8, c8, rfl, ho8, hb8⟩
                have HO8 := Lib.hid (own_more ho8 HB2.out.size)
                have HB8 := Lib.hid (below_on HB2.out hb8)
                clear ho8 hb8
                go_wp2_with fail
                go_ret2
                rw [HX.out]
                exact ⟨A8, c8, rfl, HO8.out, HB8.out⟩
end Go.Proofs.YtmohilfebgahoaaGreatDoor
/- Walks: frames (chapter 16): a frame made of samples. -/
namespace Go.Proofs.YtmohilfebgahoaaGreatDoor
open Go.RowKit

/-- Parts are told, and what is wrong. -/
def ToldP (E : Int) (ps : List Ph.Part) (w : World) (e : Ending) (w' : World) : Prop :=
  ∃ A n c, e = .returned (.tuple #[.slice A n c, errV E]) ∧ OwnPV w' w.heap.size A n c ps ∧ Below w.heap.size w w'
theorem ToldP.none (E : Int) (v : Value) (hv : v = errV E) {w w' : World} (hb : Below w.heap.size w w') : ToldP E [] w (.returned (.tuple #[.slice none 0 0, v])) w' :=
  ⟨Option.none, 0, 0, by rw [hv], OwnPV.nil _ _, hb⟩
/-- What is told, if nothing is wrong. -/
def gotP (E : Int) (ps : List Ph.Part) : List Ph.Part := if E = 0 then ps else []
theorem gotP_zero (ps : List Ph.Part) : gotP 0 ps = ps := if_pos rfl
theorem gotP_ne {E : Int} (h : E ≠ 0) (ps : List Ph.Part) : gotP E ps = [] := if_neg h
/-- Of the first k bands there are pulses. -/
def madeTo (bs : List (List Int)) (ks : List Int) (k : Nat) : List Ph.Part := (List.range bs.length).map fun i => ⟨Ph.gainOf (bs.getD i []), if i < k then Ph.near (bs.getD i []) (ks.getD i 0) else []⟩
theorem madeTo_len (bs : List (List Int)) (ks : List Int) (k : Nat) : (madeTo bs ks k).length = bs.length := by simp [madeTo]
theorem madeTo_zero (bs : List (List Int)) (ks : List Int) : madeTo bs ks 0 = Ph.loudParts bs := by
  unfold madeTo Ph.loudParts
  apply List.ext_getElem
  · simp
  · intro i h1 h2
    simp at h1
    simp [List.getElem?_eq_getElem h1]
theorem madeTo_all (l sizes : List Int) (bits : Int) : madeTo (Ph.bandsOf l sizes) (Ph.shared (Ph.loudParts (Ph.bandsOf l sizes)) sizes bits) (Ph.bandsOf l sizes).length = Ph.encoded l sizes bits := by
  unfold madeTo Ph.encoded
  apply List.map_congr_left
  intro i hi
  rw [if_pos (List.mem_range.1 hi)]
theorem madeTo_get (bs : List (List Int)) (ks : List Int) (k i : Nat) (h : i < bs.length) : (madeTo bs ks k).getD i ⟨0, []⟩ = ⟨Ph.gainOf (bs.getD i []), if i < k then Ph.near (bs.getD i []) (ks.getD i 0) else []⟩ := by
  unfold madeTo
  rw [List.getD_eq_getElem?_getD, List.getElem?_map, List.getElem?_range h]; rfl
theorem madeTo_set (bs : List (List Int)) (ks : List Int) (k : Nat) (h : k < bs.length) : (madeTo bs ks k).set k ⟨((madeTo bs ks k).getD k ⟨0, []⟩).gain, Ph.near (bs.getD k []) (ks.getD k 0)⟩ = madeTo bs ks (k + 1) := by
  rw [madeTo_get bs ks k k h]
  apply List.ext_getElem
  · simp [madeTo]
  · intro i h1 h2
    rw [List.getElem_set]
    simp only [madeTo, List.getElem_map, List.getElem_range]
    split
    · rename_i e
      subst e
      rw [if_pos (by omega)]
    · rename_i e
      by_cases hi : i < k
      · rw [if_pos hi, if_pos (by omega)]
      · rw [if_neg hi, if_neg (by omega)]
theorem loudParts_take (bs : List (List Int)) (k : Nat) (h : k < bs.length) : Ph.loudParts (bs.take (k + 1)) = Ph.loudParts (bs.take k) ++ [⟨Ph.gainOf (bs.getD k []), []⟩] := by
  unfold Ph.loudParts
  rw [List.take_succ_eq_append_getElem h, List.map_append, List.getD_eq_getElem?_getD, List.getElem?_eq_getElem h]
  rfl
theorem bands_in {l sizes : List Int} (h : Ph.allIn l 1000 = true) (i : Nat) : Ph.allIn ((Ph.bandsOf l sizes).getD i []) 8000 = true := by
  rw [Ph.allIn_iff]
  intro x hx
  have h1 := Ph.allIn_iff.1 (Ph.lapF_allIn h)
  rw [List.getD_eq_getElem?_getD] at hx
  rcases Nat.lt_or_ge i (Ph.bandsOf l sizes).length with hi | hi
  · rw [List.getElem?_eq_getElem hi] at hx
    have := h1 x (Ph.cut_flat_mem sizes _ _ (List.getElem_mem hi) x hx)
    omega
  · rw [List.getElem?_eq_none hi] at hx
    simp at hx
set_option maxHeartbeats 4000000 in
set_option maxRecDepth 100000 in
theorem encode_any (A1 : Option Addr) (n1 c1 : Nat) (l : List Int) (A2 : Option Addr) (n2 c2 : Nat) (s : List Int) (bits : Int) (w : World) (B : Nat) (h1 : RdI w B A1 n1 l) (h2 : RdI w B A2 n2 s) (hB : B ≤ w.heap.size) (hn1 : n1 ≤ 100000000000000) (hn2 : n2 ≤ 100000000000000) :
    Calls Tryz.prog 20 #[.slice A1 n1 c1, .slice A2 n2 c2, .int .i64 bits] w (ToldP (Ph.encErr l s bits) (gotP (Ph.encErr l s bits) (Ph.encoded l s bits)) w) := by
  have hl1 := h1.len
  have hl2 := h2.len
  by_cases hbe : Ph.bandErr s = 0
  · by_cases hlt : (n1 : Int) = Ph.total s
    · by_cases hle : Ph.lapErr l 1000 = 0
      · by_cases hbi : 0 ≤ bits ∧ bits ≤ 400
        · have hbz := Ph.bandErr_zero.1 hbe
          have hsp : ∀ x ∈ s, 1 ≤ x ∧ x ≤ 6 := hbz.2.2.1
          have hs8 : n2 ≤ 8 := by have := hbz.2.1; omega
          have hlz := Ph.lapErr_zero.1 hle
          have hcl : (Ph.bandsOf l s).length = n2 := by rw [Ph.bands_length, hl2]
          have hfl : (Ph.lapF l).length = n1 := by rw [Ph.lapF_length l hlz.2.1, hl1]
          have hEE : Ph.encErr l s bits = if (Ph.bandsOf l s).any (fun b => decide (8000 < Ph.loud b)) = true then 4 else 0 := by
            unfold Ph.encErr; rw [if_neg (by omega), if_neg (by omega), if_neg (by omega), if_neg (by omega)]
          have HE4 : Hid (∀ k, k < n2 → 8000 < Ph.loud ((Ph.bandsOf l s).getD k []) → Ph.encErr l s bits = 4) := Lib.hid fun k hk hb => by
            rw [hEE, if_pos]
            rw [List.any_eq_true]
            refine ⟨(Ph.bandsOf l s).getD k [], ?_, by simpa using hb⟩
            rw [List.getD_eq_getElem?_getD, List.getElem?_eq_getElem (by omega)]
            exact List.getElem_mem _
          have HE0 : Hid ((∀ k, k < n2 → Ph.loud ((Ph.bandsOf l s).getD k []) ≤ 8000) → Ph.encErr l s bits = 0) := Lib.hid fun hk => by
            rw [hEE, if_neg]
            intro ha
            obtain ⟨b, hb, hd⟩ := List.any_eq_true.1 ha
            obtain ⟨i, hi, rfl⟩ := List.mem_iff_getElem.1 hb
            have := hk i (by omega)
            rw [List.getD_eq_getElem?_getD, List.getElem?_eq_getElem hi] at this
            simp at hd this
            omega
          have HBC := Lib.hid (bandCheck_ok A2 n2 c2 s w B h2 hbe)
          have HLF := Lib.hid (lapF_told A1 n1 c1 l w B h1 hB hn1)
          have HSB := Lib.hid fun W => shbits_any bits W
          rw [show bitsOk bits = true from bitsOk_iff.2 hbi] at HSB
          rw [← hlt] at HBC
          rw [hle] at HLF
          have H2 := Lib.hid (h2.more hB)
          have HCU := Lib.hid fun A c W (hW1 : RdI W W.heap.size A n1 (Ph.lapF l)) (hW2 : RdI W W.heap.size A2 n2 s) (hc : n1 ≤ c) => cut_any A n1 c (Ph.lapF l) A2 n2 c2 s W W.heap.size hW1 hc hW2 (Nat.le_refl _) hsp hs8 hlt.symm
          have HSI : Hid (∀ i, i < n2 → ((Ph.bandsOf l s).getD i []).length ≤ 6) := Lib.hid fun i hi => by
            have h3 := Ph.cut_sizes s (Ph.lapF l) (fun x hx => by have := hsp x hx; omega) (by rw [hfl]; exact hlt.symm) i (by rw [hl2]; exact hi)
            have h4 := hsp _ (Ph.getD_mem (l := s) (i := i) (by rw [hl2]; exact hi))
            unfold Ph.bandsOf
            omega
          have HIN : Hid (∀ i, Ph.allIn ((Ph.bandsOf l s).getD i []) 8000 = true) := Lib.hid fun i => bands_in hlz.2.2 i
          have HBI := Lib.hid hbi
          have HBE := Lib.hid hbe
          have HMA := Lib.hid (madeTo_all l s bits)
          have HCL := Lib.hid hcl
          have HLO : Hid (Ph.encErr l s bits = 0 → (Ph.shared (Ph.loudParts (Ph.bandsOf l s)) s bits).length = n2 ∧ (∀ i, i < n2 → (0 ≤ (Ph.shared (Ph.loudParts (Ph.bandsOf l s)) s bits).getD i 0 ∧ (Ph.shared (Ph.loudParts (Ph.bandsOf l s)) s bits).getD i 0 ≤ 8) ∧ ((Ph.shared (Ph.loudParts (Ph.bandsOf l s)) s bits).getD i 0 = 0 ∨ 0 < Ph.loud ((Ph.bandsOf l s).getD i [])))) := Lib.hid fun h0 => by
            have hs := Ph.shared_facts h0
            exact ⟨by rw [hs.1, hl2], fun i hi => ⟨Ph.pulsesOk_getD hs.2.1 i, Ph.loud_of_pulse h0 i (by rw [hl2]; exact hi)⟩⟩
          rw [show Ph.cut (Ph.lapF l) s = Ph.bandsOf l s from rfl] at HCU
          obtain ⟨E, hE⟩ : ∃ E, E = Ph.encErr l s bits := ⟨_, rfl⟩
          rw [← hE] at HE4 HE0 HLO ⊢
          obtain ⟨R, hR⟩ : ∃ R, R = Ph.encoded l s bits := ⟨_, rfl⟩
          rw [← hR] at HMA ⊢
          obtain ⟨bs, hbs⟩ : ∃ bs, bs = Ph.bandsOf l s := ⟨_, rfl⟩
          rw [← hbs] at HE4 HE0 HLO HMA HCU HSI HIN HCL
          have hne : ((n1 : Int) != (n1 : Int)) = false := by simp
          clear h1 h2 hbe hle hl1 hl2 hlt hbz hsp hlz hcl hfl hEE hE hR hbs hbi
          go_enter Tryz.func20, Tryz.ntmps20
          go_wp2_with fail
          refine HBC.out.mono ?_
          rintro e w' ⟨rfl, rfl⟩
          go_wp2_with fail
          refine HLF.out.mono ?_
          rintro e w1 ⟨X, rfl, hX, hb⟩
          obtain ⟨A10, c10, rfl, hc10, hr10⟩ := hX rfl
          have HB1 := Lib.hid hb
          have HR10 := Lib.hid hr10
          rw [errV_zero]
          clear hb hX hr10
          go_wp2_with fail
          refine (HSB.out _).mono ?_
          rintro e w' ⟨rfl, rfl⟩
          go_wp2_with fail
          refine (HCU.out A10 c10 _ HR10.out (H2.out.on HB1.out) hc10).mono ?_
          rintro e w2 ⟨A11, c11, vs, rfl, ho, hv, hb⟩
          have HO11 := Lib.hid (own_more ho HB1.out.size)
          have HV11 := Lib.hid (OwnsV.more HB1.out.size hv)
          have HB2 := Lib.hid (below_on HB1.out hb)
          clear ho hv hb HCU HR10 HLF HBC
          go_wp2_with fail
          go_loopw [12, 14, 47] (fun o _ i wr => ∃ (k : Nat) (A5 : Option Addr) (c5 : Nat), k ≤ n2 ∧ i = .int .i64 k ∧ o = .slice A5 k c5 ∧ Hid (OwnPV wr w.heap.size A5 k c5 (Ph.loudParts (bs.take k))) ∧ Hid (∀ j, j < k → Ph.loud (bs.getD j []) ≤ 8000) ∧ Hid (wr.ownsRow w.heap.size 22 1 (.slice A11 n2 c11) n2 vs ∧ OwnsV wr w.heap.size vs bs) ∧ Hid (Below w.heap.size w wr)) (fun _ _ i _ => n2 - (intOf i).toNat)
          case atStart => exact ⟨0, none, 0, Nat.zero_le _, rfl, rfl, Lib.hid (OwnPV.nil _ _), Lib.hid (fun j hj => absurd hj (by omega)), Lib.hid ⟨HO11.out, HV11.out⟩, HB2⟩
          case round =>
            obtain ⟨k, A5, c5, hk, rfl, rfl, HP, HLE, HBB, HBW⟩ := hrel
            by_cases hlt : k < n2
            · obtain ⟨b0, o0, A4, c4, hA4, hb0, d0, hc4, hr4⟩ := (RdR.own HBB.out.1 HBB.out.2.rows).at_ hlt
              subst hA4
              have hsi := HSI.out k hlt
              have hin := HIN.out k
              have HSU := Lib.hid fun W (hW : RdI W W.heap.size A4 (bs.getD k []).length (bs.getD k [])) => sum_any A4 (bs.getD k []).length c4 (bs.getD k []) W W.heap.size hW hin (by omega)
              have HR4 := Lib.hid hr4
              have hE4 := HE4.out k hlt
              have hlt5 := loudParts_take bs k (by rw [HCL.out]; exact hlt)
              have hln := Ph.loud_nonneg (bs.getD k [])
              have hli := Ph.loudN_int (bs.getD k [])
              have HLK : Hid (Ph.loud (bs.getD k []) ≤ 8000 → ∀ j, j < k + 1 → Ph.loud (bs.getD j []) ≤ 8000) := Lib.hid fun h j hj => by
                by_cases hjk : j < k
                · exact HLE.out j hjk
                · obtain rfl : j = k := by omega
                  exact h
              have hgo : Ph.gainOf (bs.getD k []) = ((Ph.step (Ph.loudN (bs.getD k [])) : Nat) : Int) := rfl
              obtain ⟨b, hbe⟩ : ∃ b, b = bs.getD k [] := ⟨_, rfl⟩
              rw [← hbe] at d0 hsi HSU HR4 hE4 hlt5 hln hli HLK hgo
              obtain ⟨N, hN⟩ : ∃ N, N = Ph.loudN b := ⟨_, rfl⟩
              rw [← hN] at hli hgo
              rw [← hli] at HSU hE4 HLK hln
              obtain ⟨L, hL⟩ : ∃ L, L = b.length := ⟨_, rfl⟩
              rw [← hL] at d0 HSU HR4
              have HL5 := Lib.hid hlt5
              clear hbe hN hL hr4 hin hli hlt5 hsi
              by_cases h8 : N ≤ 8000
              · have HST := Lib.hid fun W => step_any N W h8
                have HLN := Lib.hid (HLK.out (by omega))
                have HGO := Lib.hid hgo
                have h8' : ¬ (8000 : Int) < (N : Int) := by omega
                clear hE4 hgo HLK hln
                go_wp2_with fail
                refine (HSU.out _ HR4.out).mono ?_
                rintro e w' ⟨rfl, rfl⟩
                go_wp2_with fail
                refine (HSU.out _ HR4.out).mono ?_
                rintro e w' ⟨rfl, rfl⟩
                go_wp2_with fail
                refine (HST.out _).mono ?_
                rintro e w' ⟨rfl, rfl⟩
                go_wp2_with (at_builtin; refine wpList_pushP _ (by rfl) _ _ (by rfl) w w.heap.size A5 k c5 _ ((Ph.step N : Nat) : Int) HP.out HBW.out HBW.out.size (by omega) (by rfl) (by rfl) ?_; intro g cap w9 hp9 hb9 hg9)
                have HP9 := Lib.hid hp9
                have HB9 := Lib.hid hb9
                have HBB9 : Hid (w9.ownsRow w.heap.size 22 1 (.slice (some ⟨b0, o0, none⟩) n2 c11) n2 vs ∧ OwnsV w9 w.heap.size vs bs) := Lib.hid ⟨(HP.out.alloc _).keeps (by decide) (HBB.out.1.alloc _) hg9, (HP.out.alloc _).keepsV (HBB.out.2.alloc _) hg9⟩
                clear hp9 hb9 hg9 d0
                go_wp2_with fail
                go_roundw
                case rel => exact ⟨k + 1, some ⟨g, 0, none⟩, cap, by omega, by go_num, rfl, Lib.hid (by rw [HL5.out, HGO.out]; exact HP9.out), HLN, HBB9, HB9⟩
                case measure => simp [intOf]; omega
              · have e := hE4 (by omega)
                subst e
                have h8' : (8000 : Int) < (N : Int) := by omega
                clear hE4 hgo HLK hln
                go_wp2_with fail
                refine (HSU.out _ HR4.out).mono ?_
                rintro e w' ⟨rfl, rfl⟩
                go_wp2_with fail
                go_ret2
                rw [gotP_ne (by omega)]
                exact ToldP.none _ _ (errV_ne (by omega)).symm HBW.out
            · obtain rfl : k = n2 := by omega
              have htk : bs.take k = bs := List.take_of_length_le (by rw [HCL.out]; omega)
              have e := HE0.out HLE.out
              subst e
              have hlo := HLO.out rfl
              rw [htk] at HP
              have hgok : ∀ p ∈ Ph.loudParts bs, Ph.gainOk p.gain = true := fun p hp => by
                obtain ⟨b, hb, rfl⟩ := List.mem_map.1 hp
                obtain ⟨i, hi, rfl⟩ := List.mem_iff_getElem.1 hb
                have := HLE.out i (by rw [← HCL.out]; exact hi)
                rw [List.getD_eq_getElem?_getD, List.getElem?_eq_getElem hi] at this
                exact Ph.gainOf_ok this
              have HGI := Lib.hid (fgiven_any A5 k c5 (Ph.loudParts bs) A2 c2 s bits wr wr.heap.size w.heap.size HP.out.rd (H2.out.below HBW.out) (Nat.le_refl _) HBW.out.size hgok HBE.out HBI.out)
              obtain ⟨K, hK⟩ : ∃ K, K = Ph.shared (Ph.loudParts bs) s bits := ⟨_, rfl⟩
              rw [← hK] at HGI hlo HMA
              rw [gotP_zero]
              have HLO2 := Lib.hid hlo.2
              have HKL := Lib.hid hlo.1
              clear hK hlo htk hgok HE0 HE4 HLE HLO
              go_wp2_with fail
              refine HGI.out.mono ?_
              rintro e w3 ⟨A66, c66, rfl, ho, hb⟩
              rw [HKL.out] at ho ⊢
              have HK3 := Lib.hid (own_more ho HBW.out.size)
              have HP3 : Hid (OwnPV w3 w.heap.size A5 k c5 (madeTo bs K 0)) := Lib.hid (by rw [madeTo_zero]; exact HP.out.below' hb)
              have HBB3 : Hid (w3.ownsRow w.heap.size 22 1 (.slice A11 k c11) k vs ∧ OwnsV w3 w.heap.size vs bs) := Lib.hid ⟨own_below' HBB.out.1 hb, HBB.out.2.below hb⟩
              have HB3 := Lib.hid (below_on HBW.out hb)
              clear ho hb HP HBB HBW HGI
              go_wp2_with fail
              go_loopw [15, 16, 68] (fun _ _ i wr2 => ∃ j : Nat, j ≤ k ∧ i = .int .i64 j ∧ Hid (OwnPV wr2 w.heap.size A5 k c5 (madeTo bs K j)) ∧ Hid (wr2.ownsRow w.heap.size 3 1 (.slice A66 k c66) k (ivals K)) ∧ Hid (wr2.ownsRow w.heap.size 22 1 (.slice A11 k c11) k vs ∧ OwnsV wr2 w.heap.size vs bs) ∧ Hid (Below w.heap.size w wr2)) (fun _ _ i _ => k - (intOf i).toNat)
              case atStart => exact ⟨0, Nat.zero_le _, rfl, HP3, HK3, HBB3, HB3⟩
              case round =>
                obtain ⟨j, hj, rfl, HP4, HK4, HBB4, HB4⟩ := hrel
                by_cases hlt : j < k
                · obtain ⟨g5, rfl, hg5, hg5l⟩ := HP4.out.form (by omega)
                  obtain ⟨⟨p1, p2⟩, ⟨A0, c0, p3, _⟩, p4⟩ := HP4.out.cells hlt
                  obtain ⟨b0, o0, A4, c4, hA4, hb0, d0, hc4, hr4⟩ := (RdR.own HBB4.out.1 HBB4.out.2.rows).at_ hlt
                  subst hA4
                  obtain ⟨b6, o6, hA6, hb6, d6⟩ := (RdI.own HK4.out).at_ hlt
                  subst hA6
                  have hlo := HLO2.out j hlt
                  have HNP := Lib.hid fun W (hW : RdI W W.heap.size A4 (bs.getD j []).length (bs.getD j [])) => npulses_ok A4 (bs.getD j []).length c4 (bs.getD j []) (K.getD j 0) W W.heap.size hW (Nat.le_refl _) (HIN.out j) (HSI.out j hlt) hlo.1 hlo.2
                  have hms := madeTo_set bs K j (by rw [HCL.out]; exact hlt)
                  have HR4 := Lib.hid hr4
                  obtain ⟨P0, hP0⟩ : ∃ P0, P0 = ((madeTo bs K j).getD j ⟨0, []⟩).pulses.length := ⟨_, rfl⟩
                  rw [← hP0] at p3
                  obtain ⟨N, hN⟩ : ∃ N, N = Ph.near (bs.getD j []) (K.getD j 0) := ⟨_, rfl⟩
                  rw [← hN] at HNP hms
                  have HMS := Lib.hid hms
                  obtain ⟨L, hL⟩ : ∃ L, L = (bs.getD j []).length := ⟨_, rfl⟩
                  rw [← hL] at HNP HR4 d0
                  obtain ⟨y, hy⟩ : ∃ y, y = K.getD j 0 := ⟨_, rfl⟩
                  rw [← hy] at HNP d6
                  clear hms hlo hr4 hN hL hy hP0 p1 p2
                  go_wp2_with fail
                  refine (HNP.out _ HR4.out).mono ?_
                  rintro e w5 ⟨A80, c80, rfl, ho, hb⟩
                  have HO5 := Lib.hid (own_more ho HB4.out.size)
                  have HP5 := Lib.hid (HP4.out.below' hb)
                  have HK5 := Lib.hid (own_below' HK4.out hb)
                  have HBB5 : Hid (w5.ownsRow w.heap.size 22 1 (.slice (some ⟨b0, o0, none⟩) k c11) k vs ∧ OwnsV w5 w.heap.size vs bs) := Lib.hid ⟨own_below' HBB4.out.1 hb, HBB4.out.2.below hb⟩
                  have HB5 := Lib.hid (below_on HB4.out hb)
                  have q3 := (hb.cell (p := ⟨g5, j * 2 + 1, none⟩) hg5l).trans p3
                  have q4 := (hb.frozen (p := ⟨g5, j * 2 + 1, none⟩) hg5l).trans p4
                  clear ho hb p3 p4 d0 d6
                  go_wp2_with fail
                  have hst := HP5.out.setRow hlt ⟨A80, c80, rfl, HO5.out⟩
                  go_roundw
                  case rel => exact ⟨j + 1, by omega, by go_num, Lib.hid (by have h := hst.1; rw [HMS.out] at h; exact h), Lib.hid (HP5.out.keeps (by decide) HK5.out hst.2), Lib.hid ⟨HP5.out.keeps (by decide) HBB5.out.1 hst.2, HP5.out.keepsV HBB5.out.2 hst.2⟩, Lib.hid (HB5.out.setCell (p := ⟨g5, j * 2 + 1, none⟩) hg5 _)⟩
                  case measure => simp [intOf]; omega
                · obtain rfl : j = k := by omega
                  have hma := HMA.out
                  rw [HCL.out] at hma
                  rw [hma] at HP4
                  clear hma
                  go_wp2_with fail
                  go_ret2
                  exact ⟨A5, j, c5, rfl, HP4.out, HB4.out⟩
        · have e : Ph.encErr l s bits = 1 := by unfold Ph.encErr; rw [if_neg (by omega), if_neg (by omega), if_neg (by omega), if_pos (by omega)]
          rw [e, gotP_ne (by omega)]
          have HBC := Lib.hid (bandCheck_ok A2 n2 c2 s w B h2 hbe)
          have HLF := Lib.hid (lapF_told A1 n1 c1 l w B h1 hB hn1)
          have HSB := Lib.hid fun W => shbits_any bits W
          rw [show bitsOk bits = false by unfold bitsOk; simp; omega] at HSB
          rw [← hlt] at HBC
          rw [hle] at HLF
          have hne : ((n1 : Int) != (n1 : Int)) = false := by simp
          clear e h1 h2 hbe hle hl1 hl2 hlt
          go_enter Tryz.func20, Tryz.ntmps20
          go_wp2_with fail
          refine HBC.out.mono ?_
          rintro e w' ⟨rfl, rfl⟩
          go_wp2_with fail
          refine HLF.out.mono ?_
          rintro e w1 ⟨X, rfl, _, hb⟩
          have HB1 := Lib.hid hb
          rw [errV_zero]
          clear hb
          go_wp2_with fail
          refine (HSB.out _).mono ?_
          rintro e w' ⟨rfl, rfl⟩
          go_wp2_with fail
          go_ret2
          exact ToldP.none _ _ (errV_ne (by omega)).symm HB1.out
      · have e : Ph.encErr l s bits = Ph.lapErr l 1000 := by unfold Ph.encErr; rw [if_neg (by omega), if_neg (by omega), if_pos hle]
        rw [e, gotP_ne hle]
        have HBC := Lib.hid (bandCheck_ok A2 n2 c2 s w B h2 hbe)
        have HLF := Lib.hid (lapF_told A1 n1 c1 l w B h1 hB hn1)
        rw [← hlt] at HBC
        obtain ⟨E, hE⟩ : ∃ E, E = Ph.lapErr l 1000 := ⟨_, rfl⟩
        rw [← hE] at hle HLF ⊢
        have hne : ((n1 : Int) != (n1 : Int)) = false := by simp
        clear e h1 h2 hbe hE hl1 hl2 hlt
        go_enter Tryz.func20, Tryz.ntmps20
        go_wp2_with fail
        refine HBC.out.mono ?_
        rintro e w' ⟨rfl, rfl⟩
        go_wp2_with fail
        refine HLF.out.mono ?_
        rintro e w1 ⟨X, rfl, _, hb⟩
        have HB1 := Lib.hid hb
        rw [errV_ne hle]
        clear hb
        go_wp2_with fail
        go_ret2
        exact ToldP.none _ _ (errV_ne hle).symm HB1.out
    · have e : Ph.encErr l s bits = 3 := by unfold Ph.encErr; rw [if_neg (by omega), if_pos (by omega)]
      rw [e, gotP_ne (by omega)]
      have HBC := Lib.hid (bandCheck_ok A2 n2 c2 s w B h2 hbe)
      have hne : ((n1 : Int) != Ph.total s) = true := by simp [hlt]
      clear e h1 h2 hbe hl1 hl2
      go_enter Tryz.func20, Tryz.ntmps20
      go_wp2_with fail
      refine HBC.out.mono ?_
      rintro e w' ⟨rfl, rfl⟩
      go_wp2_with fail
      go_ret2
      exact ToldP.none _ _ (errV_ne (by omega)).symm (Below.refl _ _)
  · have e : Ph.encErr l s bits = Ph.bandErr s := by unfold Ph.encErr; rw [if_pos hbe]
    rw [e, gotP_ne hbe]
    have HBC := Lib.hid (bandCheck_no A2 n2 c2 s w B h2 hn2 hbe)
    obtain ⟨E, hE⟩ : ∃ E, E = Ph.bandErr s := ⟨_, rfl⟩
    rw [← hE] at hbe HBC ⊢
    rw [errV_ne hbe] at HBC
    clear e h1 h2 hE hl1 hl2
    go_enter Tryz.func20, Tryz.ntmps20
    go_wp2_with fail
    refine HBC.out.mono ?_
    rintro e w' ⟨rfl, rfl⟩
    go_wp2_with fail
    go_ret2
    exact ToldP.none _ _ (errV_ne hbe).symm (Below.refl _ _)
end Go.Proofs.YtmohilfebgahoaaGreatDoor
