/- The document's answers, walked (chapter 7): the nearest pulses. -/
import Derived.Test.YtjdpgakkphdjlaaGreatDoorFar
import Derived.Test.YtjdpgakkphdjlaaGreatDoorRefPulse
import Derived.Test.YtjdpgakkphdjlaaGreatDoorPhAll
import Derived.BigQuiet
import Derived.BigRegion
namespace Go.Proofs.YtjdpgakkphdjlaaGreatDoor
open Go.RowKit

def qvals (f : Nat → Bool) (n : Nat) : List Value := (List.range n).map fun i => .bool (f i)
theorem qvals_length (f : Nat → Bool) (n : Nat) : (qvals f n).length = n := by simp [qvals]
theorem qvals_get (f : Nat → Bool) {n i : Nat} (h : i < n) : (qvals f n)[i]? = some (.bool (f i)) := by
  unfold qvals; rw [List.getElem?_map, List.getElem?_range h]; rfl
theorem qvals_set (f : Nat → Bool) (n x : Nat) (y : Bool) : (qvals f n).set x (.bool y) = qvals (fun i => if i = x then y else f i) n := by
  apply List.ext_getElem?
  intro i
  rw [List.getElem?_set]
  by_cases hi : i < n
  · rw [qvals_get _ hi, qvals_get _ hi, qvals_length]
    by_cases e : x = i
    · subst e; simp [hi]
    · rw [if_neg e, if_neg (fun h => e h.symm)]
  · rw [List.getElem?_eq_none (by rw [qvals_length]; omega), List.getElem?_eq_none (by rw [qvals_length]; omega), qvals_length]
    by_cases e : x = i
    · subst e; simp [hi]
    · rw [if_neg e]
theorem qvals_congr {f g : Nat → Bool} {n : Nat} (h : ∀ i, i < n → f i = g i) : qvals f n = qvals g n := List.map_congr_left fun i hi => by rw [h i (List.mem_range.1 hi)]
theorem bool_info : (Tryz.prog.info? 4).map (fun i => (i.zero, i.size, i.bytes)) = some (some (.bool false), 1, 1) := by kernel_rfl
theorem make_bools (n : Nat) (hn : n ≤ 1000000) (W : World) : (Instr.makeSlice 76 (.int .i64 (n : Int)) (.int .i64 (n : Int))).run Tryz.prog W = .ok (.slice (some ⟨W.heap.size, 0, none⟩) n n) (W.alloc (.cells (madeCells #[.bool false] n) 4)) := by
  obtain ⟨i0, hi, hz0, hz1, hz2⟩ := info_parts bool_info
  have hr := run_make (P := Tryz.prog) W 76 4 i0 (.bool false) Tryz.underlying76 hi hz0 .i64 .i64 n n (by omega) (Int.le_refl _) (by rw [hz2]; omega) (by omega)
  rw [hz1, Nat.mul_one] at hr
  simpa [Value.cells] using hr
theorem made_bools (W : World) (n : Nat) (hn : n ≤ 1000000) : (W.alloc (.cells (madeCells #[.bool false] n) 4)).ownsRow W.heap.size 4 1 (.slice (some ⟨W.heap.size, 0, none⟩) n n) n (qvals (fun _ => false) n) := by
  have := World.ownsRow_lit (base := W.heap.size) (e := 4) (size := 1) W (madeCells #[.bool false] n) n (Nat.le_refl _) (by unfold maxLen; omega) (by rw [size_madeCells, Nat.mul_one])
  rw [toList_madeCells_one] at this
  rw [show qvals (fun _ => false) n = List.replicate n (.bool false) by unfold qvals; rw [List.map_const', List.length_range]]
  exact this
set_option maxRecDepth 1000000 in
set_option maxHeartbeats 4000000 in
theorem rnear_own (A : Option Addr) (n c : Nat) (v : List Int) (k : Int) (w : World) (B : Nat) (h : RdI w B A n v) (hB : B ≤ w.heap.size) (hb : Ph.allIn v 8000 = true) (hn : n ≤ 6) (hk : 0 ≤ k ∧ k ≤ 8) (hL : k = 0 ∨ 0 < Ph.loud v) :
    Calls Tryz.prog 24 #[.slice A n c, .int .i64 k] w fun e w' => ∃ A' c', e = .returned (.slice A' n c') ∧ w'.ownsRow w.heap.size 3 1 (.slice A' n c') n (ivals (Ph.near v k)) ∧ Below w.heap.size w w' := by
  have hl := h.len
  have hmk := make_ints n (by omega)
  by_cases hk0 : k = 0
  · subst hk0
    have hV : Ph.near v 0 = List.replicate n 0 := by unfold Ph.near; rw [if_pos rfl, hl]
    rw [hV]
    have HO := Lib.hid (made_own w n (by omega))
    clear h hb hL hl hV
    go_enter Tryz.func24, Tryz.ntmps24
    go_wp2_with fail
    go_ret
    exact ⟨some ⟨w.heap.size, 0, none⟩, n, rfl, HO.out, below_alloc0 _ _⟩
  · have hL0 : 0 < Ph.loud v := hL.resolve_left hk0
    have hn1 : 1 ≤ n := by
      rcases Nat.eq_zero_or_pos n with h0 | h0
      · subst h0
        have : v = [] := List.length_eq_zero_iff.1 hl
        subst this
        exact absurd hL0 (by decide)
      · exact h0
    have HSUM := Lib.hid fun W hW => rloud_any A n c v W B hW (Ph.allIn_mono hb (by omega)) (by omega)
    have hLb : Ph.loud v ≤ 48000 := by have := Ph.loud_le hb; omega
    have hkb : (k == 0) = false := by simp [hk0]
    have hnl := Ph.nleft_le (v := v) (k := k) hL0
    have hn0 := Ph.nleft_nonneg (v := v) (k := k) hL0
    rw [hl] at hnl
    obtain ⟨M, hM⟩ : ∃ M : Nat, Ph.nleft v k = M := ⟨(Ph.nleft v k).toNat, by omega⟩
    have HMM := Lib.hid hM
    have hMn : M ≤ n := by omega
    have HM0 : Hid (k - Ph.sumTo n (Ph.nq v k) = (M : Int)) := Lib.hid (by rw [← hM]; unfold Ph.nleft; rw [hl])
    have hmb := make_bools n (by omega)
    obtain ⟨L, hLe⟩ : ∃ L, L = Ph.loud v := ⟨_, rfl⟩
    rw [← hLe] at HSUM hL0 hLb
    have H := Lib.hid h
    have HL := Lib.hid hl
    have HBD := Lib.hid hb
    have HLE := Lib.hid hLe
    have HO1 := Lib.hid (made_own w n (by omega))
    have HBEL := Lib.hid (below_alloc0 w (.cells (madeCells #[.int .i64 0] n) 3))
    clear h hb hl hL hLe hnl hn0 hM
    go_enter Tryz.func24, Tryz.ntmps24
    go_wp2_with fail
    refine (HSUM.out _ (H.out.alloc hB _)).mono ?_
    rintro e w' ⟨rfl, rfl⟩
    go_wp2_with fail
    go_loopw [7, 8] (fun lf i wr => ∃ q : Nat, q ≤ n ∧ i = .int .i64 q ∧ lf = .int .i64 (k - Ph.sumTo q (Ph.nq v k)) ∧
      Hid (wr.ownsRow w.heap.size 3 1 (.slice (some ⟨w.heap.size, 0, none⟩) n n) n (ivals (part (Ph.nq v k) n q))) ∧ Hid (Below w.heap.size w wr)) (fun _ i _ => n - (intOf i).toNat)
    case atStart => exact ⟨0, Nat.zero_le _, rfl, by simp [Ph.sumTo], Lib.hid (by rw [part_zero]; exact HO1.out), HBEL⟩
    case round =>
      obtain ⟨q, hq, rfl, rfl, P1, PB⟩ := hrel
      rename World => wr
      clear HO1
      by_cases hlt : q < n
      · obtain ⟨b0, o0, rfl, hbb0, c0⟩ := (H.out.below (PB.out.mono hB)).at_ hlt
        have hql : q < v.length := by rw [HL.out]; exact hlt
        have hx := Ph.allIn_getD HBD.out (by omega) q
        have hnq : Ph.nq v k q = k * Ph.far (v.getD q 0) / L := by rw [HLE.out]; rfl
        have hs1 : Ph.sumTo (q + 1) (Ph.nq v k) = Ph.sumTo q (Ph.nq v k) + Ph.nq v k q := rfl
        have hsb := nq_sum_bd (v := v) (k := k) (by rw [← HLE.out]; exact hL0) hk.1 q (by omega)
        obtain ⟨x, hxe⟩ : ∃ x, x = v.getD q 0 := ⟨_, rfl⟩
        rw [← hxe] at c0 hx hnq
        have hF := Ph.far_nonneg x
        have hF2 : Ph.far x ≤ 8000 := Ph.far_le.2 hx
        have HFA := Lib.hid fun W => rfar_any x W (by omega)
        obtain ⟨F, hFe⟩ : ∃ F, F = Ph.far x := ⟨_, rfl⟩
        rw [← hFe] at HFA hF hF2 hnq
        have hkF : 0 ≤ k * F ∧ k * F ≤ 64000 := ⟨Int.mul_nonneg hk.1 hF, by have := Int.mul_le_mul hk.2 hF2 hF (by omega); omega⟩
        obtain ⟨N, hN⟩ : ∃ N, N = k * F := ⟨_, rfl⟩
        rw [← hN] at hkF hnq
        have k1 : IntKind.i64.wrap (k * F) = N := by rw [← hN]; exact IntWalk.i64_in _ (by omega)
        have hQ0 : 0 ≤ N / L := Int.ediv_nonneg hkF.1 (by omega)
        have hQ1 : N / L ≤ 64000 := Int.le_trans (Int.ediv_le_self _ hkF.1) hkF.2
        obtain ⟨S, hS⟩ : ∃ S, S = Ph.sumTo q (Ph.nq v k) := ⟨_, rfl⟩
        rw [← hS] at hs1 hsb ⊢
        have HNQ := Lib.hid hnq
        have HS1 := Lib.hid hs1
        have f1 : wr.frozen? ⟨w.heap.size, q, none⟩ = false := P1.out.frozenAt _
        have d1 : wr.cell? ⟨w.heap.size, q, none⟩ = some (.int .i64 ((part (Ph.nq v k) n q).getD q 0)) := by rw [P1.out.cellAt q (by omega), ivals_get (by rw [part_length]; exact hlt)]
        have hlt' : (q : Int) < (n : Int) := by omega
        have hLn : ¬ L = 0 := by omega
        have hne : b0 ≠ w.heap.size := by omega
        have s1 := (P1.out.stored q (.int .i64 (N / L))).1
        rw [ivals_set, ← HNQ.out, part_set] at s1
        have HS1' := Lib.hid s1
        have HSB := Lib.hid (PB.out.setCell (p := ⟨w.heap.size, q, none⟩) (Nat.le_refl _) (.int .i64 (N / L)))
        clear hxe hFe hN hnq hs1 hS hql hF hF2 s1
        go_wp2_with fail
        refine (HFA.out _).mono ?_
        rintro e w' ⟨rfl, rfl⟩
        go_wp2_with fail
        go_roundw
        case rel => exact ⟨q + 1, by omega, by go_num, by rw [HS1.out, HNQ.out]; congr 1; omega, Lib.hid (by rw [HNQ.out] at HS1'; exact HS1'.out), HSB⟩
        case measure => simp [intOf]; omega
      · obtain rfl : q = n := by omega
        rw [part_mapR] at P1
        rw [HM0.out]
        have HP2 := Lib.hid (P1.out.alloc (.cells (madeCells #[.bool false] q) 4))
        have HG := Lib.hid (own_more (made_bools wr q (by omega)) PB.out.size)
        have HB2 := Lib.hid (PB.out.alloc PB.out.size (.cells (madeCells #[.bool false] q) 4))
        have hgw : w.heap.size < wr.heap.size := (P1.out.lt _ rfl).2
        have hnb : Hid (∀ i, 0 ≤ Ph.nq v k i ∧ Ph.nq v k i ≤ 8) := Lib.hid fun i => nq_bd (by rw [← HLE.out]; exact hL0) hk.1 hk.2 i
        obtain ⟨G, hGe⟩ : ∃ G, G = wr.heap.size := ⟨_, rfl⟩
        rw [← hGe] at HG hgw
        have HGe := Lib.hid hGe
        clear hlt hGe
        go_wp2_with fail
        have hGe := HGe.out
        rw [← hGe]
        clear P1 PB hGe
        go_loopw [7, 10, 11] (fun lf _ _ wr2 => ∃ t : Nat, t ≤ M ∧ lf = .int .i64 ((M : Int) - t) ∧ Hid (wr2.ownsRow w.heap.size 3 1 (.slice (some ⟨w.heap.size, 0, none⟩) q q) q (ivals (mapR (fun i => Ph.nq v k i + Ph.one ((Ph.ord (Ph.nr v k) q).take t) i) q))) ∧ Hid (wr2.ownsRow w.heap.size 4 1 (.slice (some ⟨G, 0, none⟩) q q) q (qvals (fun i => decide (i ∈ (Ph.ord (Ph.nr v k) q).take t)) q)) ∧ Hid (Below w.heap.size w wr2)) (fun lf _ _ _ => (intOf lf).toNat)
        case atStart => exact ⟨0, Nat.zero_le _, by simp, Lib.hid (by rw [mapR_congr (g := Ph.nq v k) (fun i _ => by rw [List.take_zero, Ph.one_nil, Int.add_zero])]; exact HP2.out), Lib.hid (by rw [qvals_congr (g := fun _ => false) (fun i _ => by simp)]; exact HG.out), HB2⟩
        case round =>
          obtain ⟨t, ht, rfl, R1, R2, RB⟩ := hrel
          rename World => wt
          clear HP2 HG HB2
          by_cases htM : t < M
          · have htq : t < q := by omega
            have hpos : (0 : Int) < (M : Int) - t := by omega
            have HNX := Lib.hid (Ph.sel_next (Ph.nr v k) q t htq)
            have hord : (Ph.ord (Ph.nr v k) q).length = q := Ph.ord_length _ _
            obtain ⟨x, hx⟩ : ∃ x, x = (Ph.ord (Ph.nr v k) q)[t]'(by omega) := ⟨_, rfl⟩
            rw [← hx] at HNX
            have hxq : x < q := (Ph.ord_mem (Ph.nr v k) q x).1 (by rw [hx]; exact List.getElem_mem _)
            have hnm := Ph.ord_get_not (Ph.nr v k) q t (by omega)
            rw [← hx] at hnm
            have hone := fun i => Ph.one_take_succ (Ph.nr v k) q t i htq
            rw [← hx] at hone
            have hmem : ∀ i, decide (i ∈ (Ph.ord (Ph.nr v k) q).take (t + 1)) = if i = x then true else decide (i ∈ (Ph.ord (Ph.nr v k) q).take t) := fun i => by
              rw [List.take_succ_eq_append_getElem (by omega), ← hx]
              by_cases e : i = x
              · simp [e]
              · simp [e]
            obtain ⟨S, hS⟩ : ∃ S, S = (Ph.ord (Ph.nr v k) q).take t := ⟨_, rfl⟩
            rw [← hS] at R1 R2 HNX hnm hone hmem
            have hrow : Hid ((mapR (fun i => Ph.nq v k i + Ph.one S i) q).set x (Ph.nq v k x + Ph.one S x + 1) = mapR (fun i => Ph.nq v k i + Ph.one ((Ph.ord (Ph.nr v k) q).take (t + 1)) i) q) := Lib.hid (by
              rw [mapR_set]
              refine mapR_congr fun i _ => ?_
              have hone := hone i
              by_cases e : i = x
              · rw [if_pos e] at hone ⊢
                have h0 : Ph.one S x = 0 := if_neg hnm
                rw [hone, h0, e]; omega
              · rw [if_neg e] at hone ⊢; rw [hone])
            have hbrow : Hid ((qvals (fun i => decide (i ∈ S)) q).set x (.bool true) = qvals (fun i => decide (i ∈ (Ph.ord (Ph.nr v k) q).take (t + 1))) q) := Lib.hid (by
              rw [qvals_set]
              exact qvals_congr fun i _ => (hmem i).symm)
            clear hx hord hone hmem hnm hS
            go_wp2_with fail
            go_loopw [10, 11] (fun b i wr3 => ∃ j : Nat, j ≤ q ∧ i = .int .i64 j ∧ b = .int .i64 (Ph.sel (Ph.nr v k) S j) ∧ Hid (wr3.ownsRow w.heap.size 3 1 (.slice (some ⟨w.heap.size, 0, none⟩) q q) q (ivals (mapR (fun i => Ph.nq v k i + Ph.one S i) q))) ∧ Hid (wr3.ownsRow w.heap.size 4 1 (.slice (some ⟨G, 0, none⟩) q q) q (qvals (fun i => decide (i ∈ S)) q)) ∧ Hid (Below w.heap.size w wr3)) (fun _ i _ => q - (intOf i).toNat)
            case atStart => exact ⟨0, Nat.zero_le _, rfl, rfl, R1, R2, RB⟩
            case round =>
              obtain ⟨j, hj, rfl, rfl, V1, V2, VB⟩ := hrel
              rename World => wu
              by_cases hjq : j < q
              · have c1 : wu.cell? ⟨G, j, none⟩ = some (.bool (decide (j ∈ S))) := by
                  rw [V2.out.cellAt j (by omega), qvals_get _ hjq]
                have hsel : Ph.sel (Ph.nr v k) S (j + 1) = if j ∉ S ∧ (Ph.sel (Ph.nr v k) S j < 0 ∨ Ph.nr v k (Ph.sel (Ph.nr v k) S j).toNat < Ph.nr v k j) then (j : Int) else Ph.sel (Ph.nr v k) S j := by rw [Ph.sel]
                have hsb := Ph.sel_bd (Ph.nr v k) S j
                have hjq' : (j : Int) < (q : Int) := by omega
                by_cases hjS : j ∈ S
                · have hd : decide (j ∈ S) = true := decide_eq_true hjS
                  have HSE : Hid (Ph.sel (Ph.nr v k) S (j + 1) = Ph.sel (Ph.nr v k) S j) := Lib.hid (by rw [hsel, if_neg (fun h => h.1 hjS)])
                  rw [hd] at c1
                  obtain ⟨b, hb⟩ : ∃ b, b = Ph.sel (Ph.nr v k) S j := ⟨_, rfl⟩
                  rw [← hb] at HSE ⊢
                  clear hsel hsb hb hd hjS
                  go_wp2_with fail
                  go_quiet (fail)
                  go_wp2_with fail
                  go_roundw
                  case rel => exact ⟨j + 1, by omega, by go_num, by rw [HSE.out], Lib.hid (own_drewN V1.out _), Lib.hid (own_drewN V2.out _), Lib.hid (below_drewN' VB.out _)⟩
                  case measure => simp [intOf]; omega
                · have hd : decide (j ∈ S) = false := decide_eq_false hjS
                  rw [hd] at c1
                  by_cases hb0 : Ph.sel (Ph.nr v k) S j < 0
                  · have HSE : Hid (Ph.sel (Ph.nr v k) S (j + 1) = (j : Int)) := Lib.hid (by rw [hsel, if_pos ⟨hjS, .inl hb0⟩])
                    obtain ⟨b, hb⟩ : ∃ b, b = Ph.sel (Ph.nr v k) S j := ⟨_, rfl⟩
                    rw [← hb] at hb0 ⊢
                    clear hsel hsb hb hd hjS
                    go_wp2_with fail
                    go_quiet (fail)
                    go_wp2_with fail
                    go_roundw
                    case rel => exact ⟨j + 1, by omega, by go_num, by rw [HSE.out], Lib.hid (own_drewN V1.out _), Lib.hid (own_drewN V2.out _), Lib.hid (below_drewN' VB.out _)⟩
                    case measure => simp [intOf]; omega
                  · obtain ⟨b, hb⟩ : ∃ b : Nat, Ph.sel (Ph.nr v k) S j = b := ⟨(Ph.sel (Ph.nr v k) S j).toNat, by omega⟩
                    rw [hb] at hsel hsb ⊢
                    rw [Int.toNat_natCast] at hsel
                    have hbq : b < q := by omega
                    obtain ⟨b0, o0, rfl, hbb0, c0⟩ := (H.out.below (VB.out.mono hB)).at_ hjq
                    obtain ⟨b', o', hA, _, c2⟩ := (H.out.below (VB.out.mono hB)).at_ hbq
                    obtain ⟨rfl, rfl⟩ : b0 = b' ∧ o0 = o' := by simpa using hA
                    have d0 : wu.cell? ⟨b0, o0 + j, none⟩ = some (.int .i64 (v.getD j 0)) := c0
                    have d2 : wu.cell? ⟨b0, o0 + b, none⟩ = some (.int .i64 (v.getD b 0)) := c2
                    have hxj := Ph.allIn_getD HBD.out (by omega) j
                    have hxb := Ph.allIn_getD HBD.out (by omega) b
                    have hrj : Ph.nr v k j = k * Ph.far (v.getD j 0) % L := by rw [HLE.out]; rfl
                    have hrb : Ph.nr v k b = k * Ph.far (v.getD b 0) % L := by rw [HLE.out]; rfl
                    obtain ⟨X, hX⟩ : ∃ X, X = v.getD j 0 := ⟨_, rfl⟩
                    obtain ⟨Y, hY⟩ : ∃ Y, Y = v.getD b 0 := ⟨_, rfl⟩
                    rw [← hX] at d0 hxj hrj
                    rw [← hY] at d2 hxb hrb
                    have HF1 : Hid (∀ W, Calls Tryz.prog 36 #[.int .i64 X] W fun e w' => e = .returned (.int .i64 (Ph.far X)) ∧ w' = W) := Lib.hid fun W => (rfar_any X W (by omega)).mono fun e w' ⟨q1, q2⟩ => ⟨q1, q2.symm⟩
                    have HF2 : Hid (∀ W, Calls Tryz.prog 36 #[.int .i64 Y] W fun e w' => e = .returned (.int .i64 (Ph.far Y)) ∧ w' = W) := Lib.hid fun W => (rfar_any Y W (by omega)).mono fun e w' ⟨q1, q2⟩ => ⟨q1, q2.symm⟩
                    have f1 := Ph.far_nonneg X
                    have f2 : Ph.far X ≤ 8000 := Ph.far_le.2 hxj
                    have f3 := Ph.far_nonneg Y
                    have f4 : Ph.far Y ≤ 8000 := Ph.far_le.2 hxb
                    obtain ⟨F, hF⟩ : ∃ F, F = Ph.far X := ⟨_, rfl⟩
                    obtain ⟨E, hE⟩ : ∃ E, E = Ph.far Y := ⟨_, rfl⟩
                    rw [← hF] at HF1 f1 f2 hrj
                    rw [← hE] at HF2 f3 f4 hrb
                    have g1 : 0 ≤ k * F ∧ k * F ≤ 64000 := ⟨Int.mul_nonneg hk.1 f1, by have := Int.mul_le_mul hk.2 f2 f1 (by omega); omega⟩
                    have g2 : 0 ≤ k * E ∧ k * E ≤ 64000 := ⟨Int.mul_nonneg hk.1 f3, by have := Int.mul_le_mul hk.2 f4 f3 (by omega); omega⟩
                    obtain ⟨N, hN⟩ : ∃ N, N = k * F := ⟨_, rfl⟩
                    obtain ⟨P, hP⟩ : ∃ P, P = k * E := ⟨_, rfl⟩
                    rw [← hN] at g1 hrj
                    rw [← hP] at g2 hrb
                    have k1 : IntKind.i64.wrap (k * F) = N := by rw [← hN]; exact IntWalk.i64_in _ (by omega)
                    have k2 : IntKind.i64.wrap (k * E) = P := by rw [← hP]; exact IntWalk.i64_in _ (by omega)
                    have hLn : ¬ L = 0 := by omega
                    have hb1 : ¬ (b : Int) < 0 := by omega
                    have hbq' : (b : Int) < (q : Int) := by omega
                    have r1 : 0 ≤ N % L := Int.emod_nonneg _ (by omega)
                    have r2 : 0 ≤ P % L := Int.emod_nonneg _ (by omega)
                    have m1 : N.tmod L = N % L := Int.tmod_eq_emod_of_nonneg g1.1
                    have m2 : P.tmod L = P % L := Int.tmod_eq_emod_of_nonneg g2.1
                    by_cases hcmp : P % L < N % L
                    · have HSE : Hid (Ph.sel (Ph.nr v k) S (j + 1) = (j : Int)) := Lib.hid (by rw [hsel, if_pos ⟨hjS, .inr (by rw [hrj, hrb]; exact hcmp)⟩])
                      clear hsel hsb hb hd hjS hA c0 c2 hxj hxb hrj hrb hX hY hF hE hN hP f1 f2 f3 f4 hb0 hbb0
                      go_wp2_with fail
                      go_quiet ((first | (go_at_call 36; exact Calls.quiet_of_same (HF1.out _)) | (go_at_call 36; exact Calls.quiet_of_same (HF2.out _))))
                      go_wp2_with fail
                      go_roundw
                      case rel => exact ⟨j + 1, by omega, by go_num, by rw [HSE.out], Lib.hid (own_drewN V1.out _), Lib.hid (own_drewN V2.out _), Lib.hid (below_drewN' VB.out _)⟩
                      case measure => simp [intOf]; omega
                    · have HSE : Hid (Ph.sel (Ph.nr v k) S (j + 1) = (b : Int)) := Lib.hid (by rw [hsel, if_neg (by rw [hrj, hrb]; intro h; rcases h.2 with h | h <;> omega)])
                      clear hsel hsb hb hd hjS hA c0 c2 hxj hxb hrj hrb hX hY hF hE hN hP f1 f2 f3 f4 hb0 hbb0
                      go_wp2_with fail
                      go_quiet ((first | (go_at_call 36; exact Calls.quiet_of_same (HF1.out _)) | (go_at_call 36; exact Calls.quiet_of_same (HF2.out _))))
                      go_wp2_with fail
                      go_roundw
                      case rel => exact ⟨j + 1, by omega, by go_num, by rw [HSE.out], Lib.hid (own_drewN V1.out _), Lib.hid (own_drewN V2.out _), Lib.hid (below_drewN' VB.out _)⟩
                      case measure => simp [intOf]; omega
              · obtain rfl : j = q := by omega
                rw [HNX.out]
                have Q1 := V1
                have Q2 := V2
                have QB := VB
                have c1 : wu.cell? ⟨G, x, none⟩ = some (.bool (decide (x ∈ S))) := by rw [Q2.out.cellAt x (by omega), qvals_get _ hxq]
                have f1 : wu.frozen? ⟨G, x, none⟩ = false := Q2.out.frozenAt _
                have c2 : wu.cell? ⟨w.heap.size, x, none⟩ = some (.int .i64 (Ph.nq v k x + Ph.one S x)) := by rw [Q1.out.cellAt x (by omega), ivals_get (by rw [mapR_length]; exact hxq), mapR_getD _ _ _ hxq]
                have f2 : wu.frozen? ⟨w.heap.size, x, none⟩ = false := Q1.out.frozenAt _
                have h1 := hnb.out x
                have h2 := Ph.one_bd S x
                obtain ⟨Z, hZ⟩ : ∃ Z, Z = Ph.nq v k x + Ph.one S x := ⟨_, rfl⟩
                rw [← hZ] at c2 hrow
                have hZb : 0 ≤ Z ∧ Z ≤ 9 := by omega
                have hxq' : (x : Int) < (j : Int) := by omega
                have hx0 : (0 : Int) ≤ (x : Int) := by omega
                have hGw : ¬ G = w.heap.size := by omega
                have hGw2 : ¬ w.heap.size = G := by omega
                have s2 := (Q2.out.stored x (.bool true)).1
                rw [hbrow.out] at s2
                have s1 := (own_setFar Q1.out (p := ⟨G, x, none⟩) (by simp [Value.ownBlock]; omega) (.bool true))
                have s3 := (s1.stored x (.int .i64 (Z + 1))).1
                rw [ivals_set, hrow.out] at s3
                have s4 := own_setFar s2 (p := ⟨w.heap.size, x, none⟩) (by simp [Value.ownBlock]; omega) (.int .i64 (Z + 1))
                have S3 := Lib.hid s3
                have S4 := Lib.hid s4
                have SB := Lib.hid ((QB.out.setCell (p := ⟨G, x, none⟩) (by show w.heap.size ≤ G; omega) (.bool true)).setCell (p := ⟨w.heap.size, x, none⟩) (Nat.le_refl _) (.int .i64 (Z + 1)))
                clear hZ h1 h2 s1 s2 s3 s4 Q1 Q2 QB V1 V2 VB R1 R2 RB HNX hrow hbrow
                go_wp2_with fail
                go_roundw
                case rel => exact ⟨t + 1, by omega, by go_num, S3, S4, SB⟩
                case measure => simp [intOf]; omega
          · obtain rfl : t = M := by omega
            have hz : ((t : Int) - t) = 0 := by omega
            have hmag : Hid (∀ i, Ph.nq v k i + Ph.one ((Ph.ord (Ph.nr v k) q).take t) i = Ph.nmag v k i) := Lib.hid fun i => by
              unfold Ph.nmag Ph.nadd; rw [HL.out, HMM.out, Int.toNat_natCast]
            have r1 := R1.out
            rw [mapR_congr (fun i _ => hmag.out i)] at r1
            have Q1 := Lib.hid r1
            have hmb : Hid (∀ i, 0 ≤ Ph.nmag v k i ∧ Ph.nmag v k i ≤ 9) := Lib.hid fun i => by
              have h1 := hnb.out i
              have h2 := Ph.one_bd ((Ph.ord (Ph.nr v k) q).take t) i
              rw [← hmag.out i]; omega
            rw [hz]
            clear r1 R1 R2 hz
            go_wp2_with fail
            go_loopw [12] (fun i wr3 => ∃ j : Nat, j ≤ q ∧ i = .int .i64 j ∧ Hid (wr3.ownsRow w.heap.size 3 1 (.slice (some ⟨w.heap.size, 0, none⟩) q q) q (ivals (mapR (fun i => if i < j then Ph.nmag v k i * Ph.sgn (v.getD i 0) else Ph.nmag v k i) q))) ∧ Hid (Below w.heap.size w wr3)) (fun i _ => q - (intOf i).toNat)
            case atStart => exact ⟨0, Nat.zero_le _, rfl, Lib.hid (by rw [mapR_congr (g := Ph.nmag v k) (fun i _ => if_neg (by omega))]; exact Q1.out), RB⟩
            case round =>
              obtain ⟨j, hj, rfl, S1, SB⟩ := hrel
              rename World => ws
              clear Q1
              by_cases hjq : j < q
              · obtain ⟨b0, o0, rfl, _, c0⟩ := (H.out.below (SB.out.mono hB)).at_ hjq
                have c2 : ws.cell? ⟨w.heap.size, j, none⟩ = some (.int .i64 (Ph.nmag v k j)) := by
                  rw [S1.out.cellAt j (by omega), ivals_get (by rw [mapR_length]; exact hjq), mapR_getD _ _ _ hjq, if_neg (by omega)]
                have f2 : ws.frozen? ⟨w.heap.size, j, none⟩ = false := S1.out.frozenAt _
                have h1 := hmb.out j
                have hrow : Hid ((mapR (fun i => if i < j then Ph.nmag v k i * Ph.sgn (v.getD i 0) else Ph.nmag v k i) q).set j (Ph.nmag v k j * Ph.sgn (v.getD j 0)) = mapR (fun i => if i < j + 1 then Ph.nmag v k i * Ph.sgn (v.getD i 0) else Ph.nmag v k i) q) := Lib.hid (by
                  rw [mapR_set]
                  refine mapR_congr fun i _ => ?_
                  by_cases e : i = j
                  · rw [if_pos e, if_pos (by omega), e]
                  · rw [if_neg e]
                    by_cases h : i < j
                    · rw [if_pos h, if_pos (by omega)]
                    · rw [if_neg h, if_neg (by omega)])
                have hsame : Hid (¬ v.getD j 0 < 0 → mapR (fun i => if i < j then Ph.nmag v k i * Ph.sgn (v.getD i 0) else Ph.nmag v k i) q = mapR (fun i => if i < j + 1 then Ph.nmag v k i * Ph.sgn (v.getD i 0) else Ph.nmag v k i) q) := Lib.hid fun hx => by
                  refine mapR_congr fun i _ => ?_
                  by_cases e : i = j
                  · rw [if_neg (by omega), if_pos (by omega), e]; unfold Ph.sgn; rw [if_neg hx, Int.mul_one]
                  · by_cases h : i < j
                    · rw [if_pos h, if_pos (by omega)]
                    · rw [if_neg h, if_neg (by omega)]
                have hjq' : (j : Int) < (q : Int) := by omega
                by_cases hx0 : v.getD j 0 < 0
                · have hsg : Ph.sgn (v.getD j 0) = -1 := if_pos hx0
                  rw [hsg] at hrow
                  obtain ⟨x, hx⟩ : ∃ x, x = v.getD j 0 := ⟨_, rfl⟩
                  rw [← hx] at c0 hx0
                  obtain ⟨Y, hY⟩ : ∃ Y, Y = Ph.nmag v k j := ⟨_, rfl⟩
                  rw [← hY] at c2 h1 hrow
                  rw [show Y * -1 = -Y by omega] at hrow
                  have s1 := (S1.out.stored j (.int .i64 (-Y))).1
                  rw [ivals_set, hrow.out] at s1
                  have T1 := Lib.hid s1
                  have TB := Lib.hid (SB.out.setCell (p := ⟨w.heap.size, j, none⟩) (Nat.le_refl _) (.int .i64 (-Y)))
                  clear hx hY hsg hsame s1
                  go_wp2_with fail
                  go_roundw
                  case rel => exact ⟨j + 1, by omega, by go_num, T1, TB⟩
                  case measure => simp [intOf]; omega
                · have T1 := S1
                  rw [hsame.out hx0] at T1
                  obtain ⟨x, hx⟩ : ∃ x, x = v.getD j 0 := ⟨_, rfl⟩
                  rw [← hx] at c0 hx0
                  clear hx hrow hsame
                  go_wp2_with fail
                  go_roundw
                  case rel => exact ⟨j + 1, by omega, by go_num, T1, SB⟩
                  case measure => simp [intOf]; omega
              · obtain rfl : j = q := by omega
                have hnear : Ph.near v k = mapR (fun i => if i < j then Ph.nmag v k i * Ph.sgn (v.getD i 0) else Ph.nmag v k i) j := by
                  unfold Ph.near; rw [if_neg hk0, HL.out]
                  exact mapR_congr fun i hi => (if_pos hi).symm
                have HNE := Lib.hid hnear
                clear hnear
                go_wp2_with fail
                go_ret
                exact ⟨some ⟨w.heap.size, 0, none⟩, j, rfl, by rw [HNE.out]; exact S1.out, SB.out⟩
theorem rnear_any (A : Option Addr) (n c : Nat) (v : List Int) (k : Int) (w : World) (B : Nat) (h : RdI w B A n v) (hB : B ≤ w.heap.size) (hb : Ph.allIn v 8000 = true) (hn : n ≤ 6) (hk : 0 ≤ k ∧ k ≤ 8) (hL : k = 0 ∨ 0 < Ph.loud v) :
    Calls Tryz.prog 24 #[.slice A n c, .int .i64 k] w fun e w' => ∃ A' c', e = .returned (.slice A' n c') ∧ RdI w' w'.heap.size A' n (Ph.near v k) ∧ Below w.heap.size w w' := by
  refine (rnear_own A n c v k w B h hB hb hn hk hL).mono ?_
  rintro e w' ⟨A', c', rfl, ho, hb'⟩
  exact ⟨A', c', rfl, RdI.own ho, hb'⟩
end Go.Proofs.YtjdpgakkphdjlaaGreatDoor
