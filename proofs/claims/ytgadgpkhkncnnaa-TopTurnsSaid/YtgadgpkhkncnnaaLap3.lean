/- Walks: back over the edges (chapter 4). -/
import Derived.Test.YtgadgpkhkncnnaaLap2
namespace Go.Proofs.Ytgadgpkhkncnnaa
open Go.RowKit

theorem drop_getD (l : List Int) (d j : Nat) : (l.drop d).getD j 0 = l.getD (d + j) 0 := by
  rw [List.getD_eq_getElem?_getD, List.getD_eq_getElem?_getD, List.getElem?_drop]
theorem evIb {l : List Int} {d : Nat} (h : ∀ j, -10000 ≤ Ph.evI l d j ∧ Ph.evI l d j ≤ 10000) (k j : Nat) : -10000 ≤ ((List.range k).map (Ph.evI l d)).getD j 0 ∧ ((List.range k).map (Ph.evI l d)).getD j 0 ≤ 10000 := by
  by_cases hj : j < k
  · rw [Ph.getD_map_range _ _ _ hj]
    exact h j
  · rw [List.getD_eq_getElem?_getD, List.getElem?_eq_none (by simp; omega)]
    simp
set_option maxRecDepth 100000 in
theorem lapI_ok (A : Option Addr) (n c : Nat) (l : List Int) (w : World) (B : Nat) (h : RdI w B A n l) (hB : B ≤ w.heap.size) (hnc : n ≤ c) (h0 : Ph.lapErr l 4000 = 0) :
    Calls Try.prog 24 #[.slice A n c] w (FreshI 3 (Ph.lapI l) w) := by
  have he := errV_of h0
  have hs := Ph.lapErr_zero.1 h0
  have HL := Lib.hid h.len
  have HA := Lib.hid hs.2.2
  have hn : n ≤ 32 := by have := h.len; omega
  have hp : n % 2 = 0 := by have := h.len; omega
  obtain ⟨d, hd⟩ : ∃ d, n = 2 * d := ⟨n / 2, by omega⟩
  subst hd
  have H := Lib.hid h
  clear h h0 hs
  have hbnd : Hid (∀ q, -4000 ≤ l.getD q 0 ∧ l.getD q 0 ≤ 4000) := Lib.hid (Ph.allIn_getD HA.out (by omega))
  have k1 : (2 * (d : Int)) / 2 = (d : Int) := by omega
  by_cases hcd : c = d
  · obtain rfl : d = 0 := by omega
    subst hcd
    have hl0 : l = [] := List.length_eq_zero_iff.1 HL.out
    subst hl0
    have e9 : FreshI 3 (Ph.lapI []) w = FreshI 3 [] w := rfl
    rw [e9]
    clear e9 hbnd k1
    simp only [Nat.mul_zero] at H
    show Calls Try.prog 24 #[.slice A 0 0] w _
    go_enter Try.func24, Try.ntmps24
    go_wp2_with (go_at_call 58; refine (lapcheck_any A 0 0 [] 4000 _ B H.out hB (by omega) (by omega)).mono ?_; rintro e w1 ⟨rfl, hb1⟩)
    refine wp_loop_rounds 1 ?_
    rw [rounds_succ]
    go_wp2
    refine wp_loop_rounds 1 ?_
    rw [rounds_succ]
    go_wp2
    go_ret2
    exact ⟨none, 0, rfl, own_nil _ _ _, hb1⟩
  ·
    go_enter Try.func24, Try.ntmps24
    go_wp2_with (go_at_call 58; refine (lapcheck_any A _ c l 4000 _ B H.out hB (by omega) (by omega)).mono ?_; rintro e w1 ⟨rfl, hb1⟩)
    have hsz := hb1.size
    have hL1 : Hid (RdI w1 w1.heap.size A (2 * d) l) := Lib.hid ((H.out.below (hb1.mono hB)).more (by omega))
    have hR0 := RdI.drop_if (k := d) (cap := c) hL1.out (by omega) (by omega)
    rw [if_neg hcd] at hR0
    have hdd : 2 * d - d = d := by omega
    rw [hdd] at hR0 ⊢
    generalize hA6 : Option.map (fun x => Addr.add x d) A = A6 at hR0 ⊢
    have hR := Lib.hid hR0
    clear hR0 hA6 hdd he
    have hbR : Hid (∀ j, -10000 ≤ (l.drop d).getD j 0 ∧ (l.drop d).getD j 0 ≤ 10000) := Lib.hid fun j => by
      rw [drop_getD]
      have := hbnd.out (d + j)
      omega
    have hevb : Hid (∀ j, -10000 ≤ Ph.evI l d j ∧ Ph.evI l d j ≤ 10000) := Lib.hid fun j => by
      have h1 := hbnd.out j
      have h2 := hbnd.out (d + (j - 1))
      have h3 := hbnd.out (d + j)
      unfold Ph.evI
      omega
    go_loopw [7, 28] (fun v i wr => ∃ (k : Nat) (A7 : Option Addr) (c7 : Nat), k ≤ d ∧ i = .int .i64 k ∧ v = .slice A7 k c7 ∧ wr.ownsRow w1.heap.size 3 1 (.slice A7 k c7) k (ivals ((List.range k).map (Ph.evI l d))) ∧ Below w1.heap.size w1 wr) (fun _ i _ => d - (intOf i).toNat)
    case atStart => exact ⟨0, none, 0, by omega, rfl, rfl, own_nil _ _ _, Below.refl _ _⟩
    case round =>
      obtain ⟨k, A7, c7, hk, rfl, rfl, hown, hbw⟩ := hrel
      have HO := Lib.hid hown
      have HBW := Lib.hid hbw
      clear hown hbw
      by_cases hlt : k < d
      · obtain ⟨b, off, rfl, _, hc⟩ := (hL1.out.below HBW.out).at_ (k := k) (by omega)
        obtain ⟨G, hG⟩ : ∃ G, G = (l.getD (d + (k - 1)) 0 + l.getD (d + k) 0 + 2) / 4 := ⟨_, rfl⟩
        have HG : Hid (∀ w0, RdI w0 w1.heap.size A6 d (l.drop d) → ∀ c6, Calls Try.prog 60 #[.slice A6 d c6, .int .i64 k] w0 fun e w' => e = .returned (.int .i64 G) ∧ ∃ q, w' = w0.drewN q) := Lib.hid (by
          intro w0 h0 c6
          have := lift_any A6 d c6 k _ w0 w1.heap.size h0 hlt (by omega) hbR.out
          rw [drop_getD, drop_getD, ← hG] at this
          exact this)
        have k6 : IntKind.i64.wrap (l[k]?.getD 0 - G) = l[k]?.getD 0 - G := IntWalk.i64_in _ (by
          have h1 := hbnd.out k
          have h2 := hbnd.out (d + (k - 1))
          have h3 := hbnd.out (d + k)
          rw [List.getD_eq_getElem?_getD] at h1
          omega)
        rw [List.getD_eq_getElem?_getD] at hc
        have hGh := Lib.hid hG
        clear hG
        go_wp2_with (first
          | (go_at_call 60; refine (HG.out _ (hR.out.below HBW.out) _).mono ?_; rintro e w3 ⟨rfl, q, rfl⟩)
          | (at_builtin; refine wpList_push _ (by rfl) _ _ (by rfl) w1 w1.heap.size A7 k c7 ((List.range k).map (Ph.evI l d)) (l[k]?.getD 0 - G) (own_drewN HO.out _) (below_same HBW.out rfl rfl rfl rfl) HBW.out.size (by omega) (by rfl) (by rfl) ?_; intro g cap w2 ho2 hb2))
        refine ⟨⟨k + 1, some ⟨g, 0, none⟩, cap, by omega, by go_num, rfl, ?_, hb2⟩, by simp [intOf]; omega⟩
        rw [List.range_succ, List.map_append]
        have e : Ph.evI l d k = l[k]?.getD 0 - G := by unfold Ph.evI; rw [hGh.out, List.getD_eq_getElem?_getD]
        simp only [List.map_cons, List.map_nil, e]
        exact ho2
      · have hkd : k = d := by omega
        subst hkd
        rename World => wa
        have hE : Hid (RdI wa wa.heap.size A7 k ((List.range k).map (Ph.evI l k))) := Lib.hid (RdI.own HO.out)
        have hR1 : Hid (RdI wa w1.heap.size A6 k (l.drop k)) := Lib.hid (hR.out.below HBW.out)
        clear hlt
        go_wp2
        go_loopw [8, 44] (fun v i wr => ∃ (q : Nat) (A8 : Option Addr) (c8 : Nat), q ≤ k ∧ i = .int .i64 q ∧ v = .slice A8 (2 * q) c8 ∧ wr.ownsRow wa.heap.size 3 1 (.slice A8 (2 * q) c8) (2 * q) (ivals ((List.range q).flatMap fun i => [Ph.evI l k i, Ph.odI l k i])) ∧ Below wa.heap.size wa wr) (fun _ i _ => k - (intOf i).toNat)
        case atStart => exact ⟨0, none, 0, by omega, rfl, rfl, own_nil _ _ _, Below.refl _ _⟩
        case round =>
          obtain ⟨q, A8, c8, hq, rfl, rfl, hown2, hbw2⟩ := hrel
          have HO2 := Lib.hid hown2
          have HB2 := Lib.hid hbw2
          clear hown2 hbw2
          by_cases hlt : q < k
          · obtain ⟨b, off, rfl, hbA, hcA⟩ := hE.out.at_ hlt
            rw [Ph.getD_map_range _ _ _ hlt] at hcA
            have hc7 : wr.cell? ⟨b, off + q, none⟩ = some (.int .i64 (Ph.evI l k q)) := (HB2.out.cell hbA).trans hcA
            obtain ⟨b6, off6, rfl, hb6, hc6⟩ := hR1.out.at_ hlt
            rw [drop_getD, List.getD_eq_getElem?_getD] at hc6
            have hb6' : b6 < wa.heap.size := by have := HBW.out.size; omega
            have hc60 : wr.cell? ⟨b6, off6 + q, none⟩ = some (.int .i64 (l[k + q]?.getD 0)) := (HB2.out.cell hb6').trans hc6
            have hb6h := Lib.hid hb6'
            have hc6h := Lib.hid hc6
            obtain ⟨G, hG⟩ : ∃ G, G = (Ph.evI l k q + Ph.evI l k (Ph.nxt k q)) / 2 := ⟨_, rfl⟩
            have HG : Hid (∀ w0, RdI w0 wa.heap.size (some ⟨b, off, none⟩) k ((List.range k).map (Ph.evI l k)) → Calls Try.prog 59 #[.slice (some ⟨b, off, none⟩) k c7, .int .i64 q] w0 fun e w' => e = .returned (.int .i64 G) ∧ ∃ q, w' = w0.drewN q) := Lib.hid (by
              intro w0 h0
              have := guess_any (some ⟨b, off, none⟩) k c7 q _ w0 wa.heap.size h0 hlt (by omega) (evIb hevb.out k)
              rw [Ph.getD_map_range _ _ _ hlt, Ph.getD_map_range _ _ _ (Ph.nxt_lt hlt), ← hG] at this
              exact this)
            obtain ⟨x7, hx7⟩ : ∃ x7, x7 = Ph.evI l k q := ⟨_, rfl⟩
            have k6 : IntKind.i64.wrap (l[k + q]?.getD 0 + G) = l[k + q]?.getD 0 + G := IntWalk.i64_in _ (by
              have h1 := hbnd.out (k + q)
              have h2 := hevb.out q
              have h3 := hevb.out (Ph.nxt k q)
              rw [List.getD_eq_getElem?_getD] at h1
              omega)
            rw [← hx7] at hc7
            have hGh := Lib.hid hG
            have hx7h := Lib.hid hx7
            clear hG hx7 hcA hc6 hb6 hb6' hbA
            go_wp2
            go_region_held3 (fun w' => w'.cell? ⟨b6, off6 + q, none⟩ = some (.int .i64 (l[k + q]?.getD 0))) (first | go_keep | exact (hb4.cell hb6h.out).trans hc6h.out) (first | (go_at_call 59; refine (HG.out _ (RdI.drew (hE.out.below HB2.out))).mono ?_; rintro e w3 ⟨rfl, q3, rfl⟩) | (refine step_push2 _ (by rfl) _ _ (by rfl) wa wa.heap.size A8 (2 * q) c8 ((List.range q).flatMap fun i => [Ph.evI l k i, Ph.odI l k i]) x7 (l[k + q]?.getD 0 + G) wr.heap.size (by exact HO2.out.alloc (.cells #[.int .i64 x7, .int .i64 (l[k + q]?.getD 0 + G)] 3)) (below_same (HB2.out.alloc HB2.out.size (.cells #[.int .i64 x7, .int .i64 (l[k + q]?.getD 0 + G)] 3)) (by rfl) (by rfl) (by rfl) (by rfl)) (by have := HB2.out.size; simp; omega) (by exact (cell_of_alloc2 wr _ _ 3).1) (by exact (cell_of_alloc2 wr _ _ 3).2) (by omega) (by rfl) (by rfl) ?_; intro g cap w4 ho4 hb4))
            have HO4 := Lib.hid ho4
            have HB4 := Lib.hid hb4
            clear ho4 hb4 hc7 hc60 k6
            go_wp2
            go_roundw
            case rel =>
              refine ⟨q + 1, some ⟨g, 0, none⟩, cap, by omega, by go_num, rfl, ?_, HB4.out⟩
              have := HO4.out
              rw [List.range_succ, List.flatMap_append]
              have e1 : Ph.odI l k q = l[k + q]?.getD 0 + G := by unfold Ph.odI; rw [hGh.out, List.getD_eq_getElem?_getD]
              simp only [List.flatMap_cons, List.flatMap_nil, List.append_nil, e1, ← hx7h.out]
              exact this
            case measure => simp [intOf]; omega
          · have hqk : q = k := by omega
            subst hqk
            have hll : l.length = 2 * q := HL.out
            have hlh : l.length / 2 = q := by omega
            have e9 : Ph.lapI l = (List.range q).flatMap fun i => [Ph.evI l q i, Ph.odI l q i] := by unfold Ph.lapI; rw [hlh]
            have n9 : (Ph.lapI l).length = 2 * q := by rw [e9]; exact Ph.flat2_length _ (fun _ => rfl) _
            have HE9 := Lib.hid e9
            have HN9 := Lib.hid n9
            clear hlt e9 n9 hlh hll
            go_wp2
            go_ret2
            refine ⟨A8, c8, by rw [HN9.out]; rfl, ?_, hb1.trans ((HBW.out.trans (HB2.out.mono HBW.out.size)).mono hsz)⟩
            rw [HN9.out, HE9.out]
            exact own_more HO2.out (by have := HBW.out.size; omega)
end Go.Proofs.Ytgadgpkhkncnnaa
