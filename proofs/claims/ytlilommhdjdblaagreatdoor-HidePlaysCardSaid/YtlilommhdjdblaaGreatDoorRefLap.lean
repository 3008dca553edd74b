/- The document's answers, walked (chapter 4): over the edges, and back. -/
import Derived.Test.YtlilommhdjdblaaGreatDoorLap
import Derived.Test.YtlilommhdjdblaaGreatDoorRef1
namespace Go.Proofs.YtlilommhdjdblaaGreatDoor
open Go.RowKit

theorem rdown2 (n : Int) (w : World) (h : -1000000000000 ≤ n ∧ n ≤ 1000000000000) :
    Calls Tryz.prog 118 #[.int .i64 n, .int .i64 2] w fun e w' => e = .returned (.int .i64 (n / 2)) ∧ w' = w := by
  rcases Int.lt_or_le n 0 with h0 | h0
  · obtain ⟨m, rfl⟩ : ∃ m : Nat, n = -(m : Int) := ⟨(-n).toNat, by omega⟩
    have e1 : (-(m : Int)).tdiv 2 = -((m / 2 : Nat) : Int) := by rw [Int.neg_tdiv]; rfl
    have e2 : (-(m : Int)).tmod 2 = -((m % 2 : Nat) : Int) := by rw [Int.neg_tmod]; rfl
    have b1 : m / 2 ≤ m := by omega
    have b2 : m % 2 ≤ 1 := by omega
    have hq : (-(m : Int)) / 2 = if m % 2 = 0 then -((m / 2 : Nat) : Int) else -((m / 2 : Nat) : Int) - 1 := by split <;> omega
    rw [hq]
    obtain ⟨q, hq'⟩ : ∃ q, q = m / 2 := ⟨_, rfl⟩
    obtain ⟨r, hr'⟩ : ∃ r, r = m % 2 := ⟨_, rfl⟩
    rw [← hq'] at e1 b1 ⊢
    rw [← hr'] at e2 b2 ⊢
    clear hq hq' hr'
    rcases Nat.eq_zero_or_pos r with hr | hr
    · subst hr
      rw [if_pos rfl]
      go_enter Tryz.func118, Tryz.ntmps118
      go_wp2_with fail
      go_ret
      exact ⟨rfl, rfl⟩
    · rw [if_neg (by omega)]
      go_enter Tryz.func118, Tryz.ntmps118
      go_wp2_with fail
      go_ret
      exact ⟨rfl, rfl⟩
  · have e1 : ¬ n % 2 < 0 := by omega
    go_enter Tryz.func118, Tryz.ntmps118
    go_wp2_with fail
    go_ret
    exact ⟨rfl, rfl⟩
theorem rdown4 (n : Int) (w : World) (h : -1000000000000 ≤ n ∧ n ≤ 1000000000000) :
    Calls Tryz.prog 118 #[.int .i64 n, .int .i64 4] w fun e w' => e = .returned (.int .i64 (n / 4)) ∧ w' = w := by
  rcases Int.lt_or_le n 0 with h0 | h0
  · obtain ⟨m, rfl⟩ : ∃ m : Nat, n = -(m : Int) := ⟨(-n).toNat, by omega⟩
    have e1 : (-(m : Int)).tdiv 4 = -((m / 4 : Nat) : Int) := by rw [Int.neg_tdiv]; rfl
    have e2 : (-(m : Int)).tmod 4 = -((m % 4 : Nat) : Int) := by rw [Int.neg_tmod]; rfl
    have b1 : m / 4 ≤ m := by omega
    have b2 : m % 4 ≤ 3 := by omega
    have hq : (-(m : Int)) / 4 = if m % 4 = 0 then -((m / 4 : Nat) : Int) else -((m / 4 : Nat) : Int) - 1 := by split <;> omega
    rw [hq]
    obtain ⟨q, hq'⟩ : ∃ q, q = m / 4 := ⟨_, rfl⟩
    obtain ⟨r, hr'⟩ : ∃ r, r = m % 4 := ⟨_, rfl⟩
    rw [← hq'] at e1 b1 ⊢
    rw [← hr'] at e2 b2 ⊢
    clear hq hq' hr'
    rcases Nat.eq_zero_or_pos r with hr | hr
    · subst hr
      rw [if_pos rfl]
      go_enter Tryz.func118, Tryz.ntmps118
      go_wp2_with fail
      go_ret
      exact ⟨rfl, rfl⟩
    · rw [if_neg (by omega)]
      go_enter Tryz.func118, Tryz.ntmps118
      go_wp2_with fail
      go_ret
      exact ⟨rfl, rfl⟩
  · have e1 : ¬ n % 4 < 0 := by omega
    go_enter Tryz.func118, Tryz.ntmps118
    go_wp2_with fail
    go_ret
    exact ⟨rfl, rfl⟩
end Go.Proofs.YtlilommhdjdblaaGreatDoor
/- The document's answers, walked (chapter 4): back over the edges. -/
namespace Go.Proofs.YtlilommhdjdblaaGreatDoor
open Go.RowKit

set_option maxHeartbeats 2000000 in
set_option maxRecDepth 100000 in
theorem runlap_own (A : Option Addr) (n c : Nat) (l : List Int) (w : World) (B : Nat) (h : RdI w B A n l) (hB : B ≤ w.heap.size) (h0 : Ph.lapErr l 4000 = 0) :
    Calls Tryz.prog 78 #[.slice A n c] w fun e w' => ∃ A' c', e = .returned (.slice A' n c') ∧ w'.ownsRow w.heap.size 3 1 (.slice A' n c') n (ivals (Ph.lapI l)) ∧ Below w.heap.size w w' := by
  have hs := Ph.lapErr_zero.1 h0
  have hl := h.len
  obtain ⟨k, rfl⟩ : ∃ k, n = 2 * k := ⟨n / 2, by omega⟩
  have hk16 : k ≤ 16 := by omega
  have hbnd : Hid (∀ q, -4000 ≤ l.getD q 0 ∧ l.getD q 0 ≤ 4000) := Lib.hid (Ph.allIn_getD hs.2.2 (by omega))
  have hevb : Hid (∀ j, -10000 ≤ Ph.evI l k j ∧ Ph.evI l k j ≤ 10000) := Lib.hid fun j => by
    have h1 := hbnd.out j
    have h2 := hbnd.out (k + (j - 1))
    have h3 := hbnd.out (k + j)
    unfold Ph.evI
    omega
  have HL := Lib.hid hl
  have H := Lib.hid h
  clear h h0 hs hl
  go_enter Tryz.func78, Tryz.ntmps78
  go_wp2_with fail
  go_loopw [4, 6] (fun d i wr => ∃ (m : Nat) (A4 : Option Addr) (c4 : Nat), m ≤ k ∧ i = .int .i64 m ∧ d = .slice A4 m c4 ∧ wr.ownsRow w.heap.size 3 1 (.slice A4 m c4) m (ivals ((List.range m).map (Ph.evI l k))) ∧ Below w.heap.size w wr) (fun _ i _ => k - (intOf i).toNat)
  case atStart => exact ⟨0, none, 0, Nat.zero_le _, rfl, rfl, own_nil _ _ _, Below.refl _ _⟩
  case round =>
    obtain ⟨m, A4, c4, hm, rfl, rfl, hown, hbw⟩ := hrel
    have HO := Lib.hid hown
    have HBW := Lib.hid hbw
    clear hown hbw
    by_cases hlt : m < k
    · obtain ⟨b, off, rfl, hbb, hc1⟩ := (H.out.below (HBW.out.mono hB)).at_ (k := m) (by omega)
      obtain ⟨b', off', hA, _, hc2⟩ := (H.out.below (HBW.out.mono hB)).at_ (k := k + (m - 1)) (by omega)
      obtain ⟨rfl, rfl⟩ : b = b' ∧ off = off' := by simpa using hA
      obtain ⟨b', off', hA, _, hc3⟩ := (H.out.below (HBW.out.mono hB)).at_ (k := k + m) (by omega)
      obtain ⟨rfl, rfl⟩ : b = b' ∧ off = off' := by simpa using hA
      have b1 := hbnd.out m
      have b2 := hbnd.out (k + (m - 1))
      have b3 := hbnd.out (k + m)
      obtain ⟨x, hx⟩ : ∃ x, x = l.getD m 0 := ⟨_, rfl⟩
      obtain ⟨y, hy⟩ : ∃ y, y = l.getD (k + (m - 1)) 0 := ⟨_, rfl⟩
      obtain ⟨z, hz⟩ : ∃ z, z = l.getD (k + m) 0 := ⟨_, rfl⟩
      rw [← hx] at hc1 b1
      rw [← hy] at hc2 b2
      rw [← hz] at hc3 b3
      have hd : Hid (Ph.evI l k m = x - (y + z + 2) / 4) := Lib.hid (by unfold Ph.evI; rw [← hx, ← hy, ← hz])
      have k5 : IntKind.i64.wrap (y + z) = y + z := IntWalk.i64_in _ (by omega)
      have k6 : IntKind.i64.wrap (y + z + 2) = y + z + 2 := IntWalk.i64_in _ (by omega)
      have j1 : IntKind.i64.wrap ((k : Int) + (m : Int)) = (k : Int) + (m : Int) := IntWalk.i64_in _ (by omega)
      have j2 : ((k : Int) + (m : Int)).toNat = k + m := by omega
      have j3 : (0 : Int) ≤ (k : Int) + (m : Int) := by omega
      have j4 : (k : Int) + (m : Int) < 2 * (k : Int) := by omega
      have j5 : (m : Int) < 2 * (k : Int) := by omega
      have hGb : -6000 ≤ (y + z + 2) / 4 ∧ (y + z + 2) / 4 ≤ 6000 := by omega
      have HD : Hid (∀ W, Calls Tryz.prog 118 #[.int .i64 (y + z + 2), .int .i64 4] W fun e w' => e = .returned (.int .i64 ((y + z + 2) / 4)) ∧ w' = W) := Lib.hid fun W => rdown4 (y + z + 2) W (by omega)
      obtain ⟨G, hG⟩ : ∃ G, G = (y + z + 2) / 4 := ⟨_, rfl⟩
      rw [← hG] at HD hd hGb
      have k8 : IntKind.i64.wrap (x - G) = x - G := IntWalk.i64_in _ (by omega)
      clear hx hy hz hG hA
      rcases Nat.eq_zero_or_pos m with h0 | h0
      · subst h0
        have hyz : y = z := by rw [show k + (0 - 1) = k + 0 by omega, hc3] at hc2; simpa using hc2.symm
        subst hyz
        simp only [Nat.add_zero] at hc1 hc3
        clear hc2 j1 j2 j3 j4 j5
        have j4 : (k : Int) < 2 * (k : Int) := by omega
        go_wp2_with fail
        go_quiet ((go_at_call 118; exact Calls.quiet_of_same (HD.out _)))
        clear k5 k6
        go_wp2_with (at_builtin; refine wpList_push _ (by rfl) _ _ (by rfl) w w.heap.size A4 0 c4 _ (x - G) (own_drewN HO.out _) (below_drewN' HBW.out _) HBW.out.size (by omega) (by rfl) (by rfl) ?_; intro g cap w2 ho2 hb2)
        have HO2 := Lib.hid ho2
        have HB2 := Lib.hid hb2
        clear ho2 hb2
        go_wp2_with fail
        go_roundw
        case rel =>
          refine ⟨1, some ⟨g, 0, none⟩, cap, by omega, by go_num, rfl, ?_, HB2.out⟩
          rw [List.range_succ, List.map_append, List.map_cons, List.map_nil, hd.out]
          exact HO2.out
        case measure => simp [intOf]; omega
      · have h1 : (0 : Int) < (m : Int) := by omega
        have i1 : IntKind.i64.wrap ((k : Int) + ((m : Int) - 1)) = (k : Int) + ((m : Int) - 1) := IntWalk.i64_in _ (by omega)
        have i2 : ((k : Int) + ((m : Int) - 1)).toNat = k + (m - 1) := by omega
        have i3 : (0 : Int) ≤ (k : Int) + ((m : Int) - 1) := by omega
        have i4 : (k : Int) + ((m : Int) - 1) < 2 * (k : Int) := by omega
        go_wp2_with fail
        go_quiet ((go_at_call 118; exact Calls.quiet_of_same (HD.out _)))
        clear k5 k6 i1 j1
        go_wp2_with (at_builtin; refine wpList_push _ (by rfl) _ _ (by rfl) w w.heap.size A4 m c4 _ (x - G) (own_drewN HO.out _) (below_drewN' HBW.out _) HBW.out.size (by omega) (by rfl) (by rfl) ?_; intro g cap w2 ho2 hb2)
        have HO2 := Lib.hid ho2
        have HB2 := Lib.hid hb2
        clear ho2 hb2
        go_wp2_with fail
        go_roundw
        case rel =>
          refine ⟨m + 1, some ⟨g, 0, none⟩, cap, by omega, by go_num, rfl, ?_, HB2.out⟩
          rw [List.range_succ, List.map_append, List.map_cons, List.map_nil, hd.out]
          exact HO2.out
        case measure => simp [intOf]; omega
    · obtain rfl : m = k := by omega
      rename World => wa
      have hE : Hid (RdI wa wa.heap.size A4 m ((List.range m).map (Ph.evI l m))) := Lib.hid (RdI.own HO.out)
      have hL : Hid (RdI wa w.heap.size A (2 * m) l) := Lib.hid ((H.out.below (HBW.out.mono hB)).more hB)
      clear hlt
      go_wp2_with fail
      go_loopw [5, 9] (fun s i wr => ∃ (q : Nat) (A5 : Option Addr) (c5 : Nat), q ≤ m ∧ i = .int .i64 q ∧ s = .slice A5 (2 * q) c5 ∧ wr.ownsRow wa.heap.size 3 1 (.slice A5 (2 * q) c5) (2 * q) (ivals ((List.range q).flatMap fun i => [Ph.evI l m i, Ph.odI l m i])) ∧ Below wa.heap.size wa wr) (fun _ i _ => m - (intOf i).toNat)
      case atStart => exact ⟨0, none, 0, Nat.zero_le _, rfl, rfl, own_nil _ _ _, Below.refl _ _⟩
      case round =>
        obtain ⟨q, A5, c5, hq, rfl, rfl, hown2, hbw2⟩ := hrel
        have HO2 := Lib.hid hown2
        have HB2 := Lib.hid hbw2
        clear hown2 hbw2
        by_cases hlt : q < m
        · have hnx := Ph.nxt_lt hlt
          obtain ⟨b, off, rfl, hbL, hc1⟩ := hL.out.at_ (k := m + q) (by omega)
          obtain ⟨b4, o4, rfl, hbE, hc2⟩ := hE.out.at_ (k := q) hlt
          obtain ⟨b', off', hA', _, hc3⟩ := hE.out.at_ (k := Ph.nxt m q) hnx
          obtain ⟨rfl, rfl⟩ : b4 = b' ∧ o4 = off' := by simpa using hA'
          have b1 := hbnd.out (m + q)
          have b2 := hevb.out q
          have b3 := hevb.out (Ph.nxt m q)
          rw [Ph.getD_map_range _ _ _ hlt] at hc2
          rw [Ph.getD_map_range _ _ _ hnx] at hc3
          obtain ⟨x, hx⟩ : ∃ x, x = l.getD (m + q) 0 := ⟨_, rfl⟩
          obtain ⟨y, hy⟩ : ∃ y, y = Ph.evI l m q := ⟨_, rfl⟩
          obtain ⟨z, hz⟩ : ∃ z, z = Ph.evI l m (Ph.nxt m q) := ⟨_, rfl⟩
          rw [← hx] at hc1 b1
          rw [← hy] at hc2 b2
          rw [← hz] at hc3 b3
          have hd : Hid (Ph.odI l m q = x + (y + z) / 2 ∧ Ph.evI l m q = y) := Lib.hid (by unfold Ph.odI; rw [← hx, ← hy, ← hz]; exact ⟨rfl, rfl⟩)
          have hbL' : b < wa.heap.size := Nat.lt_of_lt_of_le hbL HBW.out.size
          have d1 : wr.cell? ⟨b, off + (m + q), none⟩ = some (.int .i64 x) := (HB2.out.cell hbL').trans hc1
          have d2 : wr.cell? ⟨b4, o4 + q, none⟩ = some (.int .i64 y) := (HB2.out.cell hbE).trans hc2
          have d3 : wr.cell? ⟨b4, o4 + Ph.nxt m q, none⟩ = some (.int .i64 z) := (HB2.out.cell hbE).trans hc3
          have K1 := Lib.hid (And.intro hbL' hc1)
          have K2 := Lib.hid (And.intro hbE hc2)
          obtain ⟨N, hN⟩ : ∃ N, N = Ph.nxt m q := ⟨_, rfl⟩
          have hN2 : (q + 1 < m ∧ N = q + 1) ∨ (¬ q + 1 < m ∧ N = q) := by
            rw [hN]; unfold Ph.nxt
            by_cases hq : q + 1 < m
            · left; exact ⟨hq, if_pos hq⟩
            · right; exact ⟨hq, by rw [if_neg hq]; omega⟩
          rw [← hN] at d3
          have k5 : IntKind.i64.wrap (y + z) = y + z := IntWalk.i64_in _ (by omega)
          have j1 : IntKind.i64.wrap ((m : Int) + (q : Int)) = (m : Int) + (q : Int) := IntWalk.i64_in _ (by omega)
          have j2 : ((m : Int) + (q : Int)).toNat = m + q := by omega
          have j3 : (0 : Int) ≤ (m : Int) + (q : Int) := by omega
          have j4 : (m : Int) + (q : Int) < 2 * (m : Int) := by omega
          have hGb : -10000 ≤ (y + z) / 2 ∧ (y + z) / 2 ≤ 10000 := by omega
          have HD : Hid (∀ W, Calls Tryz.prog 118 #[.int .i64 (y + z), .int .i64 2] W fun e w' => e = .returned (.int .i64 ((y + z) / 2)) ∧ w' = W) := Lib.hid fun W => rdown2 (y + z) W (by omega)
          obtain ⟨G, hG⟩ : ∃ G, G = (y + z) / 2 := ⟨_, rfl⟩
          rw [← hG] at HD hd hGb
          have k8 : IntKind.i64.wrap (x + G) = x + G := IntWalk.i64_in _ (by omega)
          clear hx hy hz hG hA' hc1 hc2 hc3 hbL hbL' hbE hN hnx
          rcases hN2 with ⟨hq, hNe⟩ | ⟨hq, hNe⟩
          · subst hNe
            have i1 : (q : Int) + 1 < (m : Int) := by omega
            have i2 : ((q : Int) + 1).toNat = q + 1 := by omega
            have i3 : (0 : Int) ≤ (q : Int) + 1 := by omega
            go_wp2_with fail
            go_quiet ((go_at_call 118; exact Calls.quiet_of_same (HD.out _)))
            clear k5
            go_wp2_with fail
            go_region_held3 (fun w' => w'.cell? ⟨b4, o4 + q, none⟩ = some (.int .i64 y) ∧ w'.cell? ⟨b, off + (m + q), none⟩ = some (.int .i64 x)) (first | go_keep | exact ⟨(hb4.cell K2.out.1).trans K2.out.2, (hb4.cell K1.out.1).trans K1.out.2⟩) ((refine step_push2 _ (by rfl) _ _ (by rfl) wa wa.heap.size A5 (2 * q) c5 ((List.range q).flatMap fun i => [Ph.evI l m i, Ph.odI l m i]) y (x + G) wr.heap.size (by exact HO2.out.alloc (.cells #[.int .i64 y, .int .i64 (x + G)] 3)) (below_same (HB2.out.alloc HB2.out.size (.cells #[.int .i64 y, .int .i64 (x + G)] 3)) (by rfl) (by rfl) (by rfl) (by rfl)) (by have := HB2.out.size; simp; omega) (by exact (cell_of_alloc2 wr _ _ 3).1) (by exact (cell_of_alloc2 wr _ _ 3).2) (by omega) (by rfl) (by rfl) ?_; intro g cap w4 ho4 hb4))
            have HO4 := Lib.hid ho4
            have HB4 := Lib.hid hb4
            clear ho4 hb4 k8 j1
            go_wp2_with fail
            go_roundw
            case rel =>
              refine ⟨q + 1, some ⟨g, 0, none⟩, cap, by omega, by go_num, rfl, ?_, HB4.out⟩
              have := HO4.out
              rw [List.range_succ, List.flatMap_append]
              simp only [List.flatMap_cons, List.flatMap_nil, List.append_nil, hd.out.1, hd.out.2]
              exact this
            case measure => simp [intOf]; omega
          · have hNe2 := hNe.symm
            clear hNe
            subst hNe2
            have hzy : y = z := by rw [d2] at d3; simpa using d3
            subst hzy
            have i1 : ¬ (q : Int) + 1 < (m : Int) := by omega
            clear d3
            go_wp2_with fail
            go_quiet ((go_at_call 118; exact Calls.quiet_of_same (HD.out _)))
            clear k5
            go_wp2_with fail
            go_region_held3 (fun w' => w'.cell? ⟨b4, o4 + q, none⟩ = some (.int .i64 y) ∧ w'.cell? ⟨b, off + (m + q), none⟩ = some (.int .i64 x)) (first | go_keep | exact ⟨(hb4.cell K2.out.1).trans K2.out.2, (hb4.cell K1.out.1).trans K1.out.2⟩) ((refine step_push2 _ (by rfl) _ _ (by rfl) wa wa.heap.size A5 (2 * q) c5 ((List.range q).flatMap fun i => [Ph.evI l m i, Ph.odI l m i]) y (x + G) wr.heap.size (by exact HO2.out.alloc (.cells #[.int .i64 y, .int .i64 (x + G)] 3)) (below_same (HB2.out.alloc HB2.out.size (.cells #[.int .i64 y, .int .i64 (x + G)] 3)) (by rfl) (by rfl) (by rfl) (by rfl)) (by have := HB2.out.size; simp; omega) (by exact (cell_of_alloc2 wr _ _ 3).1) (by exact (cell_of_alloc2 wr _ _ 3).2) (by omega) (by rfl) (by rfl) ?_; intro g cap w4 ho4 hb4))
            have HO4 := Lib.hid ho4
            have HB4 := Lib.hid hb4
            clear ho4 hb4 k8 j1
            go_wp2_with fail
            go_roundw
            case rel =>
              refine ⟨q + 1, some ⟨g, 0, none⟩, cap, by omega, by go_num, rfl, ?_, HB4.out⟩
              have := HO4.out
              rw [List.range_succ, List.flatMap_append]
              simp only [List.flatMap_cons, List.flatMap_nil, List.append_nil, hd.out.1, hd.out.2]
              exact this
            case measure => simp [intOf]; omega
        · obtain rfl : q = m := by omega
          have hlh : l.length / 2 = q := by rw [HL.out]; omega
          have e9 : Ph.lapI l = (List.range q).flatMap fun i => [Ph.evI l q i, Ph.odI l q i] := by unfold Ph.lapI; rw [hlh]
          have E9 := Lib.hid e9
          clear e9 hlh
          go_wp2_with fail
          go_ret
          refine ⟨A5, c5, rfl, ?_, HBW.out.trans (HB2.out.mono HBW.out.size)⟩
          rw [E9.out]
          exact own_more HO2.out HBW.out.size
theorem runlap_any (A : Option Addr) (n c : Nat) (l : List Int) (w : World) (B : Nat) (h : RdI w B A n l) (hB : B ≤ w.heap.size) (h0 : Ph.lapErr l 4000 = 0) :
    Calls Tryz.prog 78 #[.slice A n c] w fun e w' => ∃ A' c', e = .returned (.slice A' n c') ∧ RdI w' w'.heap.size A' n (Ph.lapI l) ∧ Below w.heap.size w w' := by
  refine (runlap_own A n c l w B h hB h0).mono ?_
  rintro e w' ⟨A', c', rfl, ho, hb'⟩
  exact ⟨A', c', rfl, RdI.own ho, hb'⟩
end Go.Proofs.YtlilommhdjdblaaGreatDoor
