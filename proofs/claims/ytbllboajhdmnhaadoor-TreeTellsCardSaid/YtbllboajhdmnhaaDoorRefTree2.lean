/- The document's answers, walked (chapter 3): back. -/
import Derived.Test.YtbllboajhdmnhaaDoorRefTree
namespace Go.Proofs.YtbllboajhdmnhaaDoor
open Go.RowKit

/-- Back is told with no fault, or the fault 1. -/
def RBack (o : Option (List Int)) (n : Nat) (w : World) (e : Ending) (w' : World) : Prop :=
  match o with
  | some s => ∃ A' c', e = .returned (.tuple #[.slice A' n c', .int .i64 0]) ∧ RdI w' w'.heap.size A' n s ∧ Below w.heap.size w w'
  | none => e = .returned (.tuple #[.slice none 0 0, .int .i64 1]) ∧ Below w.heap.size w w'
theorem treeI_allIn {V : Nat} {m s : List Int} (h : Ph.treeI V m = some s) (hm : Ph.allIn m 4000 = true) : Ph.allIn s 4000 = true := by
  cases V with
  | zero => simp only [Ph.treeI, Option.some.injEq] at h; rw [← h]; exact hm
  | succ V =>
    unfold Ph.treeI at h
    cases hc : Ph.treeI V (m.take (m.length / 2)) with
    | none => rw [hc] at h; simp at h
    | some t =>
      rw [hc] at h
      simp only at h
      split at h
      · rename_i hq; injection h with h; rw [← h]; exact hq
      · cases h
set_option maxHeartbeats 4000000 in
set_option maxRecDepth 100000 in
theorem rback_any : ∀ (V : Nat) (A : Option Addr) (n c : Nat) (l : List Int) (w : World) (B : Nat), RdI w B A n l → B ≤ w.heap.size → n ≤ c → n ≤ 32 → n % 2 ^ V = 0 → V ≤ 5 → Ph.allIn l 2000 = true →
    Calls Tryd.prog 28 #[.slice A n c, .int .i64 V] w (RBack (Ph.treeI V l) n w)
  | 0, A, n, c, l, w, B, h, hB, _, hn, _, _, _ => by
    have H := Lib.hid (h.more hB)
    clear h
    show Calls Tryd.prog 28 #[.slice A n c, .int .i64 0] w _
    have e0 : Ph.treeI 0 l = some l := rfl
    rw [e0]
    clear e0
    go_enter Tryd.func28, Tryd.ntmps28
    go_wp2_with fail
    go_ret2
    exact ⟨A, c, rfl, H.out, Below.refl _ _⟩
  | V + 1, A, n, c, l, w, B, h, hB, hnc, hn, hm, hV, hin => by
    have hm2 := Ph.mod_two_of hm
    obtain ⟨k, rfl⟩ : ∃ k, n = 2 * k := ⟨n / 2, by omega⟩
    have hbnd : Hid (∀ q, -2000 ≤ l.getD q 0 ∧ l.getD q 0 ≤ 2000) := Lib.hid (Ph.allIn_getD hin (by omega))
    have hl := h.len
    have hlk : l.length / 2 = k := by omega
    have htk : Ph.allIn (l.take k) 2000 = true := Ph.allIn_iff.2 fun x hx => Ph.allIn_iff.1 hin x (List.mem_of_mem_take hx)
    have hk16 : k ≤ 16 := by omega
    have HKM : k % 2 ^ V = 0 := by have := hm2.2; rwa [show 2 * k / 2 = k by omega] at this
    have IH := Lib.hid fun W (hW : RdI W B A k (l.take k)) hBW => rback_any V A k c (l.take k) W B hW hBW (by omega) (by omega) HKM (by omega) htk
    have hT : Ph.treeI (V + 1) l = match Ph.treeI V (l.take k) with
      | none => none
      | some s => if Ph.allIn (Ph.merge s (l.drop k)) 4000 = true then some (Ph.merge s (l.drop k)) else none := by
      rw [Ph.treeI, hlk]
      cases Ph.treeI V (l.take k) <;> rfl
    have hlen := fun s => Ph.treeI_length V (l.take k) s (by rw [List.length_take, Nat.min_eq_left (by omega)]; exact HKM)
    have hall := fun s (hs : Ph.treeI V (l.take k) = some s) => treeI_allIn hs (Ph.allIn_mono htk (by omega))
    have H := Lib.hid h
    have HD := Lib.hid hl
    have hV1 : (((V : Int) + 1) == 0) = false := by simp; omega
    have hdv : (2 * (k : Int)).tdiv 2 = (k : Int) := by rw [Int.tdiv_eq_ediv_of_nonneg (by omega)]; omega
    have hdv2 : (2 * (k : Int)) / 2 = (k : Int) := by omega
    have hk2 : (k : Int) ≤ (c : Int) := by omega
    rw [show ((V + 1 : Nat) : Int) = (V : Int) + 1 from by simp, hT]
    obtain ⟨o, ho⟩ : ∃ o, o = Ph.treeI V (l.take k) := ⟨_, rfl⟩
    rw [← ho] at IH hlen hall ⊢
    clear h hm hm2 hin hl hlk htk HKM hT ho
    cases o with
    | none =>
      simp only
      go_enter Tryd.func28, Tryd.ntmps28
      go_wp2_with fail
      refine (IH.out _ (H.out.take (by omega)) hB).mono ?_
      rintro e w1 ⟨rfl, hb⟩
      have HB1 := Lib.hid hb
      clear hb IH
      go_wp2_with fail
      go_ret2
      exact ⟨rfl, HB1.out⟩
    | some s =>
      have hsl : s.length = k := by have := hlen s rfl; rw [List.length_take, HD.out] at this; omega
      have HSL := Lib.hid hsl
      have hsb : Hid (∀ q, -4000 ≤ s.getD q 0 ∧ s.getD q 0 ≤ 4000) := Lib.hid (Ph.allIn_getD (hall s rfl) (by omega))
      simp only
      obtain ⟨O, hO⟩ : ∃ O, O = (if Ph.allIn (Ph.merge s (l.drop k)) 4000 = true then some (Ph.merge s (l.drop k)) else none) := ⟨_, rfl⟩
      rw [← hO]
      have HOO := Lib.hid hO
      clear hlen hall hsl hO
      go_enter Tryd.func28, Tryd.ntmps28
      go_wp2_with fail
      refine (IH.out _ (H.out.take (by omega)) hB).mono ?_
      rintro e w1 ⟨A1, c1, rfl, hr1, hb⟩
      have HS := Lib.hid hr1
      have HL := Lib.hid (H.out.below (hb.mono hB))
      have HB1 := Lib.hid hb
      have hB1 := Nat.le_trans hB hb.size
      clear hr1 hb IH H
      go_wp2_with fail
      go_loopw [9, 10] (fun s1 i wr => ∃ (q : Nat) (A5 : Option Addr) (c5 : Nat), q ≤ k ∧ i = .int .i64 q ∧ s1 = .slice A5 (2 * q) c5 ∧ wr.ownsRow w1.heap.size 3 1 (.slice A5 (2 * q) c5) (2 * q) (ivals (Ph.merge (s.take q) ((l.drop k).take q))) ∧ Below w1.heap.size w1 wr) (fun _ i _ => k - (intOf i).toNat)
      case atStart => exact ⟨0, none, 0, Nat.zero_le _, rfl, rfl, own_nil _ _ _, Below.refl _ _⟩
      case round =>
        obtain ⟨q, A5, c5, hq, rfl, rfl, hown2, hbw2⟩ := hrel
        rename World => wr
        have HO2 := Lib.hid hown2
        have HB2 := Lib.hid hbw2
        clear hown2 hbw2
        by_cases hlt : q < k
        · obtain ⟨b, off, rfl, hbL, hc1⟩ := HL.out.at_ (k := k + q) (by omega)
          obtain ⟨b4, o4, rfl, hbE, hc2⟩ := HS.out.at_ (k := q) hlt
          have b1 := hbnd.out (k + q)
          have b2 := hsb.out q
          have hd := Lib.hid (merge_take s (l.drop k) q (by rw [HSL.out]; exact hlt) (by rw [List.length_drop, HD.out]; omega))
          have hdr : (l.drop k).getD q 0 = l.getD (k + q) 0 := by rw [List.getD_eq_getElem?_getD, List.getElem?_drop, ← List.getD_eq_getElem?_getD]
          rw [hdr] at hd
          obtain ⟨x, hx⟩ : ∃ x, x = l.getD (k + q) 0 := ⟨_, rfl⟩
          obtain ⟨y, hy⟩ : ∃ y, y = s.getD q 0 := ⟨_, rfl⟩
          rw [← hx] at hc1 b1 hd
          rw [← hy] at hc2 b2 hd
          have hbL' : b < w1.heap.size := Nat.lt_of_lt_of_le hbL hB1
          have d1 : wr.cell? ⟨b, off + (k + q), none⟩ = some (.int .i64 x) := (HB2.out.cell hbL').trans hc1
          have d2 : wr.cell? ⟨b4, o4 + q, none⟩ = some (.int .i64 y) := (HB2.out.cell hbE).trans hc2
          have K1 := Lib.hid (And.intro hbL' hc1)
          have k5 : IntKind.i64.wrap (x + 1) = x + 1 := IntWalk.i64_in _ (by omega)
          have j1 : IntKind.i64.wrap ((k : Int) + (q : Int)) = (k : Int) + (q : Int) := IntWalk.i64_in _ (by omega)
          have j2 : ((k : Int) + (q : Int)).toNat = k + q := by omega
          have j3 : (0 : Int) ≤ (k : Int) + (q : Int) := by omega
          have j4 : (k : Int) + (q : Int) < 2 * (k : Int) := by omega
          have i1 : (q : Int) < (k : Int) := by omega
          have hGb : -2000 ≤ (x + 1) / 2 ∧ (x + 1) / 2 ≤ 2000 := by omega
          have HDn : Hid (∀ W, Calls Tryd.prog 83 #[.int .i64 (x + 1), .int .i64 2] W fun e w' => e = .returned (.int .i64 ((x + 1) / 2)) ∧ w' = W) := Lib.hid fun W => rdown2 (x + 1) W (by omega)
          obtain ⟨G, hG⟩ : ∃ G, G = (x + 1) / 2 := ⟨_, rfl⟩
          rw [← hG] at HDn hd hGb
          have k8 : IntKind.i64.wrap (y + G) = y + G := IntWalk.i64_in _ (by omega)
          clear hx hy hG hc1 hc2 hbL hbL' hbE hdr
          go_wp2_with fail
          go_quiet ((go_at_call 83; exact Calls.quiet_of_same (HDn.out _)))
          obtain ⟨Y, hY⟩ : ∃ Y, Y = y + G := ⟨_, rfl⟩
          have k9 : IntKind.i64.wrap (Y - x) = Y - x := IntWalk.i64_in _ (by omega)
          rw [← hY] at hd ⊢
          clear k5 k8 d2 hY
          go_wp2_with (at_builtin; refine wpList_push2 _ (by rfl) _ _ (by rfl) w1 w1.heap.size A5 (2 * q) c5 (Ph.merge (s.take q) ((l.drop k).take q)) Y (Y - x) (own_drewN HO2.out _) (below_drewN' HB2.out _) HB2.out.size (by omega) (by rfl) (by rfl) ?_; intro g cap w4 ho4 hb4)
          have HO4 := Lib.hid ho4
          have HB4 := Lib.hid hb4
          clear ho4 hb4 k9 j1
          go_wp2_with fail
          go_roundw
          case rel =>
            refine ⟨q + 1, some ⟨g, 0, none⟩, cap, by omega, by go_num, rfl, ?_, HB4.out⟩
            have := HO4.out
            rw [hd.out]
            exact this
          case measure => simp [intOf]; omega
        · obtain rfl : q = k := by omega
          have HM : Hid (Ph.merge (s.take q) ((l.drop q).take q) = Ph.merge s (l.drop q)) := Lib.hid (by rw [List.take_of_length_le (by rw [HSL.out]; omega), List.take_of_length_le (by rw [List.length_drop, HD.out]; omega)])
          have HRD := Lib.hid (RdI.own HO2.out)
          rw [HM.out] at HRD
          have HAL := Lib.hid fun W hW => rall_any A5 (2 * q) c5 (Ph.merge s (l.drop q)) 4000 W wr.heap.size hW (by omega) (by omega)
          have HBW := Lib.hid (HB1.out.trans (HB2.out.mono HB1.out.size))
          obtain ⟨M, hM⟩ : ∃ M, M = Ph.merge s (l.drop q) := ⟨_, rfl⟩
          rw [← hM] at HRD HAL HOO
          clear HM hM HO2 HB2
          cases ha : Ph.allIn M 4000
          · rw [ha] at HAL HOO
            rw [if_neg (by simp)] at HOO
            clear ha
            go_wp2_with fail
            refine (HAL.out _ HRD.out).mono ?_
            rintro e wk ⟨rfl, rfl⟩
            go_wp2_with fail
            go_ret2
            rw [HOO.out]
            exact ⟨rfl, HBW.out⟩
          · rw [ha] at HAL HOO
            rw [if_pos rfl] at HOO
            clear ha
            go_wp2_with fail
            refine (HAL.out _ HRD.out).mono ?_
            rintro e wk ⟨rfl, rfl⟩
            go_wp2_with fail
            go_ret2
            rw [HOO.out]
            exact ⟨A5, c5, rfl, HRD.out, HBW.out⟩
end Go.Proofs.YtbllboajhdmnhaaDoor
