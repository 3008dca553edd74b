/- Walks of a session (chapter 20): words as numbers (run's want.numbers). -/
import Derived.Test.YtjdpgakkphdjlaaGreatDoorRunW
import Derived.Deep.QuietTactic
namespace Go.Proofs.YtjdpgakkphdjlaaGreatDoor
open Go.RowKit

/-- The cells of a want. -/
def wantV (x : Pr.Want) : Value := .agg #[.int .i64 (x.many : Nat), .bool x.more, .int .i64 (x.below : Nat)]
def argsOk (x : Pr.Want) (ws : List (List UInt8)) : Bool := match Pr.argsL x.below 0 ws with
  | none => false
  | some n => Pr.okArgs x n
def bytesL (l : List ByteArray) : List (List UInt8) := l.map (·.data.toList)
/-- Numbers are told, and whether they are what is wanted. -/
def NumsP (x : Pr.Want) (ws : List (List UInt8)) (w : World) (e : Ending) (w' : World) : Prop :=
  ∃ A n c, e = .returned (.tuple #[.slice A n c, .bool (argsOk x ws)]) ∧ (argsOk x ws = true → ∃ ns, Pr.argsL x.below 0 ws = some ns ∧ ns.length = n ∧ w'.ownsRow w.heap.size 3 1 (.slice A n c) n (ivals ns)) ∧ Below w.heap.size w w'
theorem bytesL_take (l : List ByteArray) (k : Nat) : (bytesL l).take k = bytesL (l.take k) := by simp [bytesL]
theorem bytesL_get (l : List ByteArray) {k : Nat} (h : k < l.length) : (bytesL l).getD k [] = (l.getD k ByteArray.empty).data.toList := by
  unfold bytesL
  rw [List.getD_eq_getElem?_getD, List.getElem?_map, List.getD_eq_getElem?_getD, List.getElem?_eq_getElem h]; rfl
theorem take_snoc {α : Type} (l : List α) {k : Nat} (d : α) (h : k < l.length) : l.take (k + 1) = l.take k ++ [l.getD k d] := by
  rw [List.take_add_one, List.getD_eq_getElem?_getD, List.getElem?_eq_getElem h]; rfl
theorem args_take (below : Nat) (ws : List (List UInt8)) {k : Nat} (h : k < ws.length) (ns : List Int) (ha : Pr.argsL below 0 (ws.take k) = some ns) : Pr.argsL below 0 (ws.take (k + 1)) = (Pr.wordL (decide (below ≤ k)) (ws.getD k [])).map fun n => ns ++ [n] := by
  rw [take_snoc ws [] h, Pr.argsL_snoc, ha]
  have : (ws.take k).length = k := by rw [List.length_take]; omega
  rw [this, Nat.zero_add]
  rfl
theorem args_none (below : Nat) (ws : List (List UInt8)) {k : Nat} (h : Pr.argsL below 0 (ws.take k) = none) : Pr.argsL below 0 ws = none := by
  have := Pr.argsL_stop below (ws.take k) (ws.drop k) 0 h
  rwa [List.take_append_drop] at this
set_option maxHeartbeats 4000000 in
set_option maxRecDepth 100000 in
theorem wnumbers_any (x : Pr.Want) (A0 : Option Addr) (n0 c0 : Nat) (ws : List ByteArray) (w : World) (hg : RunG w) (h0 : RdS w w.heap.size A0 n0 ws) (hn : n0 ≤ 100000) (hs : ∀ s ∈ ws, s.size ≤ 100000) (_hx : x.many ≤ 100 ∧ x.below ≤ 100) :
    Calls Tryz.prog 43 #[wantV x, .slice A0 n0 c0] w (NumsP x (bytesL ws) w) := by
  obtain ⟨W1, hW1⟩ : ∃ W1, W1 = w.alloc (.cells #[.int .i64 (x.many : Nat), .bool x.more, .int .i64 (x.below : Nat)] 81) := ⟨_, rfl⟩
  have HB1 : Hid (Below w.heap.size w W1) := Lib.hid (by rw [hW1]; exact below_alloc0 _ _)
  obtain ⟨X, hX⟩ : ∃ X, X = w.heap.size := ⟨_, rfl⟩
  have hbx : W1.heap[X]? = some (.cells #[.int .i64 (x.many : Nat), .bool x.more, .int .i64 (x.below : Nat)] 81 (0, 0)) := by rw [hW1, hX]; exact heap_alloc_new w _
  have hsz : W1.heap.size = X + 1 := by rw [hW1, hX]; simp
  have HC := Lib.hid (And.intro (cell_of_row W1 X 0 _ _ (0, 0) hbx) (And.intro (cell_of_row W1 X 1 _ _ (0, 0) hbx) (cell_of_row W1 X 2 _ _ (0, 0) hbx)))
  have HG := Lib.hid hg
  have H0 := Lib.hid (h0.below HB1.out)
  have HL0 := Lib.hid h0.len
  have HS := Lib.hid hs
  have HXX := Lib.hid hX
  have HSZ := Lib.hid hsz
  have HW1 := Lib.hid hW1
  have HLB : Hid ((bytesL ws).length = n0) := Lib.hid (by unfold bytesL; rw [List.length_map]; exact h0.len)
  obtain ⟨M, hM⟩ : ∃ M, M = x.many := ⟨_, rfl⟩
  obtain ⟨B, hB⟩ : ∃ B, B = x.below := ⟨_, rfl⟩
  obtain ⟨mo, hmo⟩ : ∃ mo, mo = x.more := ⟨_, rfl⟩
  unfold wantV
  rw [← hM, ← hB, ← hmo] at HC HW1 ⊢
  have HM := Lib.hid hM
  have HBE := Lib.hid hB
  have HMO := Lib.hid hmo
  clear hbx hg h0 hs hX hsz hW1 hM hB hmo
  go_enter Tryz.func43, Tryz.ntmps43
  go_wp2_with fail
  rw [← HXX.out, ← HW1.out]
  go_loopw [6, 7, 8, 9, 10, 13] (fun out _ _ _ _ i wr => ∃ (k c' : Nat) (A' : Option Addr) (ns : List Int), k ≤ n0 ∧ i = .int .i64 k ∧ out = .slice A' k c' ∧ Hid (Pr.argsL B 0 ((bytesL ws).take k) = some ns ∧ ns.length = k) ∧ Hid (wr.ownsRow (X + 1) 3 1 (.slice A' k c') k (ivals ns)) ∧ Hid (Below (X + 1) W1 wr)) (fun _ _ _ _ _ i _ => n0 - (intOf i).toNat)
  case atStart => exact ⟨0, 0, none, [], by omega, rfl, rfl, Lib.hid ⟨rfl, rfl⟩, Lib.hid (own_nil _ _ _), Lib.hid (Below.refl _ _)⟩
  case round =>
    obtain ⟨k, c', A', ns, hk, rfl, rfl, HA, HO, HB⟩ := hrel
    have c0 := (HB.out.cell (p := ⟨X, 0, none⟩) (by show X < X + 1; omega)).trans HC.out.1
    have c1 := (HB.out.cell (p := ⟨X, 1, none⟩) (by show X < X + 1; omega)).trans HC.out.2.1
    have c2 := (HB.out.cell (p := ⟨X, 2, none⟩) (by show X < X + 1; omega)).trans HC.out.2.2
    have HBW : Hid (Below w.heap.size w wr) := Lib.hid (HB1.out.trans (HB.out.mono (by have := HXX.out; omega)))
    by_cases hlt : k < n0
    · have hlt' : (k : Int) < (n0 : Int) := by omega
      obtain ⟨b8, o8, hA0, hb8, d8'⟩ := H0.out.at_ hlt
      have d8 := (HB.out.cell (p := ⟨b8, o8 + k, none⟩) (by show b8 < X + 1; have := HXX.out; omega)).trans d8'
      have hmem : ws.getD k ByteArray.empty ∈ ws := by
        have := HL0.out
        rw [List.getD_eq_getElem?_getD, List.getElem?_eq_getElem (by omega)]; exact List.getElem_mem (by omega)
      have hss := HS.out _ hmem
      have hst := args_take B (bytesL ws) (k := k) (by have := HLB.out; omega) ns HA.out.1
      rw [bytesL_get ws (by have := HL0.out; omega)] at hst
      obtain ⟨s, hse⟩ : ∃ s, s = ws.getD k ByteArray.empty := ⟨_, rfl⟩
      rw [← hse] at d8 hss hst
      obtain ⟨b, hbb⟩ : ∃ b, b = decide (B ≤ k) := ⟨_, rfl⟩
      rw [← hbb] at hst
      have hnu := number_any s b wr (HG.out.below HBW.out) hss
      obtain ⟨o, ho⟩ : ∃ o, o = Pr.wordL b s.data.toList := ⟨_, rfl⟩
      rw [← ho] at hst hnu
      have hbz : (b = true ∧ (B : Int) ≤ (k : Int)) ∨ (b = false ∧ ¬ (B : Int) ≤ (k : Int)) := by
        by_cases h : B ≤ k
        · exact .inl ⟨by rw [hbb]; simp [h], by omega⟩
        · exact .inr ⟨by rw [hbb]; simp [h], by omega⟩
      subst hA0
      have hk6 : k + 1 ≤ 17592186044415 := by omega
      clear hmem hss hse hbb d8' hb8 ho
      cases o with
      | none =>
        have hN := args_none B (bytesL ws) (k := k + 1) (by rw [hst]; rfl)
        have HAO : Hid (argsOk x (bytesL ws) = false) := Lib.hid (by unfold argsOk; rw [← HBE.out, hN])
        have HNU : Hid (Calls Tryz.prog 59 #[.string s, .bool b] wr fun e w' => ∃ v, e = .returned (.tuple #[.int .i64 v, .bool false]) ∧ Below wr.heap.size wr w') := Lib.hid (hnu.mono fun e w' h => by obtain ⟨v, h1, _, h2⟩ := h; exact ⟨v, h1, h2⟩)
        clear hN hst hnu
        rcases hbz with ⟨rfl, hbk⟩ | ⟨rfl, hbk⟩
        all_goals
          go_wp2_with fail
          refine HNU.out.mono ?_
          rintro e w2 ⟨v, rfl, hb2⟩
          have HB2 : Hid (Below w.heap.size w w2) := Lib.hid (below_on HBW.out hb2)
          clear hb2 HNU c0 c1 c2 d8
          go_wp2_with fail
          go_ret2
          exact ⟨none, 0, 0, by rw [HAO.out]; rfl, fun h => (by rw [HAO.out] at h; cases h), HB2.out⟩
      | some m =>
        have HA2 : Hid (Pr.argsL B 0 ((bytesL ws).take (k + 1)) = some (ns ++ [m]) ∧ (ns ++ [m]).length = k + 1) := Lib.hid ⟨by rw [hst]; rfl, by rw [List.length_append, List.length_singleton, HA.out.2]⟩
        have HNU : Hid (Calls Tryz.prog 59 #[.string s, .bool b] wr fun e w' => e = .returned (.tuple #[.int .i64 m, .bool true]) ∧ Below wr.heap.size wr w') := Lib.hid (hnu.mono fun e w' h => by
          obtain ⟨v, h1, h3, h2⟩ := h
          have := h3 rfl
          injection this with this
          subst this
          exact ⟨h1, h2⟩)
        clear hst hnu
        rcases hbz with ⟨rfl, hbk⟩ | ⟨rfl, hbk⟩
        all_goals
          go_wp2_with fail
          refine HNU.out.mono ?_
          rintro e w2 ⟨rfl, hb2⟩
          have HB2 : Hid (Below (X + 1) W1 w2) := Lib.hid (HB.out.trans (hb2.mono (by have := HB.out.size; have := HSZ.out; omega)))
          have HO2 := Lib.hid (own_below' HO.out hb2)
          have hX2 : X + 1 ≤ w2.heap.size := by have := HB2.out.size; have := HSZ.out; omega
          clear hb2 HNU c0 c1 c2 d8
          go_wp2_with (at_builtin; refine wpList_push _ (by rfl) _ _ (by rfl) W1 (X + 1) A' k c' ns m HO2.out HB2.out hX2 hk6 (by rfl) (by rfl) ?_; intro g cap w3 ho3 hb3; have HO3 := Lib.hid ho3; have HB3 := Lib.hid hb3; clear ho3 hb3 hX2)
          go_roundw
          case rel => exact ⟨k + 1, cap, some ⟨g, 0, none⟩, ns ++ [m], by omega, by go_num, rfl, HA2, HO3, HB3⟩
          case measure => simp [intOf]; omega
    · obtain rfl : k = n0 := by omega
      have hA := HA.out.1
      rw [List.take_of_length_le (by rw [HLB.out]; omega)] at hA
      have hok : argsOk x (bytesL ws) = (decide (M ≤ k) && (mo || decide (k = M))) := by
        unfold argsOk
        rw [← HBE.out, hA]
        show Pr.okArgs x ns = _
        unfold Pr.okArgs
        rw [← HM.out, ← HMO.out, HA.out.2]
      have HOK := Lib.hid hok
      have hlt' : ¬ (k : Int) < (k : Int) := by omega
      have HFIN : Hid (∀ wz, Below wr.heap.size wr wz → wz.ownsRow w.heap.size 3 1 (.slice A' k c') k (ivals ns) ∧ Below w.heap.size w wz) := Lib.hid fun wz hz => ⟨own_more (own_below' HO.out hz) (by have := HXX.out; omega), below_on HBW.out hz⟩
      have HAA : Hid (Pr.argsL x.below 0 (bytesL ws) = some ns ∧ ns.length = k) := Lib.hid ⟨by rw [← HBE.out]; exact hA, HA.out.2⟩
      clear hA hok hlt HG HS H0 HL0 HLB HA HO HB HBW HB1 HC HXX HSZ HW1 HM HMO HBE hn
      go_upto_region 10 with (fail)
      clear hlt'
      by_cases h1 : M ≤ k
      · have h1' : (M : Int) ≤ (k : Int) := by omega
        cases mo with
        | true =>
          have HQ : Hid (argsOk x (bytesL ws) = true) := Lib.hid (by rw [HOK.out]; simp [h1])
          clear h1 HOK
          go_quiet (fail)
          go_wp2_with fail
          go_ret2
          exact ⟨A', k, c', by rw [HQ.out]; rfl, fun _ => ⟨ns, HAA.out.1, HAA.out.2, (HFIN.out (wr.drewN nq) ⟨rfl, rfl, rfl, Nat.le_refl _, fun _ _ => rfl⟩).1⟩, (HFIN.out (wr.drewN nq) ⟨rfl, rfl, rfl, Nat.le_refl _, fun _ _ => rfl⟩).2⟩
        | false =>
          by_cases h2 : k = M
          · have HQ : Hid (argsOk x (bytesL ws) = true) := Lib.hid (by rw [HOK.out]; simp [h2])
            subst h2
            clear h1 HOK h1'
            have h2' : ((k : Int) == (k : Int)) = true := by simp
            have h1' : (k : Int) ≤ (k : Int) := by omega
            go_quiet (fail)
            go_wp2_with fail
            go_ret2
            exact ⟨A', k, c', by rw [HQ.out]; rfl, fun _ => ⟨ns, HAA.out.1, HAA.out.2, (HFIN.out (wr.drewN nq) ⟨rfl, rfl, rfl, Nat.le_refl _, fun _ _ => rfl⟩).1⟩, (HFIN.out (wr.drewN nq) ⟨rfl, rfl, rfl, Nat.le_refl _, fun _ _ => rfl⟩).2⟩
          · have HQ : Hid (argsOk x (bytesL ws) = false) := Lib.hid (by rw [HOK.out]; simp [h2])
            have h2' : ((k : Int) == (M : Int)) = false := by simp; omega
            clear h1 HOK h2
            go_quiet (fail)
            go_wp2_with fail
            go_ret2
            exact ⟨A', k, c', by rw [HQ.out]; rfl, fun h => (by rw [HQ.out] at h; cases h), (HFIN.out (wr.drewN nq) ⟨rfl, rfl, rfl, Nat.le_refl _, fun _ _ => rfl⟩).2⟩
      · have h1' : ¬ (M : Int) ≤ (k : Int) := by omega
        have HQ : Hid (argsOk x (bytesL ws) = false) := Lib.hid (by rw [HOK.out]; simp [h1])
        have h3 : k < M := by omega
        have h3' : (k : Int) < (M : Int) := by omega
        have h4 : decide (M ≤ k) = false := by simp [h1]
        have h5 : decide ((M : Int) ≤ (k : Int)) = false := by simp [h1]
        clear HOK
        go_region
        go_wp2_with fail
        go_ret2
        exact ⟨A', k, c', by rw [HQ.out]; rfl, fun h => (by rw [HQ.out] at h; cases h), (HFIN.out wr.drew ⟨rfl, rfl, rfl, Nat.le_refl _, fun _ _ => rfl⟩).2⟩
end Go.Proofs.YtjdpgakkphdjlaaGreatDoor
