/- Walks: level by level, back (chapter 3). -/
import Derived.Test.YtbllboajhdmnhaaDoorTree
import Derived.StillTailTactics
namespace Go.Proofs.YtbllboajhdmnhaaDoor
open Go.RowKit

theorem clone_any (A : Option Addr) (n c : Nat) (l : List Int) (w : World) (B : Nat) (h : RdI w B A n l) (hn : n ≤ 1000000) :
    Calls Tryd.prog 85 #[.slice A n c] w fun e w' => ∃ A' c', e = .returned (.slice A' n c') ∧ w'.ownsRow w.heap.size 3 1 (.slice A' n c') n (ivals l) ∧ Below w.heap.size w w' := by
  have hl := h.len
  cases A with
  | none =>
    have hn0 : n = 0 := by
      rcases Nat.eq_zero_or_pos n with h0 | h0
      · exact h0
      · obtain ⟨b, off, hA, _⟩ := h.at_ h0; cases hA
    subst hn0
    have hl0 : l = [] := List.length_eq_zero_iff.1 hl
    subst hl0
    refine (Tryd.slices_Clone_int_nil 0 c w).mono ?_
    rintro e w' ⟨rfl, rfl⟩
    exact ⟨none, 0, rfl, own_nil _ _ _, Below.refl _ _⟩
  | some ad =>
    rcases Nat.eq_zero_or_pos n with h0 | h0
    · subst h0
      have hl0 : l = [] := List.length_eq_zero_iff.1 hl
      subst hl0
      refine (Tryd.slices_Clone_int_zero ad c w).mono ?_
      rintro e w' ⟨v, rfl, ho, _, hb⟩
      obtain ⟨A', c', rfl⟩ := own_slice ho
      exact ⟨A', c', rfl, ho, hb⟩
    · obtain ⟨b, off, hA, hb, hcell⟩ := h.2 h0
      have hA2 : ad = ⟨b, off, none⟩ := by injection hA
      subst hA2
      refine (Tryd.slices_Clone_int b off n c l w (by omega) (by omega) (fun j hj => by rw [hcell j (by omega), ivals_get hj])).mono ?_
      rintro e w' ⟨v, rfl, ho, _, hb⟩
      obtain ⟨A', c', rfl⟩ := own_slice ho
      rw [List.take_of_length_le (by omega)] at ho
      exact ⟨A', c', rfl, ho, hb⟩
theorem back_any (s d : Int) (w : World) (hs : -1000000 ≤ s ∧ s ≤ 1000000) (hd : -1000000 ≤ d ∧ d ≤ 1000000) :
    Calls Tryd.prog 88 #[.int .i64 s, .int .i64 d] w fun e w' => e = .returned (.tuple #[.int .i64 (s + (d + 1) / 2), .int .i64 (s + (d + 1) / 2 - d)]) ∧ w' = w := by
  go_enter Tryd.func88, Tryd.ntmps88
  go_wp2_with go_in
  go_ret2
  exact ⟨rfl, rfl⟩
theorem merge_snoc : ∀ (s d : List Int) (x y : Int), s.length = d.length → Ph.merge (s ++ [x]) (d ++ [y]) = Ph.merge s d ++ [x + (y + 1) / 2, x + (y + 1) / 2 - y]
  | [], [], x, y, _ => rfl
  | a :: s, b :: d, x, y, h => by
    simp only [List.cons_append, Ph.merge, merge_snoc s d x y (by simpa using h)]
  | [], _ :: _, _, _, h => by simp at h
  | _ :: _, [], _, _, h => by simp at h
theorem merge_take (s d : List Int) (k : Nat) (h1 : k < s.length) (h2 : k < d.length) :
    Ph.merge (s.take (k + 1)) (d.take (k + 1)) = Ph.merge (s.take k) (d.take k) ++ [s.getD k 0 + (d.getD k 0 + 1) / 2, s.getD k 0 + (d.getD k 0 + 1) / 2 - d.getD k 0] := by
  rw [Ph.take_snoc s k h1, Ph.take_snoc d k h2, merge_snoc _ _ _ _ (by rw [List.length_take, List.length_take]; omega)]
/-- One level more. -/
theorem treeI_step (m s : List Int) (t p : Nat) (hp : 2 * p ≤ m.length) (hs : Ph.treeI t (m.take p) = some s) :
    Ph.treeI (t + 1) (m.take (2 * p)) = if Ph.allIn (Ph.merge s ((m.drop p).take p)) 4000 = true then some (Ph.merge s ((m.drop p).take p)) else none := by
  have hl : (m.take (2 * p)).length / 2 = p := by rw [List.length_take]; omega
  have h1 : (m.take (2 * p)).take p = m.take p := by rw [List.take_take, Nat.min_eq_left (by omega)]
  have h2 : (m.take (2 * p)).drop p = (m.drop p).take p := by rw [List.drop_take]; congr 1; omega
  unfold Ph.treeI
  rw [hl, h1, hs, h2]
/-- One level that fails: all fails. -/
theorem treeI_none : ∀ (v t : Nat) (m : List Int) (p : Nat), 2 ^ v * p = m.length → Ph.treeI t (m.take p) = none → Ph.treeI (v + t) m = none
  | 0, t, m, p, h, hn => by
    rw [List.take_of_length_le (by omega)] at hn
    rw [Nat.zero_add]; exact hn
  | v + 1, t, m, p, h, hn => by
    have h2 : m.length / 2 = 2 ^ v * p := by rw [← h, Nat.pow_succ]; rw [Nat.mul_comm (2 ^ v) 2, Nat.mul_assoc]; omega
    have h3 : (m.take (m.length / 2)).length = 2 ^ v * p := by rw [List.length_take, h2]; rw [Nat.min_eq_left]; rw [← h, Nat.pow_succ, Nat.mul_comm (2 ^ v) 2, Nat.mul_assoc]; omega
    have hle : p ≤ m.length / 2 := by rw [h2]; exact Nat.le_mul_of_pos_left _ (Nat.two_pow_pos v)
    have ih := treeI_none v t (m.take (m.length / 2)) p h3.symm (by rw [List.take_take, Nat.min_eq_left hle]; exact hn)
    rw [show v + 1 + t = (v + t) + 1 by omega]
    unfold Ph.treeI
    rw [ih]
theorem half_pow {n v t u : Nat} (hv : t + (u + 1) = v) (h : n % 2 ^ v = 0) : n / 2 ^ u = 2 * (n / 2 ^ (u + 1)) := by
  have h1 : 2 ^ (u + 1) ∣ n := Nat.dvd_trans (Nat.pow_dvd_pow 2 (by omega)) (Nat.dvd_of_mod_eq_zero h)
  obtain ⟨k, rfl⟩ := h1
  rw [Nat.mul_div_cancel_left _ (Nat.two_pow_pos _), Nat.pow_succ, Nat.mul_assoc, Nat.mul_div_cancel_left _ (Nat.two_pow_pos _)]
theorem pow_part {n v t u : Nat} (hv : t + (u + 1) = v) (h : n % 2 ^ v = 0) : (n / 2 ^ (u + 1)) % 2 ^ t = 0 := by
  obtain ⟨k, rfl⟩ := Nat.dvd_of_mod_eq_zero h
  have e : 2 ^ v = 2 ^ (u + 1) * 2 ^ t := by rw [← Nat.pow_add]; congr 1; omega
  rw [e, Nat.mul_assoc, Nat.mul_div_cancel_left _ (Nat.two_pow_pos _), Nat.mul_mod_right]
/-- Back is told, or that there is none. -/
def ToldTree (T : Nat) (o : Option (List Int)) (n : Nat) (w : World) (e : Ending) (w' : World) : Prop :=
  match o with
  | some l => ∃ A c, e = .returned (.tuple #[.slice A n c, .nilIface]) ∧ w'.ownsRow w.heap.size T 1 (.slice A n c) n (ivals l) ∧ Below w.heap.size w w'
  | none => e = .returned (.tuple #[.slice none 0 0, errV 1]) ∧ Below w.heap.size w w'
set_option maxHeartbeats 2000000 in
theorem tinv_ok (A : Option Addr) (n c v : Nat) (m : List Int) (w : World) (B : Nat) (h : RdI w B A n m) (hB : B ≤ w.heap.size) (h0 : treeErr m v 2000 = 0) :
    Calls Tryd.prog 29 #[.slice A n c, .int .i64 v] w (ToldTree 3 (Ph.treeI v m) n w) := by
  have hs := treeErr_zero.1 h0
  have hl := h.len
  have HK := Lib.hid fun W hW hBW => tcheck_any A n c m v 2000 W B hW hBW (by omega) (by omega)
  rw [h0, errV_zero] at HK
  have HC := Lib.hid fun W hW => clone_any A n c m W B hW (by omega)
  have H := Lib.hid h
  have HL := Lib.hid hl
  have hn32 : n ≤ 32 := by omega
  have hv5 : v ≤ 5 := by omega
  have HD := Lib.hid hs.2.2.2.1
  have HA := Lib.hid hs.2.2.2.2
  clear h hs h0 hl
  go_enter Tryd.func29, Tryd.ntmps29
  go_wp2_with fail
  refine (HK.out _ H.out hB).mono ?_
  rintro e w1 ⟨rfl, hb1⟩
  have H1 := Lib.hid (H.out.below (hb1.mono hB))
  have HB1 := Lib.hid hb1
  clear hb1 HK
  go_wp2_with fail
  refine (HC.out _ H1.out).mono ?_
  rintro e w2 ⟨A', c', rfl, ho, hb2⟩
  have HO := Lib.hid ho
  have HB2' := Lib.hid hb2
  clear ho hb2 HC
  go_wp2_with fail
  go_loopw [1] (fun i wr => ∃ (t u : Nat) (s : List Int), Hid (t + u = v ∧ Ph.treeI t (m.take (n / 2 ^ u)) = some s ∧ Ph.allIn s 4000 = true) ∧ u ≤ 5 ∧ i = .int .i64 u ∧ wr.ownsRow w1.heap.size 3 1 (.slice A' n c') n (ivals (s ++ m.drop (n / 2 ^ u))) ∧ Below w1.heap.size w1 wr) (fun i _ => (intOf i).toNat)
  case atStart =>
    refine ⟨0, v, m.take (n / 2 ^ v), Lib.hid ⟨by omega, rfl, ?_⟩, hv5, rfl, by rw [List.take_append_drop]; exact HO.out, HB2'.out⟩
    rw [Ph.allIn_iff]
    intro x hx
    have := Ph.allIn_iff.1 HA.out x (List.mem_of_mem_take hx)
    omega
  case round =>
    obtain ⟨t, u, s, HT, hu, rfl, hown, hbw⟩ := hrel
    have HO1 := Lib.hid hown
    have HBW := Lib.hid hbw
    clear hown hbw HO HB2'
    rcases Nat.eq_zero_or_pos u with hu0 | hu0
    · subst hu0
      have hT := HT.out
      rw [Nat.pow_zero, Nat.div_one, List.take_of_length_le (by rw [HL.out]; omega)] at hT
      have ht : t = v := by omega
      subst ht
      have HE := Lib.hid hT.2.1
      have hd : m.drop (n / 2 ^ 0) = [] := List.drop_of_length_le (by rw [HL.out]; simp)
      have HDD := Lib.hid hd
      clear hT hd
      go_wp2_with fail
      go_ret2
      rw [HE.out]
      refine ⟨A', c', rfl, ?_, HB1.out.trans (HBW.out.mono HB1.out.size)⟩
      have := HO1.out
      rw [HDD.out, List.append_nil] at this
      exact own_more this HB1.out.size
    · obtain ⟨u, rfl⟩ : ∃ q, u = q + 1 := ⟨u - 1, by omega⟩
      rw [show ((u + 1 : Nat) : Int) = (u : Int) + 1 from by simp]
      have hpw := half_pow (n := n) (v := v) (t := t) (u := u) HT.out.1 (by have := HD.out; rwa [HL.out, Int.toNat_natCast] at this)
      obtain ⟨p, hp⟩ : ∃ p, p = n / 2 ^ (u + 1) := ⟨_, rfl⟩
      have hpn : 2 * p ≤ n := by have := Nat.div_le_self n (2 ^ u); omega
      have hP : (n : Int) / 2 ^ u = 2 * (p : Int) := by
        have e1 : ((n / 2 ^ u : Nat) : Int) = (n : Int) / 2 ^ u := by simp
        rw [← e1, hpw, ← hp]; simp
      rw [← hp] at HT HO1 hpw
      have HPW := Lib.hid hpw
      have HPP := Lib.hid hp
      have hp16 : p ≤ 16 := by omega
      have hsl : s.length = p := by
        have := Ph.treeI_length t (m.take p) s (by
          rw [List.length_take, HL.out, Nat.min_eq_left (by omega), hp]
          exact pow_part HT.out.1 (by have := HD.out; rwa [HL.out, Int.toNat_natCast] at this)) HT.out.2.1
        rw [this, List.length_take, HL.out]; omega
      have HSL := Lib.hid hsl
      clear hpw hp hsl
      go_wp2_with fail
      rename World => wa
      clear hP
      have hg1 : Hid (∀ j, j < n → 0 < n → ∃ g, A' = some ⟨g, 0, none⟩ ∧ g < wa.heap.size ∧ wa.cell? ⟨g, j, none⟩ = some (.int .i64 ((s ++ m.drop p).getD j 0))) := Lib.hid fun j hj hn0 => by
        obtain ⟨g, hA, _, hg⟩ := own_form HO1.out hn0
        have hl := own_len HO1.out
        rw [ivals_length] at hl
        have ho := HO1.out
        rw [hA] at ho
        exact ⟨g, hA, hg, by rw [ho.cellAt j (by omega), ivals_get (by omega)]⟩
      obtain ⟨d, hd⟩ : ∃ d, d = (m.drop p).take p := ⟨_, rfl⟩
      have hdl : d.length = p := by rw [hd, List.length_take, List.length_drop, HL.out]; omega
      have HDL := Lib.hid hdl
      have HDE := Lib.hid hd
      clear hdl hd
      go_loopw [9, 32] (fun x i wr2 => ∃ (q : Nat) (A9 : Option Addr) (c9 : Nat), q ≤ p ∧ i = .int .i64 q ∧ x = .slice A9 (2 * q) c9 ∧ wr2.ownsRow wa.heap.size 3 1 (.slice A9 (2 * q) c9) (2 * q) (ivals (Ph.merge (s.take q) (d.take q))) ∧ Below wa.heap.size wa wr2) (fun _ i _ => p - (intOf i).toNat)
      case atStart => exact ⟨0, none, 0, Nat.zero_le _, rfl, rfl, own_nil _ _ _, Below.refl _ _⟩
      case round =>
        obtain ⟨q, A9, c9, hq, rfl, rfl, hown2, hbw2⟩ := hrel
        have HO2 := Lib.hid hown2
        have HB2 := Lib.hid hbw2
        clear hown2 hbw2
        by_cases hlt : q < p
        · obtain ⟨g, rfl, hgb, hc1⟩ := hg1.out q (by omega) (by omega)
          obtain ⟨g', hA, hgb', hc2⟩ := hg1.out (p + q) (by omega) (by omega)
          obtain rfl : g = g' := by simpa using hA
          have d1 : (s ++ m.drop p).getD q 0 = s.getD q 0 := Ph.getD_left _ _ _ (by rw [HSL.out]; exact hlt)
          have d2 : (s ++ m.drop p).getD (p + q) 0 = d.getD q 0 := by
            rw [Ph.getD_right _ _ _ (by rw [HSL.out]; omega), HSL.out, Nat.add_sub_cancel_left, HDE.out, Ph.getD_take _ _ _ hlt]
          rw [d1] at hc1
          rw [d2] at hc2
          have c1 : wr.cell? ⟨g, q, none⟩ = some (.int .i64 (s.getD q 0)) := (HB2.out.cell hgb).trans hc1
          have c2 : wr.cell? ⟨g, p + q, none⟩ = some (.int .i64 (d.getD q 0)) := (HB2.out.cell hgb).trans hc2
          have b1 := Ph.allIn_getD HT.out.2.2 (by omega) q
          have b2 : -2000 ≤ d.getD q 0 ∧ d.getD q 0 ≤ 2000 := by
            refine Ph.allIn_getD ?_ (by omega) q
            rw [Ph.allIn_iff]
            intro x hx
            rw [HDE.out] at hx
            exact Ph.allIn_iff.1 HA.out x (List.mem_of_mem_drop (List.mem_of_mem_take hx))
          obtain ⟨X, hX⟩ : ∃ X, X = s.getD q 0 := ⟨_, rfl⟩
          obtain ⟨Y, hY⟩ : ∃ Y, Y = d.getD q 0 := ⟨_, rfl⟩
          rw [← hX] at c1 b1
          rw [← hY] at c2 b2
          have HX := Lib.hid hX
          have HY := Lib.hid hY
          have k1 : (q : Int) < (n : Int) := by omega
          have k2 : (p : Int) + (q : Int) < (n : Int) := by omega
          have k3 : IntKind.i64.wrap ((p : Int) + (q : Int)) = (p : Int) + (q : Int) := IntWalk.i64_in _ (by omega)
          have k4 : ((p : Int) + (q : Int)).toNat = p + q := by omega
          have k5 : (0 : Int) ≤ (p : Int) + (q : Int) := by omega
          clear hA d1 d2 hc1 hc2 hX hY
          go_wp2_with fail
          go_quiet ((go_at_call 88; exact Calls.quiet_of_same (back_any X Y _ (by omega) (by omega))))
          clear k3 k4 k5 c1 c2
          go_wp2_with (at_builtin; refine wpList_push2 _ (by rfl) _ _ (by rfl) wa wa.heap.size A9 (2 * q) c9 _ (X + (Y + 1) / 2) (X + (Y + 1) / 2 - Y) (own_drewN HO2.out _) (below_drewN' HB2.out _) (by have := HB2.out.size; simpa using this) (by omega) (by rfl) (by rfl) ?_; intro g2 cap w9 ho2 hb2)
          have HO9 := Lib.hid ho2
          have HB9 := Lib.hid hb2
          clear ho2 hb2
          go_wp2_with fail
          go_roundw
          case rel =>
            refine ⟨q + 1, some ⟨g2, 0, none⟩, cap, by omega, by go_num, by rw [show 2 * (q + 1) = 2 * q + 2 by omega], ?_, HB9.out⟩
            rw [merge_take s d q (by rw [HSL.out]; exact hlt) (by rw [HDL.out]; exact hlt), ← HX.out, ← HY.out, show 2 * (q + 1) = 2 * q + 2 by omega]
            exact HO9.out
          case measure => simp [intOf]; omega
        · obtain rfl : q = p := by omega
          have e1 : s.take q = s := List.take_of_length_le (by rw [HSL.out]; omega)
          have e2 : d.take q = d := List.take_of_length_le (by rw [HDL.out]; omega)
          have HOM : Hid (wr.ownsRow wa.heap.size 3 1 (.slice A9 (2 * q) c9) (2 * q) (ivals (Ph.merge s d))) := Lib.hid (by have := HO2.out; rwa [e1, e2] at this)
          have HAL := Lib.hid (all_any A9 (2 * q) c9 (Ph.merge s d) wr _ (RdI.own HOM.out) (Nat.le_refl _) 4000 (by omega) (by omega))
          have HST := Lib.hid (treeI_step m s t q (by rw [HL.out]; omega) HT.out.2.1)
          have HML : Hid ((Ph.merge s d).length = 2 * q) := Lib.hid (by rw [Ph.merge_length _ _ (by rw [HSL.out, HDL.out])]; first | rw [HSL.out] | rw [HDL.out])
          clear e1 e2 HO2
          go_wp2_with fail
          refine HAL.out.mono ?_
          rintro e w5 ⟨rfl, hb5⟩
          clear HAL
          have HB5 := Lib.hid (below_on HB2.out hb5)
          have HOW := Lib.hid (own_below' HO1.out HB5.out)
          have HRM := Lib.hid ((RdI.own HOM.out).on hb5)
          have HN9 : Hid (A9 = none → c9 = 0) := Lib.hid (own_none HOM.out)
          clear hb5 HOM HB2
          cases hall : Ph.allIn (Ph.merge s d) 4000
          · have hnone : Ph.treeI v m = none := by
              have h1 := HST.out
              rw [← HDE.out, if_neg (by rw [hall]; simp)] at h1
              have h2 := treeI_none u (t + 1) m (2 * q) (by
                rw [HL.out]
                have := HPW.out
                rw [← this]
                exact Nat.mul_div_cancel' (Nat.dvd_trans (Nat.pow_dvd_pow 2 (show u ≤ v by have := HT.out.1; omega)) (Nat.dvd_of_mod_eq_zero (show n % 2 ^ v = 0 by have := HD.out; rwa [HL.out, Int.toNat_natCast] at this)))) h1
              rw [show u + (t + 1) = v by have := HT.out.1; omega] at h2
              exact h2
            have HNN := Lib.hid hnone
            clear hnone hall
            go_wp2_with fail
            go_ret2
            rw [HNN.out]
            exact ⟨ret_two rfl (errV_ne (by omega)).symm, HB1.out.trans ((HBW.out.trans (HB5.out.mono HBW.out.size)).mono HB1.out.size)⟩
          · have HALL := Lib.hid hall
            clear hall
            go_wp2_with (refine wpList_copyI _ (by rfl) (.tmp 60) (.tmp 61) (by rfl) w1 w1.heap.size A' n c' _ A9 (2 * q) c9 (Ph.merge s d) _ HOW.out (HBW.out.trans (HB5.out.mono HBW.out.size)) HRM.out hpn (by rfl) (by rfl) ?_; intro w6 ho6 hb6)
            refine ⟨⟨t + 1, u, Ph.merge s d, Lib.hid ⟨by have := HT.out.1; omega, ?_, HALL.out⟩, by omega, rfl, ?_, hb6⟩, by simp [intOf]⟩
            · have h1 := HST.out
              rw [← HDE.out, if_pos HALL.out] at h1
              rw [HPW.out]; exact h1
            · have e : (s ++ m.drop q).drop (2 * q) = m.drop (2 * q) := by
                rw [List.drop_append, List.drop_of_length_le (by rw [HSL.out]; omega), List.nil_append, HSL.out, List.drop_drop]
                congr 1; omega
              rw [HPW.out, ← e]
              exact ho6
end Go.Proofs.YtbllboajhdmnhaaDoor
