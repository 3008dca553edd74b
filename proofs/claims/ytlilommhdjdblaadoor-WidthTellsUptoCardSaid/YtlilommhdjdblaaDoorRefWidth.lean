/- The reference's Put: numbers in so many bits. -/
import Derived.Test.YtlilommhdjdblaaDoorWidth
namespace Go.Proofs.YtlilommhdjdblaaDoor
open Go.RowKit

set_option maxHeartbeats 4000000 in
set_option maxRecDepth 100000 in
theorem rput_any (A1 A2 : Option Addr) (n1 n2 c1 c2 : Nat) (l ws : List Int) (w : World) (B : Nat) (h1 : RdI w B A1 n1 l) (h2 : RdI w B A2 n2 ws) (hB : B ≤ w.heap.size) (hn : n1 ≤ 2000000) (hn2 : n2 ≤ 100000000000000) :
    Calls Tryd.prog 7 #[.slice A1 n1 c1, .slice A2 n2 c2] w fun e w' => ∃ A n c, e = .returned (.tuple #[.slice A n c, .int .i64 (Ph.putErr l ws)]) ∧ w'.ownsRow w.heap.size 3 1 (.slice A n c) n (ivals (got (Ph.putErr l ws) (Ph.spread l ws))) ∧ Below w.heap.size w w' := by
  by_cases hne : n1 = n2
  · subst hne
    have hll : l.length = ws.length := h1.len.trans h2.len.symm
    have hp0 : Hid (Ph.putErr l ws = if (List.zipWith Ph.goes l ws).all id = true then (if 400 < (Ph.spread l ws).length then 4 else 0) else 1) := Lib.hid (by unfold Ph.putErr; rw [if_neg (by omega)])
    have HGA := Lib.hid (goes_all hll)
    obtain ⟨E, hE⟩ : ∃ E, E = Ph.putErr l ws := ⟨_, rfl⟩
    obtain ⟨SP, hSP⟩ : ∃ SP, SP = Ph.spread l ws := ⟨_, rfl⟩
    have HSPE := Lib.hid hSP
    rw [← hE, ← hSP] at hp0 ⊢
    have H1 := Lib.hid h1
    have H2 := Lib.hid h2
    have HL1 := Lib.hid h1.len
    have HL2 := Lib.hid h2.len
    have hbad : Hid (∀ k, k < n1 → Ph.goes (l.getD k 0) (ws.getD k 0) = false → E = 1) := Lib.hid fun k hk hg => by
      have hno : ¬ (List.zipWith Ph.goes l ws).all id = true := fun h => by
        have := HGA.out.1 h k (by rw [HL1.out]; exact hk)
        rw [hg] at this; cases this
      rw [hp0.out, if_neg hno]
    clear h1 h2 hll hE hSP
    go_enter Tryd.func7, Tryd.ntmps7
    go_wp2_with fail
    go_loopw [6, 7, 8, 9, 10] (fun v i _ _ _ wr => ∃ (k : Nat) (A5 : Option Addr) (c5 : Nat) (o : List Int), k ≤ n1 ∧ i = .int .i64 k ∧ v = .slice A5 o.length c5 ∧ wr.ownsRow w.heap.size 3 1 (.slice A5 o.length c5) o.length (ivals o) ∧ Hid (o ++ Ph.spread (l.drop k) (ws.drop k) = Ph.spread l ws ∧ o.length ≤ 20 * k ∧ ∀ j, j < k → Ph.goes (l.getD j 0) (ws.getD j 0) = true) ∧ Below w.heap.size w wr) (fun _ i _ _ _ _ => n1 - (intOf i).toNat)
    case atStart => exact ⟨0, none, 0, [], Nat.zero_le _, rfl, rfl, own_nil _ _ _, Lib.hid ⟨rfl, by simp, fun j hj => by omega⟩, Below.refl _ _⟩
    case round =>
      obtain ⟨k, A5, c5, o, hk, rfl, rfl, hown, HE, hbw⟩ := hrel
      have HO := Lib.hid hown
      have HBW := Lib.hid hbw
      clear hown hbw
      by_cases hlt : k < n1
      · obtain ⟨b1, o1, rfl, _, hc1⟩ := (H1.out.below (HBW.out.mono hB)).at_ hlt
        obtain ⟨b2, o2, rfl, _, hc2⟩ := (H2.out.below (HBW.out.mono hB)).at_ hlt
        have hd := spread_drop l ws k (by rw [HL1.out]; exact hlt) (by rw [HL2.out]; exact hlt)
        have hbk := hbad.out k hlt
        have HEK := HE.out
        obtain ⟨x, hxe⟩ : ∃ x, x = l.getD k 0 := ⟨_, rfl⟩
        obtain ⟨y, hye⟩ : ∃ y, y = ws.getD k 0 := ⟨_, rfl⟩
        rw [← hxe] at hc1 hd hbk
        rw [← hye] at hc2 hd hbk
        have HGE : Hid (∀ j, j < k + 1 → Ph.goes x y = true → Ph.goes (l.getD j 0) (ws.getD j 0) = true) := Lib.hid fun j hj hg => by
          by_cases h : j < k
          · exact HEK.2.2 j h
          · obtain rfl : j = k := by omega
            rw [← hxe, ← hye]; exact hg
        have HBK := Lib.hid hbk
        have HD := Lib.hid hd
        have hlt' : (k : Int) < (n1 : Int) := by omega
        clear hxe hye hd hbk HEK
        by_cases hw : 0 ≤ y ∧ y ≤ 20 ∧ 0 ≤ x
        · obtain ⟨X, rfl⟩ := Int.eq_ofNat_of_zero_le hw.2.2
          obtain ⟨Y, rfl⟩ := Int.eq_ofNat_of_zero_le hw.1
          have hY : Y ≤ 20 := by omega
          have t1 : ¬ (Y : Int) < 0 := by omega
          have t2 : ¬ (20 : Int) < (Y : Int) := by omega
          have t3 : ¬ (X : Int) < 0 := by omega
          clear hw
          go_wp2_with fail
          go_loop [8, 9] (fun p b => ∃ q : Nat, q ≤ Y ∧ p = .int .i64 ((2 ^ q : Nat) : Int) ∧ b = .int .i64 q) (fun _ b => Y - (intOf b).toNat)
          case atStart => exact ⟨0, Nat.zero_le _, rfl, rfl⟩
          case round =>
            obtain ⟨q, hq, rfl, rfl⟩ := hrel
            have hP20 : 2 ^ q ≤ 2 ^ 20 := Nat.pow_le_pow_right (by omega) (by omega)
            by_cases hqy : q < Y
            · have hs : 2 ^ (q + 1) = 2 * 2 ^ q := by rw [Nat.pow_succ, Nat.mul_comm]
              obtain ⟨P, hP⟩ : ∃ P, P = 2 ^ q := ⟨_, rfl⟩
              rw [← hP] at hs hP20 ⊢
              have HS := Lib.hid hs
              have k1 : IntKind.i64.wrap (2 * (P : Int)) = 2 * (P : Int) := IntWalk.i64_in _ (by omega)
              have hqy' : (q : Int) < (Y : Int) := by omega
              clear hP hs
              go_wp2_with fail
              go_round
              case rel => exact ⟨q + 1, by omega, by rw [HS.out]; go_num, by go_num⟩
              case measure => simp [intOf]; omega
            · obtain rfl : q = Y := by omega
              have hpow : Hid (((2 : Int) ^ q) = ((2 ^ q : Nat) : Int)) := Lib.hid (by push_cast; rfl)
              obtain ⟨P, hP⟩ : ∃ P, P = 2 ^ q := ⟨_, rfl⟩
              rw [← hP] at hP20 hpow ⊢
              have HP := Lib.hid hP
              have HP20 := Lib.hid hP20
              have hg1 : Hid (X < P → Ph.goes X q = true) := Lib.hid fun h => by
                unfold Ph.goes
                rw [Int.toNat_natCast, hpow.out]
                simp
                omega
              have hg2 : Hid (¬ X < P → Ph.goes X q = false) := Lib.hid fun h => by
                unfold Ph.goes
                rw [Int.toNat_natCast, hpow.out]
                simp
                omega
              clear hP hpow hP20
              by_cases hx : X < P
              · have hgo := hg1.out hx
                have hEo := HE.out
                rw [HD.out] at hEo
                simp only [Int.toNat_natCast] at hEo
                have HO3 := Lib.hid hEo
                have hx' : ¬ (P : Int) ≤ (X : Int) := by omega
                have HGO := Lib.hid hgo
                have HXP := Lib.hid hx
                have HOL : Hid (o.length ≤ 40000000) := Lib.hid (by have := hEo.2.1; omega)
                clear hgo hEo hg1 hg2 HBK HD HE hx
                go_wp2_with fail
                go_loopw [6, 8, 10] (fun v p nn wr3 => ∃ (u R : Nat) (A6 : Option Addr) (c6 : Nat) (o2 : List Int), u ≤ q ∧ p = .int .i64 ((2 ^ u : Nat) : Int) ∧ nn = .int .i64 (R : Int) ∧ v = .slice A6 o2.length c6 ∧ Hid (R < 2 ^ u ∧ o2 ++ (Ph.bitsW u R ++ Ph.spread (l.drop (k + 1)) (ws.drop (k + 1))) = Ph.spread l ws ∧ o2.length + u ≤ o.length + q) ∧ Hid (wr3.ownsRow w.heap.size 3 1 (.slice A6 o2.length c6) o2.length (ivals o2)) ∧ Hid (Below w.heap.size w wr3)) (fun _ p _ _ => (intOf p).toNat)
                case atStart => exact ⟨q, X, A5, c5, o, Nat.le_refl _, by rw [← HP.out], rfl, rfl, Lib.hid ⟨by rw [← HP.out]; exact HXP.out, HO3.out.1, Nat.le_refl _⟩, HO, HBW⟩
                case round =>
                  obtain ⟨u, R, A6, c6, o2, hu, rfl, rfl, rfl, HR, HO2, HB2⟩ := hrel
                  cases u with
                  | zero =>
                    go_wp2_with fail
                    go_roundw
                    case rel => exact ⟨k + 1, A6, c6, o2, by omega, by go_num, rfl, HO2.out, Lib.hid ⟨by have := HR.out.2.1; simpa [Ph.bitsW] using this, by have := HR.out.2.2; have := HO3.out.2.1; omega, fun j hj => HGE.out j hj HGO.out⟩, HB2.out⟩
                    case measure => simp [intOf]; omega
                  | succ u =>
                    have hP1 : 2 ^ (u + 1) = 2 * 2 ^ u := by rw [Nat.pow_succ, Nat.mul_comm]
                    have hPb : 2 ^ (u + 1) ≤ 2 ^ 20 := Nat.pow_le_pow_right (by omega) (by omega)
                    have hP0 := Nat.two_pow_pos u
                    have hHR := HR.out
                    have hbm := Ph.bitsW_mod u R
                    have hsp := hHR.2.1
                    simp only [Ph.bitsW] at hsp
                    rw [← hbm] at hsp
                    obtain ⟨P2, hP2⟩ : ∃ P, P = 2 ^ u := ⟨_, rfl⟩
                    obtain ⟨P1, hP1'⟩ : ∃ P, P = 2 ^ (u + 1) := ⟨_, rfl⟩
                    have hRP : R < 2 * P2 := by rw [hP2, ← hP1]; exact hHR.1
                    rw [← hP1', ← hP2] at hP1
                    rw [← hP1'] at hPb ⊢
                    rw [← hP2] at hP0 hsp
                    have hVV : R / P2 % 2 = R / P2 := Nat.mod_eq_of_lt (Nat.div_lt_of_lt_mul (by omega))
                    rw [hVV] at hsp
                    have hml := Nat.mod_lt R hP0
                    have m1 : R / P2 ≤ R := Nat.div_le_self _ _
                    have k1 : ((R : Int)).tdiv (P2 : Int) = ((R / P2 : Nat) : Int) := by rw [Int.tdiv_eq_ediv_of_nonneg (by omega)]; rfl
                    have k2 : ((R : Int)).tmod (P2 : Int) = ((R % P2 : Nat) : Int) := by rw [Int.tmod_eq_emod_of_nonneg (by omega)]; rfl
                    have x1 : ((P1 : Int)).tdiv 2 = (P2 : Int) := by rw [Int.tdiv_eq_ediv_of_nonneg (by omega)]; omega
                    have x2 : (P1 : Int) / 2 = (P2 : Int) := by omega
                    have hol : o2.length ≤ 50000000 := by have := hHR.2.2; have := HOL.out; omega
                    obtain ⟨V, hV⟩ : ∃ V, V = R / P2 := ⟨_, rfl⟩
                    obtain ⟨M, hM⟩ : ∃ M, M = R % P2 := ⟨_, rfl⟩
                    rw [← hV] at k1 m1 hsp
                    rw [← hM] at k2 hml hsp
                    have HSP : Hid (o2 ++ [(V : Int)] ++ (Ph.bitsW u M ++ Ph.spread (l.drop (k + 1)) (ws.drop (k + 1))) = Ph.spread l ws) := Lib.hid (by rw [← hsp]; simp)
                    have HML := Lib.hid hml
                    have HP2 := Lib.hid hP2
                    have z3 : IntKind.i64.wrap (V : Int) = (V : Int) := IntWalk.i64_in _ (by omega)
                    have k7 : ¬ (P2 : Int) = 0 := by omega
                    have g1 : (1 : Int) < (P1 : Int) := by omega
                    have HQ := Lib.hid hHR.2.2
                    clear hP1 hP1' hbm hsp hVV hV hM hml hP2 hHR
                    go_wp2_with (at_builtin; refine wpList_push _ (by rfl) _ _ (by rfl) w w.heap.size A6 o2.length c6 _ (V : Int) HO2.out HB2.out HB2.out.size (by omega) (by rfl) (by rfl) ?_; intro g cap w2 ho2 hb2)
                    have HO5 := Lib.hid ho2
                    have HB5 := Lib.hid hb2
                    clear ho2 hb2
                    go_wp2_with fail
                    go_roundw
                    case rel =>
                      refine ⟨u, M, some ⟨g, 0, none⟩, cap, o2 ++ [(V : Int)], by omega, by rw [← HP2.out], rfl, by simp, Lib.hid ⟨by rw [← HP2.out]; exact HML.out, HSP.out, by have := HQ.out; simp; omega⟩, ?_, HB5⟩
                      have := HO5.out
                      exact Lib.hid (by simpa using this)
                    case measure => simp [intOf]; omega
              · have hx' : (P : Int) ≤ (X : Int) := by omega
                have e1 := HBK.out (hg2.out hx)
                subst e1
                clear hg1 hg2 hx HBK HD HE
                go_wp2_with fail
                go_ret2
                exact ⟨none, 0, 0, rfl, by rw [got_ne (by omega)]; exact own_nil _ _ _, HBW.out⟩
        · have e1 := HBK.out (by unfold Ph.goes; simp; omega)
          subst e1
          have hc : y < 0 ∨ (¬ y < 0 ∧ 20 < y) ∨ (¬ y < 0 ∧ ¬ 20 < y ∧ x < 0) := by omega
          clear hw
          rcases hc with q1 | ⟨q1, q2⟩ | ⟨q1, q2, q3⟩
          all_goals
            go_wp2_with fail
            go_ret2
            exact ⟨none, 0, 0, rfl, by rw [got_ne (by omega)]; exact own_nil _ _ _, HBW.out⟩
      · obtain rfl : k = n1 := by omega
        have hall := HGA.out.2 (by rw [HL1.out]; exact HE.out.2.2)
        have hp := hp0.out
        rw [if_pos hall] at hp
        have ho : SP = o := by
          have := HE.out.1
          rw [List.drop_of_length_le (by rw [HL1.out]; omega)] at this
          rw [HSPE.out]
          simpa [Ph.spread] using this.symm
        subst ho
        have hol : SP.length ≤ 40000000 := by have := HE.out.2.1; omega
        clear hall hbad
        by_cases h4 : 400 < SP.length
        · rw [if_pos h4] at hp
          subst hp
          go_wp2_with fail
          go_ret2
          exact ⟨none, 0, 0, rfl, by rw [got_ne (by omega)]; exact own_nil _ _ _, HBW.out⟩
        · rw [if_neg h4] at hp
          subst hp
          go_wp2_with fail
          go_ret2
          exact ⟨A5, SP.length, c5, rfl, by rw [got_zero]; exact HO.out, HBW.out⟩
  · have hp : Ph.putErr l ws = 3 := by unfold Ph.putErr; rw [if_pos (by rw [h1.len, h2.len]; exact hne)]
    rw [hp, got_ne (by omega)]
    have hne' : ((n1 : Int) != (n2 : Int)) = true := by simp; omega
    clear hp h1 h2
    go_enter Tryd.func7, Tryd.ntmps7
    go_wp2_with fail
    go_ret2
    exact ⟨none, 0, 0, rfl, own_nil _ _ _, Below.refl _ _⟩
end Go.Proofs.YtlilommhdjdblaaDoor
