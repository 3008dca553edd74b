/- The walk of the statement 'RunTank'. -/
import Derived.Test.YtjdpgakkphdjlaaGreatDoorRunR
import Derived.Test.YtjdpgakkphdjlaaGreatDoorRefRun
import Derived.Deep.QuietTactic
namespace Go.Proofs.YtjdpgakkphdjlaaGreatDoor
open Go.RowKit

theorem tank_low : strL (Pr.runL (⟨#[116, 117, 114, 110, 32, 49, 48, 49, 10]⟩ : ByteArray).data.toList) = ⟨#[69, 114, 114, 76, 111, 119, 10]⟩ := by
  rw [show (⟨#[116, 117, 114, 110, 32, 49, 48, 49, 10]⟩ : ByteArray).data.toList = [116, 117, 114, 110, 32, 49, 48, 49, 10] from rfl, Pr.run_low]
  rfl
theorem runL_few (t : List UInt8) (h : t.length ≤ 3000) : (Pr.runL t).length ≤ 201 * t.length := by
  unfold Pr.runL
  rw [if_neg (by omega), Pr.raw_lines t.length t (Nat.le_refl _)]
  have h1 := runLs_short ((Pr.rawL t).map Pr.trimL) Pr.tank0 tank0_ok
  have h2 := Pr.rawL_len t
  rw [List.length_map] at h1
  omega
theorem bytesL_back {ws : List ByteArray} {l : List (List UInt8)} (h : bytesL ws = l) : ws = l.map strL := by
  rw [← h]
  unfold bytesL
  rw [List.map_map]
  conv => lhs; rw [← List.map_id ws]
  apply List.map_congr_left
  intro x _
  exact (strL_data x).symm
theorem tank_text (x y : Nat) (_hx : x ≤ 100) (_hy : y ≤ 100) : ((⟨#[116, 117, 114, 110, 32]⟩ : ByteArray) ++ strL (Lib.decDigits x) ++ ⟨#[10, 109, 97, 121, 10, 116, 117, 114, 110, 32]⟩ ++ strL (Lib.decDigits y) ++ ⟨#[10]⟩).data.toList = Pr.wTurn ++ 32 :: (Lib.decDigits x ++ 10 :: (Pr.wMay ++ 10 :: (Pr.wTurn ++ 32 :: (Lib.decDigits y ++ [10])))) := by
  simp [strL, Pr.wTurn, Pr.wMay]
/-- What is cut out of the answers. -/
theorem tank_cut (x y P : Nat) (hx : x ≤ 100) (hy : y ≤ 100) (hP : P = if 120 - x < 100 then 120 - x else 100) (w : World) :
    Calls Tryz.prog 7 #[.string (strL (Pr.runL (((⟨#[116, 117, 114, 110, 32]⟩ : ByteArray) ++ strL (Lib.decDigits x) ++ ⟨#[10, 109, 97, 121, 10, 116, 117, 114, 110, 32]⟩ ++ strL (Lib.decDigits y) ++ ⟨#[10]⟩).data.toList))), .int .u8 10] w
      (SplitP [Lib.decDigits (100 - x), Lib.decDigits P, if y ≤ P then Lib.decDigits (P - y) else Pr.nameL 8, []] w) := by
  have h1 := Pr.dec_few (u := x) (k := 2) (by omega)
  have h2 := Pr.dec_few (u := y) (k := 2) (by omega)
  rw [tank_text x y hx hy]
  have hl : (Pr.wTurn ++ 32 :: (Lib.decDigits x ++ 10 :: (Pr.wMay ++ 10 :: (Pr.wTurn ++ 32 :: (Lib.decDigits y ++ [10]))))).length ≤ 30 := by
    simp [Pr.wTurn, Pr.wMay]
    omega
  have hf := runL_few _ (by omega : (Pr.wTurn ++ 32 :: (Lib.decDigits x ++ 10 :: (Pr.wMay ++ 10 :: (Pr.wTurn ++ 32 :: (Lib.decDigits y ++ [10]))))).length ≤ 3000)
  have ht := Pr.run_tank x y hx hy
  obtain ⟨R, hR⟩ : ∃ R, R = Pr.runL (Pr.wTurn ++ 32 :: (Lib.decDigits x ++ 10 :: (Pr.wMay ++ 10 :: (Pr.wTurn ++ 32 :: (Lib.decDigits y ++ [10]))))) := ⟨_, rfl⟩
  rw [← hR] at hf ht ⊢
  have h := rcut_any (strL R) 10 w (by rw [strL_size]; omega)
  rw [show (strL R).data.toList = R from by simp [strL], ht] at h
  have e1 : Lib.itoa (100 - (x : Int)) = Lib.decDigits (100 - x) := by rw [← Pr.itoa_nat]; congr 1; omega
  have eP : (if 120 - (x : Int) < 100 then 120 - (x : Int) else 100) = (P : Int) := by rw [hP]; split <;> split <;> omega
  rw [eP, e1, Pr.itoa_nat] at h
  have e3 : (if (y : Int) ≤ (P : Int) then Lib.itoa ((P : Int) - (y : Int)) else Pr.nameL 8) = (if y ≤ P then Lib.decDigits (P - y) else Pr.nameL 8) := by
    by_cases hyp : y ≤ P
    · rw [if_pos (by omega), if_pos hyp, ← Pr.itoa_nat]; congr 1; omega
    · rw [if_neg (by omega), if_neg hyp]
  rw [e3] at h
  exact h
def digZ (z : Int) : ByteArray := strL (Lib.decDigits z.toNat)
theorem rdigZ (z : Int) (w : World) (h : 0 ≤ z ∧ z ≤ 1000000000000000000) : Calls Tryz.prog 9 #[.int .i64 z] w fun e w' => e = .returned (.string (digZ z)) ∧ w' = w := by
  have h1 := rdigits z.toNat w (by omega)
  rwa [Int.toNat_of_nonneg h.1] at h1
set_option maxHeartbeats 4000000 in
set_option maxRecDepth 100000 in
theorem runTank_walk (w : World) (a b : Int) (hg : RunG w) :
    Calls Tryz.prog 5 #[.int .i64 a, .int .i64 b] w fun e w' => e = .returned (.bool true) ∧ Below w.heap.size w w' := by
  have HL : Hid (Calls Tryz.prog 6 #[.string ⟨#[116, 117, 114, 110, 32, 49, 48, 49, 10]⟩] w fun e w' => e = .returned (.string ⟨#[69, 114, 114, 76, 111, 119, 10]⟩) ∧ Below w.heap.size w w') := Lib.hid (by
    have h := run_any ⟨#[116, 117, 114, 110, 32, 49, 48, 49, 10]⟩ w hg
    rwa [tank_low] at h)
  have HG := Lib.hid hg
  clear hg
  by_cases a0 : a < 0
  · clear HG
    go_enter Tryz.func5, Tryz.ntmps5
    go_wp2_with fail
    refine HL.out.mono ?_
    rintro e w1 ⟨rfl, hb1⟩
    have HB1 := Lib.hid hb1
    clear hb1 HL
    go_wp2_with fail
    go_ret
    exact ⟨rfl, HB1.out⟩
  · by_cases a1 : 100 < a
    · clear HG
      go_enter Tryz.func5, Tryz.ntmps5
      go_wp2_with fail
      refine HL.out.mono ?_
      rintro e w1 ⟨rfl, hb1⟩
      have HB1 := Lib.hid hb1
      clear hb1 HL
      go_wp2_with fail
      go_ret
      exact ⟨rfl, HB1.out⟩
    · by_cases b0 : b < 0
      · clear HG
        go_enter Tryz.func5, Tryz.ntmps5
        go_wp2_with fail
        refine HL.out.mono ?_
        rintro e w1 ⟨rfl, hb1⟩
        have HB1 := Lib.hid hb1
        clear hb1 HL
        go_wp2_with fail
        go_ret
        exact ⟨rfl, HB1.out⟩
      · by_cases b1 : 100 < b
        · clear HG
          go_enter Tryz.func5, Tryz.ntmps5
          go_wp2_with fail
          refine HL.out.mono ?_
          rintro e w1 ⟨rfl, hb1⟩
          have HB1 := Lib.hid hb1
          clear hb1 HL
          go_wp2_with fail
          go_ret
          exact ⟨rfl, HB1.out⟩
        · obtain ⟨x, rfl⟩ := Int.eq_ofNat_of_zero_le (show 0 ≤ a by omega)
          obtain ⟨y, rfl⟩ := Int.eq_ofNat_of_zero_le (show 0 ≤ b by omega)
          have hx : x ≤ 100 := by omega
          have hy : y ≤ 100 := by omega
          clear HL
          have HD := Lib.hid fun (n : Nat) W (hn : n ≤ 1000000000000000000) => rdigits n W hn
          obtain ⟨P, hP⟩ : ∃ P, P = if 120 - x < 100 then 120 - x else 100 := ⟨_, rfl⟩
          have hPb : P ≤ 100 := by rw [hP]; split <;> omega
          have HC := Lib.hid fun W => tank_cut x y P hx hy hP W
          have HR := Lib.hid fun W hW => run_any ((⟨#[116, 117, 114, 110, 32]⟩ : ByteArray) ++ strL (Lib.decDigits x) ++ ⟨#[10, 109, 97, 121, 10, 116, 117, 114, 110, 32]⟩ ++ strL (Lib.decDigits y) ++ ⟨#[10]⟩) W hW
          have z1 := Pr.dec_few (u := x) (k := 2) (by omega)
          have z2 := Pr.dec_few (u := y) (k := 2) (by omega)
          obtain ⟨S1, hS1⟩ : ∃ S, S = strL (Lib.decDigits x) := ⟨_, rfl⟩
          obtain ⟨S2, hS2⟩ : ∃ S, S = strL (Lib.decDigits y) := ⟨_, rfl⟩
          have HX := Lib.hid (HD.out x w (by omega))
          have HY := Lib.hid fun W => HD.out y W (by omega)
          rw [← hS1] at HX HC HR
          rw [← hS2] at HY HC HR
          obtain ⟨O, hO⟩ : ∃ O, O = strL (Pr.runL (((⟨#[116, 117, 114, 110, 32]⟩ : ByteArray) ++ S1 ++ ⟨#[10, 109, 97, 121, 10, 116, 117, 114, 110, 32]⟩ ++ S2 ++ ⟨#[10]⟩).data.toList)) := ⟨_, rfl⟩
          rw [← hO] at HC HR
          have s1 : S1.size ≤ 3 := by rw [hS1, strL_size]; exact z1
          have s2 : S2.size ≤ 3 := by rw [hS2, strL_size]; exact z2
          obtain ⟨L, hL⟩ : ∃ L, L = 100 - x := ⟨_, rfl⟩
          obtain ⟨K, hK⟩ : ∃ K, K = 120 - x := ⟨_, rfl⟩
          rw [← hL] at HC
          have k1 : IntKind.i64.wrap (100 - (x : Int)) = (L : Int) := by rw [IntWalk.i64_in _ (by omega)]; omega
          have k2 : IntKind.i64.wrap ((L : Int) + 20) = (K : Int) := by rw [IntWalk.i64_in _ (by omega)]; omega
          have HDZ := Lib.hid fun (z : Int) W (h : 0 ≤ z ∧ z ≤ 1000000000000000000) => rdigZ z W h
          have hLb : 0 ≤ (L : Int) ∧ (L : Int) ≤ 1000000000000000000 := by omega
          have hPZ : 0 ≤ (P : Int) ∧ (P : Int) ≤ 1000000000000000000 := by omega
          have h100 : 0 ≤ (100 : Int) ∧ (100 : Int) ≤ 1000000000000000000 := by omega
          have hxi : ¬ (x : Int) < 0 := a0
          clear z1 z2 hS1 hS2 HD hO
          by_cases hK0 : 100 < K
          · by_cases hy0 : y ≤ P
            · have hK1 : (100 : Int) < (K : Int) := by omega
              have hPe : P = 100 := by rw [hP]; rw [if_neg (by omega)]
              subst hPe
              have hyp : (y : Int) ≤ (100 : Int) := by omega
              rw [if_pos (by omega)] at HC
              obtain ⟨D, hD⟩ : ∃ D, D = 100 - y := ⟨_, rfl⟩
              rw [← hD] at HC
              have hDb : 0 ≤ (D : Int) ∧ (D : Int) ≤ 1000000000000000000 := by omega
              have k3 : IntKind.i64.wrap ((100 : Int) - (y : Int)) = (D : Int) := by rw [IntWalk.i64_in _ (by omega)]; omega
              clear hD
              clear hP hK hL hx hy
              go_enter Tryz.func5, Tryz.ntmps5
              go_wp2_with fail
              refine HX.out.mono ?_
              rintro e w1 ⟨rfl, rfl⟩
              go_wp2_with fail
              refine (HY.out _).mono ?_
              rintro e w1' ⟨rfl, rfl⟩
              go_wp2_with fail
              refine (HR.out _ HG.out).mono ?_
              rintro e w2 ⟨rfl, hb2⟩
              have HB2 := Lib.hid hb2
              clear hb2 HX HY HR
              go_wp2_with fail
              refine (HC.out _).mono ?_
              rintro e w3 ⟨A, c, ws, rfl, hrd, hws, hlc, hb3⟩
              have HB3 := Lib.hid (below_on HB2.out hb3)
              have hwe := bytesL_back hws
              simp only [List.map_cons, List.map_nil] at hwe
              rw [show strL (Lib.decDigits L) = digZ (L : Int) from rfl, show strL (Lib.decDigits 100) = digZ (100 : Int) from rfl, show strL (Lib.decDigits D) = digZ (D : Int) from rfl] at hwe
              subst hwe
              obtain ⟨g, o, hA, _, c0⟩ := hrd.at_ (k := 0) (by simp)
              subst hA
              obtain ⟨g1, o1, hA1, _, c1⟩ := hrd.at_ (k := 1) (by simp)
              obtain ⟨rfl, rfl⟩ : g = g1 ∧ o = o1 := by simpa using hA1
              obtain ⟨g2, o2, hA2, _, c2⟩ := hrd.at_ (k := 2) (by simp)
              obtain ⟨rfl, rfl⟩ : g = g2 ∧ o = o2 := by simpa using hA2
              rw [Nat.add_zero] at c0
              simp only [List.getD_cons_zero, List.getD_cons_succ] at c0 c1 c2
              simp only [List.length_cons, List.length_nil, Nat.zero_add, Nat.reduceAdd] at hlc ⊢
              clear hrd hws hb3 hA1 hA2 HC
              go_wp2_with fail
              refine (HDZ.out _ _ hDb).mono ?_
              rintro e w4 ⟨rfl, rfl⟩
              go_wp2_with fail
              go_quiet ((go_at_call 9; exact Calls.quiet_of_same (HDZ.out _ _ (by first | exact hLb | exact hPZ | exact h100))))
              go_wp2_with fail
              go_ret
              exact ⟨rfl, below_on HB3.out ⟨rfl, rfl, rfl, Nat.le_refl _, fun _ _ => rfl⟩⟩
            · have hPe : P = 100 := by rw [hP]; rw [if_neg (by omega)]
              omega
          · by_cases hy0 : y ≤ P
            · have hK1 : ¬ (100 : Int) < (K : Int) := by omega
              have hPe : P = K := by rw [hP]; split <;> omega
              subst hPe
              have hyp : (y : Int) ≤ (P : Int) := by omega
              rw [if_pos (by omega)] at HC
              obtain ⟨D, hD⟩ : ∃ D, D = P - y := ⟨_, rfl⟩
              rw [← hD] at HC
              have hDb : 0 ≤ (D : Int) ∧ (D : Int) ≤ 1000000000000000000 := by omega
              have k3 : IntKind.i64.wrap ((P : Int) - (y : Int)) = (D : Int) := by rw [IntWalk.i64_in _ (by omega)]; omega
              clear hD
              clear hP hK hL hx hy
              go_enter Tryz.func5, Tryz.ntmps5
              go_wp2_with fail
              refine HX.out.mono ?_
              rintro e w1 ⟨rfl, rfl⟩
              go_wp2_with fail
              refine (HY.out _).mono ?_
              rintro e w1' ⟨rfl, rfl⟩
              go_wp2_with fail
              refine (HR.out _ HG.out).mono ?_
              rintro e w2 ⟨rfl, hb2⟩
              have HB2 := Lib.hid hb2
              clear hb2 HX HY HR
              go_wp2_with fail
              refine (HC.out _).mono ?_
              rintro e w3 ⟨A, c, ws, rfl, hrd, hws, hlc, hb3⟩
              have HB3 := Lib.hid (below_on HB2.out hb3)
              have hwe := bytesL_back hws
              simp only [List.map_cons, List.map_nil] at hwe
              rw [show strL (Lib.decDigits L) = digZ (L : Int) from rfl, show strL (Lib.decDigits P) = digZ (P : Int) from rfl, show strL (Lib.decDigits D) = digZ (D : Int) from rfl] at hwe
              subst hwe
              obtain ⟨g, o, hA, _, c0⟩ := hrd.at_ (k := 0) (by simp)
              subst hA
              obtain ⟨g1, o1, hA1, _, c1⟩ := hrd.at_ (k := 1) (by simp)
              obtain ⟨rfl, rfl⟩ : g = g1 ∧ o = o1 := by simpa using hA1
              obtain ⟨g2, o2, hA2, _, c2⟩ := hrd.at_ (k := 2) (by simp)
              obtain ⟨rfl, rfl⟩ : g = g2 ∧ o = o2 := by simpa using hA2
              rw [Nat.add_zero] at c0
              simp only [List.getD_cons_zero, List.getD_cons_succ] at c0 c1 c2
              simp only [List.length_cons, List.length_nil, Nat.zero_add, Nat.reduceAdd] at hlc ⊢
              clear hrd hws hb3 hA1 hA2 HC
              go_wp2_with fail
              refine (HDZ.out _ _ hDb).mono ?_
              rintro e w4 ⟨rfl, rfl⟩
              go_wp2_with fail
              go_quiet ((go_at_call 9; exact Calls.quiet_of_same (HDZ.out _ _ (by first | exact hLb | exact hPZ | exact h100))))
              go_wp2_with fail
              go_ret
              exact ⟨rfl, below_on HB3.out ⟨rfl, rfl, rfl, Nat.le_refl _, fun _ _ => rfl⟩⟩
            · have hK1 : ¬ (100 : Int) < (K : Int) := by omega
              have hPe : P = K := by rw [hP]; split <;> omega
              subst hPe
              have hyp : ¬ (y : Int) ≤ (P : Int) := by omega
              rw [if_neg (by omega)] at HC
              clear hP hK hL hx hy
              go_enter Tryz.func5, Tryz.ntmps5
              go_wp2_with fail
              refine HX.out.mono ?_
              rintro e w1 ⟨rfl, rfl⟩
              go_wp2_with fail
              refine (HY.out _).mono ?_
              rintro e w1' ⟨rfl, rfl⟩
              go_wp2_with fail
              refine (HR.out _ HG.out).mono ?_
              rintro e w2 ⟨rfl, hb2⟩
              have HB2 := Lib.hid hb2
              clear hb2 HX HY HR
              go_wp2_with fail
              refine (HC.out _).mono ?_
              rintro e w3 ⟨A, c, ws, rfl, hrd, hws, hlc, hb3⟩
              have HB3 := Lib.hid (below_on HB2.out hb3)
              have hwe := bytesL_back hws
              simp only [List.map_cons, List.map_nil] at hwe
              rw [show strL (Lib.decDigits L) = digZ (L : Int) from rfl, show strL (Lib.decDigits P) = digZ (P : Int) from rfl] at hwe
              subst hwe
              obtain ⟨g, o, hA, _, c0⟩ := hrd.at_ (k := 0) (by simp)
              subst hA
              obtain ⟨g1, o1, hA1, _, c1⟩ := hrd.at_ (k := 1) (by simp)
              obtain ⟨rfl, rfl⟩ : g = g1 ∧ o = o1 := by simpa using hA1
              obtain ⟨g2, o2, hA2, _, c2⟩ := hrd.at_ (k := 2) (by simp)
              obtain ⟨rfl, rfl⟩ : g = g2 ∧ o = o2 := by simpa using hA2
              rw [Nat.add_zero] at c0
              simp only [List.getD_cons_zero, List.getD_cons_succ] at c0 c1 c2
              simp only [List.length_cons, List.length_nil, Nat.zero_add, Nat.reduceAdd] at hlc ⊢
              rw [show strL (Pr.nameL 8) = ⟨#[69, 114, 114, 76, 111, 119]⟩ from rfl] at c2
              clear hrd hws hb3 hA1 hA2 HC
              go_wp2_with fail
              go_quiet ((go_at_call 9; exact Calls.quiet_of_same (HDZ.out _ _ (by first | exact hLb | exact hPZ | exact h100))))
              go_wp2_with fail
              go_ret
              exact ⟨rfl, below_on HB3.out ⟨rfl, rfl, rfl, Nat.le_refl _, fun _ _ => rfl⟩⟩
end Go.Proofs.YtjdpgakkphdjlaaGreatDoor
