/- Walks: numbers in so many bits (chapter 13). -/
import Derived.Test.YtmohilfebgahoaaGreatDoorSound
import Derived.Test.YtmohilfebgahoaaGreatDoorPhAll
import Derived.Outline
namespace Go.Proofs.YtmohilfebgahoaaGreatDoor
open Go.RowKit

theorem bits_nat_i64 (a b : Nat) (ha : a < 9223372036854775808) (hb : b < 9223372036854775808) :
    bits .and .i64 (a : Int) (b : Int) = ((a &&& b : Nat) : Int) ∧ bits .or .i64 (a : Int) (b : Int) = ((a ||| b : Nat) : Int) := by
  have hx : a &&& b < 2 ^ 63 := Nat.and_lt_two_pow _ (by omega)
  have hy : a ||| b < 2 ^ 63 := Nat.or_lt_two_pow (by omega) (by omega)
  have h1 : (BitVec.ofInt 64 (a : Int)).toNat = a := by
    rw [BitVec.ofInt_natCast, BitVec.toNat_ofNat]; exact Nat.mod_eq_of_lt (by omega)
  have h2 : (BitVec.ofInt 64 (b : Int)).toNat = b := by
    rw [BitVec.ofInt_natCast, BitVec.toNat_ofNat]; exact Nat.mod_eq_of_lt (by omega)
  constructor
  · show IntKind.i64.wrap ((BitVec.ofInt 64 (a : Int) &&& BitVec.ofInt 64 (b : Int)).toNat : Int) = _
    rw [BitVec.toNat_and, h1, h2]
    exact IntWalk.i64_in _ (by omega)
  · show IntKind.i64.wrap ((BitVec.ofInt 64 (a : Int) ||| BitVec.ofInt 64 (b : Int)).toNat : Int) = _
    rw [BitVec.toNat_or, h1, h2]
    exact IntWalk.i64_in _ (by omega)
theorem and_one (a : Nat) (ha : a < 9223372036854775808) : bits .and .i64 (a : Int) 1 = ((a % 2 : Nat) : Int) := by
  have := (bits_nat_i64 a 1 ha (by omega)).1
  rw [Nat.and_one_is_mod] at this
  exact this
theorem or_bit (a b : Nat) (ha : a < 4000000000000000000) (hb : b < 2) : bits .or .i64 (2 * (a : Int)) (b : Int) = ((2 * a + b : Nat) : Int) := by
  have h1 := (bits_nat_i64 (2 * a) b (by omega) (by omega)).2
  have h2 := Nat.two_pow_add_eq_or_of_lt (i := 1) (b := b) (by omega) a
  rw [Nat.pow_one] at h2
  rw [← h2] at h1
  rw [← h1]; congr 1
theorem wide_any (n : Int) (w : World) : Calls Tryz.prog 96 #[.int .i64 n] w fun e w' => e = .returned (.bool (decide (0 ≤ n) && decide (n ≤ 20))) ∧ w = w' := by
  by_cases h1 : 0 ≤ n <;> by_cases h2 : n ≤ 20
  all_goals go_enter Tryz.func96, Tryz.ntmps96
  all_goals go_wp2
  all_goals go_ret
  all_goals exact ⟨ret_bool (by simp; try omega), rfl⟩
theorem goes_any (n : Int) (k : Nat) (w : World) (hk : k ≤ 20) :
    Calls Tryz.prog 97 #[.int .i64 n, .int .i64 k] w fun e w' => e = .returned (.bool (decide (0 ≤ n) && decide (n < 2 ^ k))) ∧ w = w' := by
  have hp : Hid ((2 : Int) ^ k ≤ 2 ^ 20) := Lib.hid (by exact_mod_cast Nat.pow_le_pow_right (by omega) hk)
  have hp0 : Hid (0 < (2 : Int) ^ k) := Lib.hid (by exact_mod_cast Nat.two_pow_pos k)
  obtain ⟨P, hP⟩ : ∃ P : Int, P = 2 ^ k := ⟨_, rfl⟩
  rw [← hP] at hp hp0 ⊢
  have hw : wrap64 ((2 : Int) ^ k) = P := by
    rw [← hP]
    have := hp.out
    have := hp0.out
    exact IntWalk.wrap64_in _ (by omega)
  clear hP
  by_cases h : 0 ≤ n <;> by_cases h2 : n < P
  all_goals go_enter Tryz.func97, Tryz.ntmps97
  all_goals go_wp2_with fail
  all_goals go_ret
  all_goals exact ⟨ret_bool (by simp [h, h2]; try omega), rfl⟩
theorem spread_drop (l ws : List Int) (k : Nat) (h1 : k < l.length) (h2 : k < ws.length) :
    Ph.spread (l.drop k) (ws.drop k) = Ph.bitsW (ws.getD k 0).toNat (l.getD k 0).toNat ++ Ph.spread (l.drop (k + 1)) (ws.drop (k + 1)) := by
  have e1 : l.drop k = l.getD k 0 :: l.drop (k + 1) := by
    rw [List.getD_eq_getElem?_getD, List.getElem?_eq_getElem h1]; exact List.drop_eq_getElem_cons h1
  have e2 : ws.drop k = ws.getD k 0 :: ws.drop (k + 1) := by
    rw [List.getD_eq_getElem?_getD, List.getElem?_eq_getElem h2]; exact List.drop_eq_getElem_cons h2
  rw [e1, e2]; rfl
set_option maxHeartbeats 1000000 in
theorem spread_any (A1 A2 : Option Addr) (n c1 c2 : Nat) (l ws : List Int) (w : World) (B : Nat) (h1 : RdI w B A1 n l) (h2 : RdI w B A2 n ws) (hB : B ≤ w.heap.size) (hn : n ≤ 2000000)
    (hl : ∀ x ∈ l, 0 ≤ x ∧ x ≤ 2000000) (hws : ∀ x ∈ ws, 0 ≤ x ∧ x ≤ 20) (hs : (Ph.spread l ws).length ≤ 1000000000) :
    Calls Tryz.prog 98 #[.slice A1 n c1, .slice A2 n c2] w (OwnI 3 (Ph.spread l ws) w) := by
  have H1 := Lib.hid h1
  have H2 := Lib.hid h2
  have HL1 := Lib.hid h1.len
  have HL2 := Lib.hid h2.len
  have HX := Lib.hid hl
  have HW := Lib.hid hws
  have HS := Lib.hid hs
  clear h1 h2 hl hws hs
  go_enter Tryz.func98, Tryz.ntmps98
  go_wp2_with fail
  go_loopw [5, 6, 7, 8, 11] (fun v _ _ _ i wr => ∃ (k : Nat) (A5 : Option Addr) (c5 : Nat) (o : List Int), k ≤ n ∧ i = .int .i64 k ∧ v = .slice A5 o.length c5 ∧ wr.ownsRow w.heap.size 3 1 (.slice A5 o.length c5) o.length (ivals o) ∧ Hid (o ++ Ph.spread (l.drop k) (ws.drop k) = Ph.spread l ws) ∧ Below w.heap.size w wr) (fun _ _ _ _ i _ => n - (intOf i).toNat)
  case atStart => exact ⟨0, none, 0, [], Nat.zero_le _, rfl, rfl, own_nil _ _ _, Lib.hid rfl, Below.refl _ _⟩
  case round =>
    obtain ⟨k, A5, c5, o, hk, rfl, rfl, hown, HE, hbw⟩ := hrel
    have HO := Lib.hid hown
    have HBW := Lib.hid hbw
    clear hown hbw
    by_cases hlt : k < n
    · obtain ⟨b1, o1, rfl, _, hc1⟩ := (H1.out.below (HBW.out.mono hB)).at_ hlt
      obtain ⟨b2, o2, rfl, _, hc2⟩ := (H2.out.below (HBW.out.mono hB)).at_ hlt
      have hx := HX.out _ (Ph.getD_mem (l := l) (i := k) (by rw [HL1.out]; exact hlt))
      have hw := HW.out _ (Ph.getD_mem (l := ws) (i := k) (by rw [HL2.out]; exact hlt))
      have hd := spread_drop l ws k (by rw [HL1.out]; exact hlt) (by rw [HL2.out]; exact hlt)
      obtain ⟨x, hxe⟩ : ∃ x, x = l.getD k 0 := ⟨_, rfl⟩
      obtain ⟨y, hye⟩ : ∃ y, y = ws.getD k 0 := ⟨_, rfl⟩
      rw [← hxe] at hc1 hx hd
      rw [← hye] at hc2 hw hd
      obtain ⟨X, rfl⟩ := Int.eq_ofNat_of_zero_le hx.1
      obtain ⟨Y, rfl⟩ := Int.eq_ofNat_of_zero_le hw.1
      have hE2 := HE.out
      rw [hd] at hE2
      simp only [Int.toNat_natCast] at hE2
      have HE2 := Lib.hid hE2
      clear hxe hye hd hE2 HE
      go_wp2_with fail
      rename World => wa
      go_loopw [5, 8] (fun v i wr2 => ∃ (q : Nat) (A6 : Option Addr) (c6 : Nat) (o2 : List Int), q ≤ Y ∧ i = .int .i64 ((q : Int) - 1) ∧ v = .slice A6 o2.length c6 ∧ wr2.ownsRow w.heap.size 3 1 (.slice A6 o2.length c6) o2.length (ivals o2) ∧ Hid (o2 ++ (Ph.bitsW q X ++ Ph.spread (l.drop (k + 1)) (ws.drop (k + 1))) = Ph.spread l ws) ∧ Below w.heap.size w wr2) (fun _ i _ => (intOf i + 1).toNat)
      case atStart => exact ⟨Y, A5, c5, o, Nat.le_refl _, rfl, rfl, HO.out, HE2, HBW.out⟩
      case round =>
        obtain ⟨q, A6, c6, o2, hq, rfl, rfl, hown2, HE3, hbw2⟩ := hrel
        have HO2 := Lib.hid hown2
        have HBW2 := Lib.hid hbw2
        clear hown2 hbw2
        cases q with
        | zero =>
          go_wp2_with fail
          go_roundw
          case rel => exact ⟨k + 1, A6, c6, o2, by omega, by go_num, rfl, HO2.out, Lib.hid (by have := HE3.out; simpa [Ph.bitsW] using this), HBW2.out⟩
          case measure => simp [intOf]; omega
        | succ q =>
          rw [show (((q + 1 : Nat) : Int) - 1) = (q : Int) by omega]
          have hol : o2.length ≤ 1000000000 := by
            have h3 := HS.out
            rw [← HE3.out, List.length_append] at h3
            omega
          have hq0 : (0 : Int) ≤ (q : Int) := by omega
          have hq64 : (q : Int) ≤ 64 := by omega
          have hdv : X / 2 ^ q < 9223372036854775808 := Nat.lt_of_le_of_lt (Nat.div_le_self _ _) (by omega)
          have hv : bits .and .i64 ((X : Int) / 2 ^ q) 1 = ((X / 2 ^ q % 2 : Nat) : Int) := by
            rw [← and_one _ hdv]; congr 1
          have HE4 : Hid (o2 ++ [((X / 2 ^ q % 2 : Nat) : Int)] ++ (Ph.bitsW q X ++ Ph.spread (l.drop (k + 1)) (ws.drop (k + 1))) = Ph.spread l ws) := Lib.hid (by
            rw [← HE3.out]; simp [Ph.bitsW])
          obtain ⟨V, hV⟩ : ∃ V : Int, V = ((X / 2 ^ q % 2 : Nat) : Int) := ⟨_, rfl⟩
          rw [← hV] at hv HE4
          clear hV hdv HE3
          go_wp2_with (at_builtin; refine wpList_push _ (by rfl) _ _ (by rfl) w w.heap.size A6 o2.length c6 _ V HO2.out HBW2.out HBW2.out.size (by omega) (by rfl) (by rfl) ?_; intro g cap w2 ho2 hb2)
          have HO3 := Lib.hid ho2
          have HB3 := Lib.hid hb2
          clear ho2 hb2
          go_wp2_with fail
          go_roundw
          case rel =>
            refine ⟨q, some ⟨g, 0, none⟩, cap, o2 ++ [V], by omega, rfl, by simp, ?_, HE4, HB3.out⟩
            have := HO3.out
            simpa using this
          case measure => simp [intOf]
    · obtain rfl : k = n := by omega
      have he : Hid (o = Ph.spread l ws) := Lib.hid (by
        have := HE.out
        rw [List.drop_of_length_le (by rw [HL1.out]; omega)] at this
        simpa [Ph.spread] using this)
      go_wp2_with fail
      go_ret
      exact ⟨A5, c5, by rw [he.out]; rfl, by rw [← he.out]; exact HO.out, HBW.out⟩
theorem goes_all : ∀ {l ws : List Int}, l.length = ws.length → ((List.zipWith Ph.goes l ws).all id = true ↔ ∀ i, i < l.length → Ph.goes (l.getD i 0) (ws.getD i 0) = true)
  | [], [], _ => by simp
  | x :: l, y :: ws, h => by
    have ih := goes_all (l := l) (ws := ws) (by simpa using h)
    rw [List.zipWith_cons_cons, List.all_cons, Bool.and_eq_true, ih]
    constructor
    · intro h1 i hi
      cases i with
      | zero => simpa using h1.1
      | succ i => simpa using h1.2 i (by simpa using hi)
    · intro h1
      exact ⟨by simpa using h1 0 (by simp), fun i hi => by simpa using h1 (i + 1) (by simpa using hi)⟩
  | [], _ :: _, h => by simp at h
  | _ :: _, [], h => by simp at h
theorem spread_bound : ∀ (l ws : List Int), (∀ x ∈ ws, 0 ≤ x ∧ x ≤ 20) → (Ph.spread l ws).length ≤ 20 * l.length
  | [], ws, _ => by cases ws <;> simp [Ph.spread]
  | _ :: _, [], _ => by simp [Ph.spread]
  | x :: l, y :: ws, h => by
    have ih := spread_bound l ws (fun z hz => h z (by simp [hz]))
    have := h y (by simp)
    simp only [Ph.spread, List.length_append, Ph.bitsW_length, List.length_cons]
    omega
set_option maxHeartbeats 1000000 in
theorem put_any (A1 A2 : Option Addr) (n1 n2 c1 c2 : Nat) (l ws : List Int) (w : World) (B : Nat) (h1 : RdI w B A1 n1 l) (h2 : RdI w B A2 n2 ws) (hB : B ≤ w.heap.size) (hn : n1 ≤ 2000000) (hn2 : n2 ≤ 100000000000000) :
    Calls Tryz.prog 55 #[.slice A1 n1 c1, .slice A2 n2 c2] w (ToldL 3 (Ph.putErr l ws) (got (Ph.putErr l ws) (Ph.spread l ws)) w) := by
  by_cases hne : n1 = n2
  · subst hne
    have hll : l.length = ws.length := h1.len.trans h2.len.symm
    have hp0 : Hid (Ph.putErr l ws = if (List.zipWith Ph.goes l ws).all id = true then (if 400 < (Ph.spread l ws).length then 4 else 0) else 1) := Lib.hid (by unfold Ph.putErr; rw [if_neg (by omega)])
    have HGA := Lib.hid (goes_all hll)
    have H1 := Lib.hid h1
    have H2 := Lib.hid h2
    have HL1 := Lib.hid h1.len
    have HL2 := Lib.hid h2.len
    clear h1 h2 hll
    go_enter Tryz.func55, Tryz.ntmps55
    go_wp2_with fail
    go_loop [6, 7, 17] (fun _ _ i => ∃ k : Nat, k ≤ n1 ∧ i = .int .i64 k ∧ Hid (∀ j, j < k → Ph.goes (l.getD j 0) (ws.getD j 0) = true)) (fun _ _ i => n1 - (intOf i).toNat)
    case atStart => exact ⟨0, Nat.zero_le _, rfl, Lib.hid fun j hj => absurd hj (by omega)⟩
    case round =>
      obtain ⟨k, hk, rfl, HG⟩ := hrel
      by_cases hlt : k < n1
      · obtain ⟨b1, o1, rfl, _, hc1⟩ := H1.out.at_ hlt
        obtain ⟨b2, o2, rfl, _, hc2⟩ := H2.out.at_ hlt
        have hbad : Hid (Ph.goes (l.getD k 0) (ws.getD k 0) = false → Ph.putErr l ws = 1) := Lib.hid fun hf => by
          rw [hp0.out, if_neg]
          intro h
          have := HGA.out.1 h k (by rw [HL1.out]; exact hlt)
          rw [hf] at this; cases this
        have hgood : Hid (Ph.goes (l.getD k 0) (ws.getD k 0) = true → ∀ j, j < k + 1 → Ph.goes (l.getD j 0) (ws.getD j 0) = true) := Lib.hid fun ht j hj => by
          by_cases hjk : j < k
          · exact HG.out j hjk
          · obtain rfl : j = k := by omega
            exact ht
        obtain ⟨x, hxe⟩ : ∃ x, x = l.getD k 0 := ⟨_, rfl⟩
        obtain ⟨y, hye⟩ : ∃ y, y = ws.getD k 0 := ⟨_, rfl⟩
        rw [← hxe] at hc1 hbad hgood
        rw [← hye] at hc2 hbad hgood
        clear hxe hye
        by_cases hy : 0 ≤ y ∧ y ≤ 20
        · obtain ⟨Y, rfl⟩ := Int.eq_ofNat_of_zero_le hy.1
          have hy1 : (0 : Int) ≤ (Y : Int) := by omega
          have hy2 : (Y : Int) ≤ 20 := by omega
          have HGO := Lib.hid fun W => goes_any x Y W (by omega)
          have HWI := Lib.hid fun W => wide_any (Y : Int) W
          have hg : Hid (Ph.goes x (Y : Int) = (decide (0 ≤ x) && decide (x < 2 ^ Y))) := Lib.hid (by
            unfold Ph.goes; simp [hy1, hy2])
          rw [show (decide (0 ≤ (Y : Int)) && decide ((Y : Int) ≤ 20)) = true by simp; omega] at HWI
          obtain ⟨G, hG⟩ : ∃ G, G = (decide (0 ≤ x) && decide (x < 2 ^ Y)) := ⟨_, rfl⟩
          rw [← hG] at HGO hg
          clear hG hy
          cases G with
          | true =>
            go_wp2_with fail
            refine (HWI.out _).mono ?_
            rintro e wk ⟨rfl, rfl⟩
            go_wp2_with fail
            refine (HGO.out _).mono ?_
            rintro e wk ⟨rfl, rfl⟩
            go_wp2_with fail
            go_round
            case rel => exact ⟨k + 1, by omega, by go_num, Lib.hid (hgood.out hg.out)⟩
            case measure => simp [intOf]; omega
          | false =>
            have he := hbad.out hg.out
            rw [he, got_ne (by omega)]
            clear he
            go_wp2_with fail
            refine (HWI.out _).mono ?_
            rintro e wk ⟨rfl, rfl⟩
            go_wp2_with fail
            refine (HGO.out _).mono ?_
            rintro e wk ⟨rfl, rfl⟩
            go_wp2_with fail
            go_ret2
            exact ToldL.none _ _ _ (errV_ne (by omega)).symm (Below.refl _ _)
        · have HWI := Lib.hid fun W => wide_any y W
          rw [show (decide (0 ≤ y) && decide (y ≤ 20)) = false by simp; omega] at HWI
          have he := hbad.out (by unfold Ph.goes; simp; omega)
          rw [he, got_ne (by omega)]
          clear he
          go_wp2_with fail
          refine (HWI.out _).mono ?_
          rintro e wk ⟨rfl, rfl⟩
          go_wp2_with fail
          go_ret2
          exact ToldL.none _ _ _ (errV_ne (by omega)).symm (Below.refl _ _)
      · obtain rfl : k = n1 := by omega
        have hall := HGA.out.2 (by rw [HL1.out]; exact HG.out)
        have hp := hp0.out
        rw [if_pos hall] at hp
        have hgl : ∀ i, i < k → (0 ≤ l.getD i 0 ∧ l.getD i 0 ≤ 2000000) ∧ (0 ≤ ws.getD i 0 ∧ ws.getD i 0 ≤ 20) := fun i hi => by
          have := HG.out i hi
          unfold Ph.goes at this
          simp only [Bool.and_eq_true, decide_eq_true_eq] at this
          have h20 : (2 : Int) ^ (ws.getD i 0).toNat ≤ 2 ^ 20 := by exact_mod_cast Nat.pow_le_pow_right (by omega) (by omega)
          omega
        have hl : ∀ x ∈ l, 0 ≤ x ∧ x ≤ 2000000 := fun x hx => by
          obtain ⟨i, hi, rfl⟩ := List.mem_iff_getElem.1 hx
          have := (hgl i (by rw [← HL1.out]; exact hi)).1
          rwa [List.getD_eq_getElem?_getD, List.getElem?_eq_getElem hi] at this
        have hws : ∀ x ∈ ws, 0 ≤ x ∧ x ≤ 20 := fun x hx => by
          obtain ⟨i, hi, rfl⟩ := List.mem_iff_getElem.1 hx
          have := (hgl i (by rw [← HL2.out]; exact hi)).2
          rwa [List.getD_eq_getElem?_getD, List.getElem?_eq_getElem hi] at this
        have hsb := spread_bound l ws hws
        rw [HL1.out] at hsb
        have HSP := Lib.hid (spread_any A1 A2 k c1 c2 l ws w B H1.out H2.out hB hn hl hws (by omega))
        obtain ⟨S, hS⟩ : ∃ S, S = Ph.spread l ws := ⟨_, rfl⟩
        rw [← hS] at HSP hp hsb
        have hsb2 : S.length ≤ 40000000 := by omega
        have HSE := Lib.hid hS
        clear hall hgl hl hws hsb hS
        by_cases h4 : 400 < S.length
        · rw [if_pos h4] at hp
          have HPE := Lib.hid hp
          clear hp
          go_wp2_with fail
          refine HSP.out.mono ?_
          rintro e w1 ⟨A5, c5, rfl, ho, hb⟩
          have HB5 := Lib.hid hb
          clear ho hb
          go_wp2_with fail
          go_ret2
          rw [HPE.out, got_ne (by omega)]
          exact ToldL.none _ _ _ (errV_ne (by omega)).symm HB5.out
        · rw [if_neg h4] at hp
          have HPE := Lib.hid hp
          clear hp
          go_wp2_with fail
          refine HSP.out.mono ?_
          rintro e w1 ⟨A5, c5, rfl, ho, hb⟩
          have HO5 := Lib.hid ho
          have HB5 := Lib.hid hb
          clear ho hb
          go_wp2_with fail
          go_ret2
          rw [HPE.out, got_zero, ← HSE.out]
          exact ⟨A5, c5, rfl, HO5.out, HB5.out⟩
  · have he : Ph.putErr l ws = 3 := by unfold Ph.putErr; rw [if_pos (by rw [h1.len, h2.len]; exact hne)]
    rw [he, got_ne (by omega)]
    have hb : ((n1 : Int) != (n2 : Int)) = true := by simp; omega
    clear h1 h2 he hne
    go_enter Tryz.func55, Tryz.ntmps55
    go_wp2_with fail
    go_ret2
    exact ToldL.none _ _ _ (errV_ne (by omega)).symm (Below.refl _ _)
end Go.Proofs.YtmohilfebgahoaaGreatDoor
/- Walks: bits checked, a number of bits, numbers of bits (chapter 13). -/
namespace Go.Proofs.YtmohilfebgahoaaGreatDoor
open Go.RowKit

/-- What is no bit. -/
def badBit (x : Int) : Bool := decide (x ≠ 0) && decide (x ≠ 1)
def bitsErr (l : List Int) : Int := if 400 < l.length then 4 else if l.any badBit = true then 1 else 0
theorem bitsErr_zero {l : List Int} : bitsErr l = 0 ↔ l.length ≤ 400 ∧ Ph.isBits l := by
  unfold bitsErr
  by_cases h1 : 400 < l.length
  · rw [if_pos h1]; constructor
    · intro h; omega
    · intro h; omega
  · rw [if_neg h1]
    cases h2 : l.any badBit with
    | true =>
      rw [if_pos rfl]
      obtain ⟨x, hx, hb⟩ := List.any_eq_true.1 h2
      constructor
      · intro h; omega
      · intro h
        have := h.2 x hx
        unfold badBit at hb
        simp at hb
        omega
    | false =>
      rw [if_neg (by simp)]
      refine ⟨fun _ => ⟨by omega, fun b hb => ?_⟩, fun _ => rfl⟩
      have := List.any_eq_false.1 h2 b hb
      unfold badBit at this
      simp at this
      by_cases h0 : b = 0
      · exact .inl h0
      · exact .inr (this h0)
theorem number_take {l : List Int} {k : Nat} (h : k < l.length) : Ph.number (l.take (k + 1)) = 2 * Ph.number (l.take k) + (l.getD k 0).toNat := by
  rw [Ph.take_snoc l k h, Ph.number_snoc]
theorem number_take_lt {l : List Int} (h : Ph.isBits l) (k : Nat) (hk : k ≤ 50) : Ph.number (l.take k) < 1125899906842624 := by
  have h1 := Ph.number_lt (l := l.take k) (fun b hb => h b (List.mem_of_mem_take hb))
  have h2 : 2 ^ (l.take k).length ≤ 2 ^ 50 := Nat.pow_le_pow_right (by omega) (by rw [List.length_take]; omega)
  omega
set_option maxHeartbeats 1000000 in
theorem gather_any (A : Option Addr) (n c : Nat) (l : List Int) (w : World) (B : Nat) (h : RdI w B A n l) (hb : Ph.isBits l) (hn : n ≤ 50) :
    Calls Tryz.prog 100 #[.slice A n c] w fun e w' => e = .returned (.int .i64 (Ph.number l : Nat)) ∧ w = w' := by
  have HL := Lib.hid h.len
  have H := Lib.hid h
  have HB := Lib.hid hb
  clear h hb
  go_enter Tryz.func100, Tryz.ntmps100
  go_wp2_with fail
  go_loop [3, 5, 8] (fun t _ i => ∃ k : Nat, k ≤ n ∧ i = .int .i64 k ∧ t = .int .i64 (Ph.number (l.take k) : Nat)) (fun _ _ i => n - (intOf i).toNat)
  case atStart => exact ⟨0, Nat.zero_le _, rfl, rfl⟩
  case round =>
    obtain ⟨k, hk, rfl, rfl⟩ := hrel
    by_cases hlt : k < n
    · obtain ⟨b, off, rfl, _, hc⟩ := H.out.at_ hlt
      have hkl : k < l.length := by rw [HL.out]; exact hlt
      have hx := HB.out _ (Ph.getD_mem (l := l) (i := k) hkl)
      have hst := number_take hkl
      have hlt2 := number_take_lt HB.out k (by omega)
      obtain ⟨x, hxe⟩ : ∃ x, x = l.getD k 0 := ⟨_, rfl⟩
      rw [← hxe] at hc hx hst
      obtain ⟨X, rfl⟩ := Int.eq_ofNat_of_zero_le (by omega : 0 ≤ x)
      rw [Int.toNat_natCast] at hst
      obtain ⟨N, hN⟩ : ∃ N, N = Ph.number (l.take k) := ⟨_, rfl⟩
      rw [← hN] at hst hlt2 ⊢
      have hor : bits .or .i64 ((N : Int) * 2) (X : Int) = ((2 * N + X : Nat) : Int) := by rw [Int.mul_comm]; exact or_bit N X (by omega) (by omega)
      have HST := Lib.hid hst
      have hlt' : (k : Int) < (n : Int) := by omega
      clear hst hN hxe hkl hx
      go_wp2_with fail
      go_round
      case rel => exact ⟨k + 1, by omega, by go_num, by rw [HST.out]; go_num⟩
      case measure => simp [intOf]; omega
    · obtain rfl : k = n := by omega
      have hall : Hid (l.take k = l) := Lib.hid (List.take_of_length_le (by rw [HL.out]; omega))
      rw [hall.out]
      go_wp2_with fail
      go_ret
      exact ⟨rfl, rfl⟩
/-- What is wrong with bits as numbers of so many bits. -/
def getErr (l ws : List Int) : Int := if bitsErr l ≠ 0 then bitsErr l else if (ws.all fun x => decide (0 ≤ x) && decide (x ≤ 20)) = false then 1 else if Ph.total ws ≠ l.length then 3 else 0
theorem getErr_zero {l ws : List Int} : getErr l ws = 0 ↔ bitsErr l = 0 ∧ (∀ x ∈ ws, 0 ≤ x ∧ x ≤ 20) ∧ Ph.total ws = l.length := by
  unfold getErr
  by_cases h0 : bitsErr l = 0
  · rw [if_neg (by omega)]
    cases h1 : (ws.all fun x => decide (0 ≤ x) && decide (x ≤ 20)) with
    | false =>
      rw [if_pos rfl]
      constructor
      · intro h; omega
      · intro h
        have : (ws.all fun x => decide (0 ≤ x) && decide (x ≤ 20)) = true := List.all_eq_true.2 fun x hx => by have := h.2.1 x hx; simp; omega
        rw [h1] at this; cases this
    | true =>
      rw [if_neg (by simp)]
      have h2 : ∀ x ∈ ws, 0 ≤ x ∧ x ≤ 20 := fun x hx => by have := List.all_eq_true.1 h1 x hx; simpa using this
      by_cases h3 : Ph.total ws = l.length
      · rw [if_neg (by omega)]; exact ⟨fun _ => ⟨h0, h2, h3⟩, fun _ => rfl⟩
      · rw [if_pos h3]
        constructor
        · intro h; omega
        · intro h; exact absurd h.2.2 h3
  · rw [if_pos h0]
    constructor
    · intro h; omega
    · intro h; exact absurd h.1 h0
theorem gather_step (l : List Int) (ws : List Int) (k : Nat) (hk : k < ws.length) : Ph.gather l (ws.drop k) = ((Ph.number (l.take (ws.getD k 0).toNat) : Nat) : Int) :: Ph.gather (l.drop (ws.getD k 0).toNat) (ws.drop (k + 1)) := by
  have e : ws.drop k = ws.getD k 0 :: ws.drop (k + 1) := by
    rw [List.getD_eq_getElem?_getD, List.getElem?_eq_getElem hk]; exact List.drop_eq_getElem_cons hk
  rw [e, Ph.gather]
theorem tot_take (s : List Int) (k : Nat) (hk : k < s.length) : Ph.total (s.take (k + 1)) = Ph.total (s.take k) + s.getD k 0 := by
  rw [Ph.take_snoc s k hk, Ph.total_snoc]
theorem tot_drop (s : List Int) (k : Nat) (hk : k < s.length) : Ph.total (s.drop k) = s.getD k 0 + Ph.total (s.drop (k + 1)) := by
  have e : s.drop k = s.getD k 0 :: s.drop (k + 1) := by
    rw [List.getD_eq_getElem?_getD, List.getElem?_eq_getElem hk]; exact List.drop_eq_getElem_cons hk
  rw [e, Ph.total]
end Go.Proofs.YtmohilfebgahoaaGreatDoor
