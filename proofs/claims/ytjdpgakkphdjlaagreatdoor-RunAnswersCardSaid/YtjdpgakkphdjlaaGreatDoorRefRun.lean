/- Walks of the reference (hornref2): a number's digits, a text cut at a byte. -/
import Derived.Test.YtjdpgakkphdjlaaGreatDoorRunJ
namespace Go.Proofs.YtjdpgakkphdjlaaGreatDoor
open Go.RowKit

theorem digit_one (n : Nat) (h : n < 10) : (⟨#[48, 49, 50, 51, 52, 53, 54, 55, 56, 57]⟩ : ByteArray).extract n (n + 1) = strL [UInt8.ofNat (48 + n)] := by
  rcases (by omega : n = 0 ∨ n = 1 ∨ n = 2 ∨ n = 3 ∨ n = 4 ∨ n = 5 ∨ n = 6 ∨ n = 7 ∨ n = 8 ∨ n = 9) with rfl | rfl | rfl | rfl | rfl | rfl | rfl | rfl | rfl | rfl <;> rfl
set_option maxHeartbeats 1000000 in
set_option maxRecDepth 100000 in
theorem rdigits_any : ∀ (f n : Nat) (w : World), n < 10 ^ (f + 1) → n ≤ 1000000000000000000 → Calls Tryz.prog 9 #[.int .i64 n] w fun e w' => e = .returned (.string (strL (Lib.decDigits n))) ∧ w' = w := by
  intro f
  induction f with
  | zero =>
    intro n w hn _
    have hn' : n < 10 := by simpa using hn
    have hD := digit_one n hn'
    have hDD : Lib.decDigits n = [UInt8.ofNat (48 + n)] := by rw [Lib.decDigits, dif_pos hn']
    rw [hDD, ← hD]
    have h1 : (n : Int) < 10 := by omega
    have h2 : IntKind.i64.wrap ((n : Int) + 1) = (n : Int) + 1 := IntWalk.i64_in _ (by omega)
    have h3 : (0 : Int) ≤ (n : Int) := by omega
    have h4 : (n : Int) ≤ (n : Int) + 1 := by omega
    have h5 : (n : Int) + 1 ≤ 10 := by omega
    have h6 : ((n : Int) + 1).toNat = n + 1 := by omega
    clear hD hDD hn
    go_enter Tryz.func9, Tryz.ntmps9
    go_wp2_with fail
    go_ret
    exact ⟨rfl, rfl⟩
  | succ f ih =>
    intro n w hn hB
    by_cases hn' : n < 10
    · have hD := digit_one n hn'
      have hDD : Lib.decDigits n = [UInt8.ofNat (48 + n)] := by rw [Lib.decDigits, dif_pos hn']
      rw [hDD, ← hD]
      have h1 : (n : Int) < 10 := by omega
      have h2 : IntKind.i64.wrap ((n : Int) + 1) = (n : Int) + 1 := IntWalk.i64_in _ (by omega)
      have h3 : (0 : Int) ≤ (n : Int) := by omega
      have h4 : (n : Int) ≤ (n : Int) + 1 := by omega
      have h5 : (n : Int) + 1 ≤ 10 := by omega
      have h6 : ((n : Int) + 1).toNat = n + 1 := by omega
      clear hD hDD hn ih
      go_enter Tryz.func9, Tryz.ntmps9
      go_wp2_with fail
      go_ret
      exact ⟨rfl, rfl⟩
    · obtain ⟨Q, hQ⟩ : ∃ Q, Q = n / 10 := ⟨_, rfl⟩
      obtain ⟨M, hM⟩ : ∃ M, M = n % 10 := ⟨_, rfl⟩
      have hQ10 : Q < 10 ^ (f + 1) := by rw [hQ]; rw [Nat.pow_succ] at hn; omega
      have hI := Lib.hid (ih Q w hQ10 (by omega))
      have hD := digit_one M (by omega)
      have hDD : Lib.decDigits n = Lib.decDigits Q ++ [UInt8.ofNat (48 + M)] := by rw [Lib.decDigits, dif_neg hn', hQ, hM]
      have HC : Hid (strL (Lib.decDigits Q) ++ (⟨#[48, 49, 50, 51, 52, 53, 54, 55, 56, 57]⟩ : ByteArray).extract M (M + 1) = strL (Lib.decDigits n)) := Lib.hid (by rw [hDD, hD, strL_append])
      have h0 : ¬ (n : Int) < 10 := by omega
      have k1 : ((n : Int)).tdiv 10 = (Q : Int) := by rw [Int.tdiv_eq_ediv_of_nonneg (by omega)]; omega
      have k2 : ((n : Int)).tmod 10 = (M : Int) := by rw [Int.tmod_eq_emod_of_nonneg (by omega)]; omega
      have k3 : IntKind.i64.wrap (Q : Int) = (Q : Int) := IntWalk.i64_in _ (by omega)
      have k4 : IntKind.i64.wrap (M : Int) = (M : Int) := IntWalk.i64_in _ (by omega)
      have h2 : IntKind.i64.wrap ((M : Int) + 1) = (M : Int) + 1 := IntWalk.i64_in _ (by omega)
      have h3 : (0 : Int) ≤ (M : Int) := by omega
      have h4 : (M : Int) ≤ (M : Int) + 1 := by omega
      have h5 : (M : Int) + 1 ≤ 10 := by omega
      have h6 : ((M : Int) + 1).toNat = M + 1 := by omega
      have hz : ¬ (9223372036854775807 < (strL (Lib.decDigits Q)).size + (min (M + 1) 10 - M)) := by
        have := Pr.dec_few (u := Q) (k := 18) (by omega)
        rw [strL_size]
        omega
      clear hD hDD ih hn hQ10 hn' hQ hM
      go_enter Tryz.func9, Tryz.ntmps9
      go_wp2_with fail
      refine hI.out.mono ?_
      rintro e w1 ⟨rfl, rfl⟩
      go_wp2_with fail
      go_ret
      exact ⟨by rw [← HC.out]; rfl, rfl⟩
theorem rdigits (n : Nat) (w : World) (hn : n ≤ 1000000000000000000) : Calls Tryz.prog 9 #[.int .i64 n] w fun e w' => e = .returned (.string (strL (Lib.decDigits n))) ∧ w' = w :=
  rdigits_any 18 n w (by omega) hn
/-- What is cut so far, and what is left. -/
def CutAt (c : UInt8) (t : List UInt8) (ps : List (List UInt8)) (f i : Nat) : Prop :=
  f ≤ i ∧ i ≤ t.length ∧ ps.length ≤ f ∧ Pr.cutL c t = ps ++ Pr.cutL c (t.drop f) ∧ c ∉ (t.drop f).take (i - f)
theorem CutAt.zero (c : UInt8) (t : List UInt8) : CutAt c t [] 0 0 := ⟨Nat.le_refl _, Nat.zero_le _, Nat.le_refl _, by simp, by simp⟩
theorem cut_split {t : List UInt8} {f i : Nat} (h1 : f ≤ i) (h2 : i < t.length) : t.drop f = (t.drop f).take (i - f) ++ t.getD i 0 :: t.drop (i + 1) := by
  have h := List.take_append_drop (i - f) (t.drop f)
  rw [List.drop_drop, show f + (i - f) = i by omega, List.drop_eq_getElem_cons h2] at h
  rw [List.getD_eq_getElem?_getD, List.getElem?_eq_getElem h2]
  exact h.symm
theorem CutAt.hit {c : UInt8} {t : List UInt8} {ps : List (List UInt8)} {f i : Nat} (h : CutAt c t ps f i) (hi : i < t.length) (hc : t.getD i 0 = c) : CutAt c t (ps ++ [(t.drop f).take (i - f)]) (i + 1) (i + 1) := by
  obtain ⟨h1, h2, h3, h4, h5⟩ := h
  refine ⟨Nat.le_refl _, hi, by simp; omega, ?_, by simp⟩
  have hs := cut_split h1 hi
  rw [hc] at hs
  rw [h4]
  conv => lhs; rw [hs]
  rw [Pr.cutL_hit c _ _ h5, List.append_assoc]
  rfl
theorem CutAt.miss {c : UInt8} {t : List UInt8} {ps : List (List UInt8)} {f i : Nat} (h : CutAt c t ps f i) (hi : i < t.length) (hc : ¬ t.getD i 0 = c) : CutAt c t ps f (i + 1) := by
  obtain ⟨h1, h2, h3, h4, h5⟩ := h
  refine ⟨by omega, hi, h3, h4, ?_⟩
  rw [show i + 1 - f = (i - f) + 1 by omega, List.take_add_one, List.getElem?_drop, show f + (i - f) = i by omega, List.getElem?_eq_getElem hi]
  intro hm
  rcases List.mem_append.1 hm with h | h
  · exact h5 h
  · rw [List.getD_eq_getElem?_getD, List.getElem?_eq_getElem hi] at hc
    simp at h
    exact hc (by simpa using h.symm)
theorem CutAt.done {c : UInt8} {t : List UInt8} {ps : List (List UInt8)} {f : Nat} (h : CutAt c t ps f t.length) : Pr.cutL c t = ps ++ [t.drop f] := by
  obtain ⟨h1, h2, h3, h4, h5⟩ := h
  rw [List.take_of_length_le (by simp)] at h5
  rw [h4, Pr.cutL_miss c _ h5]
set_option maxHeartbeats 4000000 in
set_option maxRecDepth 100000 in
theorem rcut_any (s : ByteArray) (c : UInt8) (w : World) (hs : s.size ≤ 1000000) : Calls Tryz.prog 7 #[.string s, .int .u8 (c.toNat : Int)] w (SplitP (Pr.cutL c s.data.toList) w) := by
  have hl : s.data.toList.length = s.size := (Lib.size_eq s).symm
  obtain ⟨t, ht⟩ : ∃ t, t = s.data.toList := ⟨_, rfl⟩
  have hxt : ∀ f i, f ≤ i → i ≤ s.size → s.extract f i = strL ((t.drop f).take (i - f)) := by
    intro f i h1 h2
    apply ByteArray.ext
    rw [ByteArray.data_extract]
    apply Array.ext'
    rw [Array.toList_extract, ht]
    simp [strL, List.extract_eq_take_drop]
  have hgt : ∀ (i : Nat) (h : i < s.size), (s[i]'h) = t.getD i 0 := by
    intro i h
    rw [ht, List.getD_eq_getElem?_getD, List.getElem?_eq_getElem (by omega)]
    rfl
  rw [← ht] at hl ⊢
  have HXT := Lib.hid hxt
  have HGT := Lib.hid hgt
  have HT := Lib.hid ht
  clear hxt hgt ht
  obtain ⟨N, hN⟩ : ∃ N, N = s.size := ⟨_, rfl⟩
  go_enter Tryz.func7, Tryz.ntmps7
  go_wp2_with fail
  go_loopw [5, 6, 7] (fun out fr i wr => ∃ (ps : List (List UInt8)) (f k c' : Nat) (A' : Option Addr), CutAt c t ps f k ∧ fr = .int .i64 f ∧ i = .int .i64 k ∧ out = .slice A' ps.length c' ∧ Hid (wr.ownsRow w.heap.size 9 1 (.slice A' ps.length c') ps.length (svals (ps.map strL))) ∧ Hid (Below w.heap.size w wr)) (fun _ _ i _ => s.size - (intOf i).toNat)
  case atStart => exact ⟨[], 0, 0, 0, none, CutAt.zero c t, rfl, rfl, rfl, Lib.hid (own_nil _ _ _), Lib.hid (Below.refl _ _)⟩
  case round =>
    obtain ⟨ps, f, k, c', A', hC, rfl, rfl, rfl, HO, HB⟩ := hrel
    have hfk := hC.1
    have hkl := hC.2.1
    have hpf := hC.2.2.1
    by_cases hlt : k < s.size
    · have hlt' : (k : Int) < (s.size : Int) := by omega
      have hk0 : (0 : Int) ≤ (k : Int) := by omega
      have hf0 : (0 : Int) ≤ (f : Int) := by omega
      have hfk' : (f : Int) ≤ (k : Int) := by omega
      have hks : (k : Int) ≤ (s.size : Int) := by omega
      have w1 : IntKind.i64.wrap ((k : Int) + 1) = (k : Int) + 1 := IntWalk.i64_in _ (by omega)
      have hX := HGT.out k hlt
      by_cases hc : t.getD k 0 = c
      · have hx : (s[k]'hlt).toNat = c.toNat := by rw [hX, hc]
        have HC2 := Lib.hid (hC.hit (by omega) hc)
        have hex := HXT.out f k hfk (by omega)
        obtain ⟨P, hP⟩ : ∃ P, P = (t.drop f).take (k - f) := ⟨_, rfl⟩
        rw [← hP] at hex HC2
        have hk4 : ps.length + 1 ≤ 4000000000 := by omega
        clear hX hc hP hC
        go_wp2_with (at_builtin; refine wpList_pushStr _ (by rfl) _ _ (by rfl) w.heap.size A' ps.length c' _ (strL P) HO.out HB.out.size hk4 (by rfl) (by rfl) ?_; intro g cap w3 ho3 hg3; have HO3 := Lib.hid ho3; have HB3 : Hid (Below w.heap.size w w3) := Lib.hid ((HB.out.alloc HB.out.size _).grown hg3 (by simp; have := HB.out.size; omega) fun q hq => (HO.out.lt q hq).1); clear ho3 hg3)
        go_roundw
        case rel =>
          refine ⟨ps ++ [P], k + 1, k + 1, cap, some ⟨g, 0, none⟩, HC2.out, by go_num, by go_num, by simp, Lib.hid ?_, HB3⟩
          rw [List.map_append, List.length_append]
          exact HO3.out
        case measure => simp [intOf]; omega
      · have hx : ¬ (s[k]'hlt).toNat = c.toNat := by
          rw [hX]
          intro e
          exact hc (UInt8.toNat_inj.1 e)
        have hx2 : ¬ ((s[k]'hlt).toNat : Int) = (c.toNat : Int) := by omega
        have HC2 := Lib.hid (hC.miss (by omega) hc)
        clear hX hc hC
        go_wp2_with fail
        go_roundw
        case rel => exact ⟨ps, f, k + 1, c', A', HC2.out, rfl, by go_num, rfl, HO, HB⟩
        case measure => simp [intOf]; omega
    · obtain rfl : k = t.length := by omega
      have HD := Lib.hid hC.done
      have hlt' : ¬ (t.length : Int) < (s.size : Int) := by omega
      have hf0 : (0 : Int) ≤ (f : Int) := by omega
      have hfs : (f : Int) ≤ (s.size : Int) := by omega
      have hex := HXT.out f s.size (by omega) (Nat.le_refl _)
      rw [List.take_of_length_le (by simp; omega)] at hex
      obtain ⟨P, hP⟩ : ∃ P, P = t.drop f := ⟨_, rfl⟩
      rw [← hP] at hex HD
      have hk4 : ps.length + 1 ≤ 4000000000 := by omega
      clear hC hP
      go_wp2_with (at_builtin; refine wpList_pushStr _ (by rfl) _ _ (by rfl) w.heap.size A' ps.length c' _ (strL P) HO.out HB.out.size hk4 (by rfl) (by rfl) ?_; intro g cap w3 ho3 hg3; have HO3 := Lib.hid ho3; have HB3 : Hid (Below w.heap.size w w3) := Lib.hid ((HB.out.alloc HB.out.size _).grown hg3 (by simp; have := HB.out.size; omega) fun q hq => (HO.out.lt q hq).1); clear ho3 hg3)
      go_ret
      rw [HD.out]
      have hlen : (ps ++ [P]).length = ps.length + 1 := by simp
      refine ⟨some ⟨g, 0, none⟩, cap, (ps ++ [P]).map strL, by rw [hlen]; rfl, ?_, ?_, ?_, HB3.out⟩
      · rw [hlen, List.map_append]; exact RdS.own HO3.out
      · unfold bytesL; rw [List.map_map]; conv => rhs; rw [← List.map_id (ps ++ [P])]
        apply List.map_congr_left; intro x _; simp [strL]
      · rw [hlen]; exact own_cap HO3.out
end Go.Proofs.YtjdpgakkphdjlaaGreatDoor
