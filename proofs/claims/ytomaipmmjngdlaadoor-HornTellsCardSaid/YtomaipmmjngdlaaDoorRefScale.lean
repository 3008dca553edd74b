/- The document's answers, walked (chapter 10): counts, shares, and whose a place is. -/
import Derived.Test.YtomaipmmjngdlaaDoorScale2
import Derived.Test.YtomaipmmjngdlaaDoorRef1
import Derived.BigQuiet
namespace Go.Proofs.YtomaipmmjngdlaaDoor
open Go.RowKit

theorem rsum_any (A : Option Addr) (n c : Nat) (l : List Int) (w : World) (B : Nat) (h : RdI w B A n l) (hb : ∀ x ∈ l, -1000000000 ≤ x ∧ x ≤ 1000000000) (hn : n ≤ 1000) :
    Calls Tryd.prog 38 #[.slice A n c] w fun e w' => e = .returned (.int .i64 (Ph.total l)) ∧ w = w' := by
  have HL := Lib.hid h.len
  have H := Lib.hid h
  have HB := Lib.hid hb
  clear h hb
  go_enter Tryd.func38, Tryd.ntmps38
  go_wp2_with fail
  go_loop [3, 4] (fun s i => ∃ k : Nat, k ≤ n ∧ i = .int .i64 k ∧ s = .int .i64 (Ph.total (l.take k))) (fun _ i => n - (intOf i).toNat)
  case atStart => exact ⟨0, Nat.zero_le _, rfl, rfl⟩
  case round =>
    obtain ⟨k, hk, rfl, rfl⟩ := hrel
    by_cases hlt : k < n
    · obtain ⟨b, off, rfl, _, hc⟩ := H.out.at_ hlt
      have hkl : k < l.length := by rw [HL.out]; exact hlt
      have hx := HB.out _ (Ph.getD_mem (l := l) (i := k) hkl)
      have ht := total_take_abs HB.out (by rw [HL.out]; exact hn) k
      have hs : Hid (Ph.total (l.take (k + 1)) = Ph.total (l.take k) + l.getD k 0) := Lib.hid (by rw [Ph.take_snoc l k hkl, Ph.total_snoc])
      obtain ⟨x, hxe⟩ : ∃ x, x = l.getD k 0 := ⟨_, rfl⟩
      rw [← hxe] at hc hx hs
      clear hxe hkl
      go_wp2_with fail
      go_round
      case rel => exact ⟨k + 1, by omega, by go_num, by rw [hs.out]⟩
      case measure => simp [intOf]; omega
    · go_wp2
      go_ret
      exact ⟨ret_int (by rw [List.take_of_length_le (by rw [HL.out]; omega)]), rfl⟩
theorem badCount_mem {l : List Int} {k : Nat} (hk : k < l.length) (hx : l.getD k 0 < 0 ∨ 1000000 < l.getD k 0) : l.any badCount = true := by
  rw [List.any_eq_true]
  exact ⟨_, Ph.getD_mem hk, by unfold badCount; simp; exact hx⟩
theorem rshares_any (A : Option Addr) (n c : Nat) (f : List Int) (w : World) (B : Nat) (h : RdI w B A n f) (hn : n ≤ 100000000000000) :
    Calls Tryd.prog 15 #[.slice A n c] w fun e w' => e = .returned (.bool (decide (shErr f = 0))) ∧ w = w' := by
  have hl := h.len
  by_cases hz : n < 1 ∨ 40 < n
  · have e : decide (shErr f = 0) = false := decide_eq_false fun h => by have := shErr_zero.1 h; have h1 := this.1; have h2 := this.2.1; omega
    rw [e]
    clear hl e h
    by_cases h1 : n = 0
    · subst h1
      go_enter Tryd.func15, Tryd.ntmps15
      go_wp2_with fail
      go_ret
      exact ⟨rfl, rfl⟩
    · have h2 : ¬ (n : Int) < 1 := by omega
      have h3 : (40 : Int) < (n : Int) := by omega
      have h4 : 40 < n := by omega
      go_enter Tryd.func15, Tryd.ntmps15
      go_wp2_with fail
      go_ret
      exact ⟨rfl, rfl⟩
  · have h2 : ¬ (n : Int) < 1 := by omega
    have h3 : ¬ (40 : Int) < (n : Int) := by omega
    have H := Lib.hid h
    have HL := Lib.hid hl
    have HB1 : Hid (∀ k, k < n → f.getD k 0 < 0 ∨ 256 < f.getD k 0 → decide (shErr f = 0) = false) := Lib.hid fun k hk hx => decide_eq_false fun h => by
      have hs := shErr_zero.1 h
      have h0 : ∀ x ∈ f, 0 ≤ x := fun x hx => (hs.2.2.1 x hx).1
      have h1 := Ph.mem_le_total h0 _ (Ph.getD_mem (l := f) (i := k) (by omega))
      have h2 := h0 _ (Ph.getD_mem (l := f) (i := k) (by omega))
      have h3 := hs.2.2.2
      omega
    have HOK : Hid ((∀ k, k < n → 0 ≤ f.getD k 0 ∧ f.getD k 0 ≤ 256) → (∀ x ∈ f, 0 ≤ x ∧ x ≤ 256) ∧ decide (shErr f = 0) = (Ph.total f == 256)) := Lib.hid fun hx => by
      have hm : ∀ x ∈ f, 0 ≤ x ∧ x ≤ 256 := fun x hm => by
        obtain ⟨i, hi, rfl⟩ := List.mem_iff_getElem.1 hm
        have := hx i (by omega)
        rwa [List.getD_eq_getElem?_getD, List.getElem?_eq_getElem hi] at this
      refine ⟨hm, ?_⟩
      by_cases ht : Ph.total f = 256
      · rw [decide_eq_true (shErr_zero.2 ⟨by omega, by omega, hm, ht⟩)]; simp [ht]
      · rw [decide_eq_false fun h => ht (shErr_zero.1 h).2.2.2]; simp [ht]
    have HS := Lib.hid fun hb W hW => rsum_any A n c f W B hW hb (by omega)
    obtain ⟨E, hE⟩ : ∃ E, E = decide (shErr f = 0) := ⟨_, rfl⟩
    rw [← hE] at HB1 HOK ⊢
    have hz1 : 1 ≤ n ∧ n ≤ 40 := by omega
    clear hl h hE hz
    go_enter Tryd.func15, Tryd.ntmps15
    go_wp2_with fail
    go_loop [3] (fun i => ∃ k : Nat, k ≤ n ∧ i = .int .i64 k ∧ Hid (∀ j, j < k → 0 ≤ f.getD j 0 ∧ f.getD j 0 ≤ 256)) (fun i => n - (intOf i).toNat)
    case atStart => exact ⟨0, Nat.zero_le _, rfl, Lib.hid fun j hj => absurd hj (by omega)⟩
    case round =>
      obtain ⟨k, hk, rfl, HJ⟩ := hrel
      by_cases hlt : k < n
      · obtain ⟨b, off, rfl, _, hc⟩ := H.out.at_ hlt
        have HBD := Lib.hid (HB1.out k hlt)
        have hext : 0 ≤ f.getD k 0 ∧ f.getD k 0 ≤ 256 → ∀ j, j < k + 1 → 0 ≤ f.getD j 0 ∧ f.getD j 0 ≤ 256 := fun hx j hj => by
          by_cases e : j < k
          · exact HJ.out j e
          · obtain rfl : j = k := by omega
            exact hx
        have HXT := Lib.hid hext
        obtain ⟨x, hx⟩ : ∃ x, x = f.getD k 0 := ⟨_, rfl⟩
        rw [← hx] at hc HBD HXT
        have hlt' : (k : Int) < (n : Int) := by omega
        clear hx hext
        by_cases hx1 : x < 0
        · have hE1 : E = false := HBD.out (.inl hx1)
          subst hE1
          go_wp2_with fail
          go_ret
          exact ⟨rfl, rfl⟩
        · by_cases hx6 : 256 < x
          · have hE1 : E = false := HBD.out (.inr hx6)
            subst hE1
            go_wp2_with fail
            go_ret
            exact ⟨rfl, rfl⟩
          · have HJ2 := Lib.hid (HXT.out (by omega))
            go_wp2_with fail
            go_round
            case rel => exact ⟨k + 1, by omega, by go_num, HJ2⟩
            case measure => simp [intOf]; omega
      · obtain rfl : k = n := by omega
        have hok := HOK.out HJ.out
        have HSS := Lib.hid (HS.out (fun x hx => by have := hok.1 x hx; omega))
        have HE := Lib.hid hok.2
        obtain ⟨T, hT⟩ : ∃ T, T = Ph.total f := ⟨_, rfl⟩
        rw [← hT] at HE HSS
        clear hT hok hlt
        go_wp2_with fail
        refine (HSS.out _ H.out).mono ?_
        rintro e wk ⟨rfl, rfl⟩
        go_wp2_with fail
        go_ret
        exact ⟨ret_bool HE.out.symm, rfl⟩
theorem rfind_any (A : Option Addr) (n c : Nat) (f : List Int) (a : Int) (w : World) (B : Nat) (h : RdI w B A n f) (hc : n ≤ c) (h0 : Ph.sharesOk f) (ha : 0 ≤ a ∧ a < 256) :
    Calls Tryd.prog 39 #[.slice A n c, .int .i64 a] w fun e w' => e = .returned (.int .i64 (Ph.atL f a : Nat)) ∧ w = w' := by
  have HL := Lib.hid h.len
  have H := Lib.hid h
  have H0 := Lib.hid h0
  have hn : n ≤ 40 := by have := h.len; have := h0.2.1; omega
  have hsp := Ph.atL_spec f a ha.1 (by have := h0.2.2.2; omega)
  have hXn : Ph.atL f a < n := by rw [← h.len]; exact hsp.1
  have HS := Lib.hid fun (k : Nat) (hk : k ≤ n) W hW => rsum_any A k c (f.take k) W B hW (fun x hx => by have := h0.2.2.1 x (List.mem_of_mem_take hx); omega) (by omega)
  have hp0 : ∀ x ∈ f, 0 ≤ x := fun x hx => (h0.2.2.1 x hx).1
  have HLT : Hid (∀ k, k < Ph.atL f a → Ph.pre f k + f.getD k 0 ≤ a ∧ 0 ≤ f.getD k 0) := Lib.hid fun k hk => by
    have h1 := Ph.pre_mono hp0 (show k + 1 ≤ Ph.atL f a by omega)
    have h2 := Ph.pre_succ f k (by have := hsp.1; omega)
    have h3 := hp0 _ (Ph.getD_mem (l := f) (i := k) (by have := hsp.1; omega))
    have h4 := hsp.2.1
    omega
  have HEQ : Hid (Ph.pre f (Ph.atL f a) ≤ a ∧ a < Ph.pre f (Ph.atL f a) + f.getD (Ph.atL f a) 0 ∧ f.getD (Ph.atL f a) 0 ≤ 256) := Lib.hid (by
    have h2 := Ph.pre_succ f (Ph.atL f a) hsp.1
    have h4 := h0.2.2.1 _ (Ph.getD_mem (l := f) (i := Ph.atL f a) hsp.1)
    have h5 := hsp.2
    omega)
  obtain ⟨X, hX⟩ : ∃ X, X = Ph.atL f a := ⟨_, rfl⟩
  rw [← hX] at HLT HEQ hXn ⊢
  clear h h0 hsp hp0 hX
  go_enter Tryd.func39, Tryd.ntmps39
  go_wp2_with fail
  go_loop [5, 6] (fun i _ => ∃ k : Nat, k ≤ X ∧ i = .int .i64 k) (fun i _ => n - (intOf i).toNat)
  case atStart => exact ⟨0, Nat.zero_le _, rfl⟩
  case round =>
    obtain ⟨k, hk, rfl⟩ := hrel
    have hkn : k < n := by omega
    obtain ⟨b, off, rfl, _, hcell⟩ := H.out.at_ hkn
    have hpb := pre_bd H0.out k
    have HSK := Lib.hid fun W hW => HS.out k (by omega) W hW
    have hpe : Hid (Ph.total (f.take k) = Ph.pre f k) := Lib.hid rfl
    rw [hpe.out] at HSK
    have hkn' : (k : Int) < (n : Int) := by omega
    have hkc : (k : Int) ≤ (c : Int) := by omega
    by_cases hkX : k < X
    · have hl := HLT.out k hkX
      obtain ⟨x, hx⟩ : ∃ x, x = f.getD k 0 := ⟨_, rfl⟩
      rw [← hx] at hcell hl
      obtain ⟨P, hP⟩ : ∃ P, P = Ph.pre f k := ⟨_, rfl⟩
      rw [← hP] at hl hpb HSK
      have k1 : IntKind.i64.wrap (P + x) = P + x := IntWalk.i64_in _ (by omega)
      have h1 : P ≤ a := by omega
      have h2 : ¬ a < P + x := by omega
      clear hx hP
      go_wp2_with fail
      refine (HSK.out _ (H.out.take (by omega))).mono ?_
      rintro e wk ⟨rfl, rfl⟩
      go_wp2_with fail
      go_round
      case rel => exact ⟨k + 1, by omega, by go_num⟩
      case measure => simp [intOf]; omega
    · obtain rfl : k = X := by omega
      have hl := HEQ.out
      obtain ⟨x, hx⟩ : ∃ x, x = f.getD k 0 := ⟨_, rfl⟩
      rw [← hx] at hcell hl
      obtain ⟨P, hP⟩ : ∃ P, P = Ph.pre f k := ⟨_, rfl⟩
      rw [← hP] at hl hpb HSK
      have k1 : IntKind.i64.wrap (P + x) = P + x := IntWalk.i64_in _ (by omega)
      have h1 : P ≤ a := by omega
      have h2 : a < P + x := by omega
      clear hx hP
      go_wp2_with fail
      refine (HSK.out _ (H.out.take (by omega))).mono ?_
      rintro e wk ⟨rfl, rfl⟩
      go_wp2_with fail
      go_ret
      exact ⟨rfl, rfl⟩
end Go.Proofs.YtomaipmmjngdlaaDoor
