/- Walks: where shares start, and whose a place is (chapter 10). -/
import Derived.Test.YtapjnfhbjmeniaaScale
import Derived.Test.YtapjnfhbjmeniaaPhHorn
namespace Go.Proofs.Ytapjnfhbjmeniaa
open Go.RowKit

instance sharesDec (f : List Int) : Decidable (Ph.sharesOk f) := by unfold Ph.sharesOk; infer_instance
/-- What is wrong with shares. -/
def shErr (f : List Int) : Int := if Ph.sharesOk f then 0 else 3
theorem shErr_zero {f : List Int} : shErr f = 0 ↔ Ph.sharesOk f := by
  unfold shErr
  split
  · exact ⟨fun _ => by assumption, fun _ => rfl⟩
  · exact ⟨fun h => absurd h (by omega), fun h => absurd h (by assumption)⟩
theorem shErr_no {f : List Int} (h : ¬ Ph.sharesOk f) : shErr f = 3 := if_neg h
theorem shErr_two (f : List Int) : shErr f = 0 ∨ shErr f = 3 := by unfold shErr; split <;> simp
theorem shcheck_any (A : Option Addr) (n c : Nat) (f : List Int) (w : World) (B : Nat) (h : RdI w B A n f) (hn : n ≤ 100000000000000) :
    Calls Try.prog 48 #[.slice A n c] w fun e w' => e = .returned (errV (shErr f)) ∧ w = w' := by
  have hl := h.len
  by_cases hz : n = 0
  · have e : shErr f = 3 := shErr_no fun h => by have := h.1; omega
    rw [e, errV_ne (by omega)]
    subst hz
    clear hl e h
    go_enter Try.func48, Try.ntmps48
    go_wp2_with fail
    go_ret
    exact ⟨rfl, rfl⟩
  · have hnn : ((n : Int) == 0) = false := by simp; omega
    by_cases h8 : 40 < n
    · have e : shErr f = 3 := shErr_no fun h => by have := h.2.1; omega
      rw [e, errV_ne (by omega)]
      clear hl e h
      go_enter Try.func48, Try.ntmps48
      go_wp2_with fail
      go_ret
      exact ⟨rfl, rfl⟩
    · have H := Lib.hid h
      have HL := Lib.hid hl
      have hn40 : n ≤ 40 := by omega
      clear h hl hz h8
      go_enter Try.func48, Try.ntmps48
      go_wp2_with fail
      go_loop [3, 17] (fun t i => ∃ k : Nat, k ≤ n ∧ i = .int .i64 k ∧ t = .int .i64 (Ph.total (f.take k)) ∧ Hid (∀ x ∈ f.take k, 0 ≤ x ∧ x ≤ 256)) (fun _ i => n - (intOf i).toNat)
      case atStart => exact ⟨0, Nat.zero_le _, rfl, rfl, Lib.hid (by simp)⟩
      case round =>
        obtain ⟨k, hk, rfl, rfl, HA⟩ := hrel
        have ht0 := Ph.total_nonneg (l := f.take k) fun x hx => (HA.out x hx).1
        have ht1 := Ph.total_le (l := f.take k) (m := 256) fun x hx => (HA.out x hx).2
        have ht2 : Ph.total (f.take k) ≤ 10240 := by
          have : (f.take k).length ≤ 40 := by rw [List.length_take]; omega
          omega
        clear ht1
        by_cases hlt : k < n
        · obtain ⟨b, off, rfl, _, hc⟩ := H.out.at_ hlt
          have hkl : k < f.length := by rw [HL.out]; exact hlt
          have hx := Lib.hid (Ph.getD_mem (l := f) (i := k) hkl)
          have hs : Hid (Ph.total (f.take (k + 1)) = Ph.total (f.take k) + f.getD k 0 ∧ ∀ x ∈ f.take (k + 1), x ∈ f.take k ∨ x = f.getD k 0) := Lib.hid (by
            rw [Ph.take_snoc f k hkl, Ph.total_snoc]
            exact ⟨rfl, fun x hx => by simpa using hx⟩)
          obtain ⟨x, hxe⟩ : ∃ x, x = f.getD k 0 := ⟨_, rfl⟩
          rw [← hxe] at hc hx hs
          clear hxe hkl
          by_cases h0 : x < 0
          · have e : Hid (shErr f = 3) := Lib.hid (shErr_no fun h => by have := h.2.2.1 x hx.out; omega)
            go_wp2_with fail
            go_ret
            exact ⟨ret_val (by rw [e.out]; exact (errV_ne (by omega)).symm), rfl⟩
          · by_cases h1 : 256 < x
            · have e : Hid (shErr f = 3) := Lib.hid (shErr_no fun h => by have := h.2.2.1 x hx.out; omega)
              go_wp2_with fail
              go_ret
              exact ⟨ret_val (by rw [e.out]; exact (errV_ne (by omega)).symm), rfl⟩
            · go_wp2_with fail
              go_round
              case rel =>
                refine ⟨k + 1, by omega, by go_num, by rw [hs.out.1], Lib.hid fun y hy => ?_⟩
                rcases hs.out.2 y hy with h | h
                · exact HA.out y h
                · omega
              case measure => simp [intOf]; omega
        · have hall : Hid (f.take k = f) := Lib.hid (List.take_of_length_le (by rw [HL.out]; omega))
          rw [hall.out] at HA ht0 ht2 ⊢
          by_cases ht : Ph.total f = 256
          · have e : Hid (shErr f = 0) := Lib.hid (shErr_zero.2 ⟨by rw [HL.out]; simp at hnn; omega, by rw [HL.out]; exact hn40, HA.out, ht⟩)
            have hb : (Ph.total f != 256) = false := by rw [ht]; rfl
            clear ht
            go_wp2_with fail
            go_ret
            exact ⟨ret_val (by rw [e.out]; rfl), rfl⟩
          · have e : Hid (shErr f = 3) := Lib.hid (shErr_no fun h => ht h.2.2.2)
            have hb : (Ph.total f != 256) = true := by simpa using ht
            clear ht
            go_wp2_with fail
            go_ret
            exact ⟨ret_val (by rw [e.out]; exact (errV_ne (by omega)).symm), rfl⟩
/-- Where shares start. -/
def begins (f : List Int) : List Int := (List.range f.length).map (Ph.pre f)
theorem begins_length (f : List Int) : (begins f).length = f.length := by simp [begins]
theorem begins_getD (f : List Int) (i : Nat) (h : i < f.length) : (begins f).getD i 0 = Ph.pre f i := Ph.getD_map_range _ _ _ h
theorem pre_bd {f : List Int} (h : Ph.sharesOk f) (i : Nat) : 0 ≤ Ph.pre f i ∧ Ph.pre f i ≤ 256 := by
  have h1 := Ph.pre_nonneg (fun x hx => (h.2.2.1 x hx).1) i
  have h2 := Ph.total_take_le (l := f) (fun x hx => (h.2.2.1 x hx).1) i
  have := h.2.2.2
  unfold Ph.pre at *
  omega
theorem begins_any (A : Option Addr) (n c : Nat) (f : List Int) (w : World) (B : Nat) (h : RdI w B A n f) (hB : B ≤ w.heap.size) (h0 : Ph.sharesOk f) :
    Calls Try.prog 81 #[.slice A n c] w (OwnI 3 (begins f) w) := by
  have HL := Lib.hid h.len
  have H := Lib.hid h
  have H0 := Lib.hid h0
  have hn : n ≤ 40 := by have := h.len; have := h0.2.1; omega
  clear h h0
  go_enter Try.func81, Try.ntmps81
  go_wp2_with fail
  go_loopw [3, 4, 9] (fun v t i wr => ∃ (k : Nat) (A2 : Option Addr) (c2 : Nat), k ≤ n ∧ i = .int .i64 k ∧ t = .int .i64 (Ph.pre f k) ∧ v = .slice A2 k c2 ∧ wr.ownsRow w.heap.size 3 1 (.slice A2 k c2) k (ivals ((List.range k).map (Ph.pre f))) ∧ Below w.heap.size w wr) (fun _ _ i _ => n - (intOf i).toNat)
  case atStart => exact ⟨0, none, 0, Nat.zero_le _, rfl, rfl, rfl, own_nil _ _ _, Below.refl _ _⟩
  case round =>
    obtain ⟨k, A2, c2, hk, rfl, rfl, rfl, hown, hbw⟩ := hrel
    have HO := Lib.hid hown
    have HBW := Lib.hid hbw
    clear hown hbw
    by_cases hlt : k < n
    · obtain ⟨b, off, rfl, _, hc⟩ := (H.out.below (HBW.out.mono hB)).at_ hlt
      have hkl : k < f.length := by rw [HL.out]; exact hlt
      have hx := H0.out.2.2.1 _ (Ph.getD_mem (l := f) (i := k) hkl)
      have hp := pre_bd H0.out k
      have hs : Hid (Ph.pre f (k + 1) = Ph.pre f k + f.getD k 0) := Lib.hid (Ph.pre_succ f k hkl)
      obtain ⟨x, hxe⟩ : ∃ x, x = f.getD k 0 := ⟨_, rfl⟩
      rw [← hxe] at hc hx hs
      clear hxe hkl
      go_wp2_with (at_builtin; refine wpList_push _ (by rfl) _ _ (by rfl) w w.heap.size A2 k c2 _ (Ph.pre f k) HO.out HBW.out HBW.out.size (by omega) (by rfl) (by rfl) ?_; intro g cap w2 ho2 hb2)
      have HO2 := Lib.hid ho2
      have HB2 := Lib.hid hb2
      clear ho2 hb2
      go_wp2_with fail
      go_roundw
      case rel =>
        refine ⟨k + 1, some ⟨g, 0, none⟩, cap, by omega, by go_num, by rw [hs.out], rfl, ?_, HB2.out⟩
        rw [List.range_succ, List.map_append]
        exact HO2.out
      case measure => simp [intOf]; omega
    · obtain rfl : k = n := by omega
      go_wp2_with fail
      go_ret
      refine ⟨A2, c2, by rw [begins_length, HL.out]; rfl, ?_, HBW.out⟩
      rw [begins_length, HL.out]
      unfold begins
      rw [HL.out]
      exact HO.out
theorem sat_any (A : Option Addr) (n c : Nat) (f : List Int) (a : Int) (w : World) (B : Nat) (h : RdI w B A n f) (h0 : Ph.sharesOk f) (ha : 0 ≤ a ∧ a < 256) :
    Calls Try.prog 84 #[.slice A n c, .int .i64 a] w fun e w' => e = .returned (.int .i64 (Ph.atL f a : Nat)) ∧ w = w' := by
  have HL := Lib.hid h.len
  have H := Lib.hid h
  have H0 := Lib.hid h0
  have hn : n ≤ 40 := by have := h.len; have := h0.2.1; omega
  have hsp := Ph.atL_spec f a ha.1 (by have := h0.2.2.2; omega)
  have HSP := Lib.hid hsp
  have HU : Hid (∀ i : Nat, Ph.pre f i ≤ a → a < Ph.pre f (i + 1) → i = Ph.atL f a) := Lib.hid fun i h1 h2 => Ph.at_unique (fun x hx => (h0.2.2.1 x hx).1) h1 h2 hsp.2.1 hsp.2.2
  have HM : Hid (∀ i : Nat, Ph.pre f i ≤ a → i < n) := Lib.hid fun i hi => by
    rcases Nat.lt_or_ge i n with h1 | h1
    · exact h1
    · have h2 := Ph.pre_mono (f := f) (fun x hx => (h0.2.2.1 x hx).1) (i := f.length) (j := i) (by rw [h.len]; exact h1)
      rw [Ph.pre_all, h0.2.2.2] at h2
      omega
  clear h h0 hsp
  go_enter Try.func84, Try.ntmps84
  go_wp2_with fail
  go_loop [1, 5] (fun v i => ∃ k : Nat, i = .int .i64 k ∧ v = .int .i64 (a - Ph.pre f k) ∧ Hid (Ph.pre f k ≤ a)) (fun _ i => n - (intOf i).toNat)
  case atStart => exact ⟨0, rfl, by rw [Ph.pre_zero]; simp, Lib.hid (by rw [Ph.pre_zero]; exact ha.1)⟩
  case round =>
    obtain ⟨k, rfl, rfl, HP⟩ := hrel
    have hlt := HM.out k HP.out
    obtain ⟨b, off, rfl, _, hc⟩ := H.out.at_ hlt
    have hkl : k < f.length := by rw [HL.out]; exact hlt
    have hx := H0.out.2.2.1 _ (Ph.getD_mem (l := f) (i := k) hkl)
    have hp := pre_bd H0.out k
    have hp2 := HP.out
    have hs : Hid (Ph.pre f (k + 1) = Ph.pre f k + f.getD k 0) := Lib.hid (Ph.pre_succ f k hkl)
    obtain ⟨x, hxe⟩ : ∃ x, x = f.getD k 0 := ⟨_, rfl⟩
    rw [← hxe] at hc hx hs
    clear hxe hkl
    by_cases hge : x ≤ a - Ph.pre f k
    · have hlt2 : (k : Int) < (n : Int) := by omega
      go_wp2_with fail
      go_round
      case rel => exact ⟨k + 1, by go_num, by rw [hs.out]; go_num, Lib.hid (by rw [hs.out]; omega)⟩
      case measure => simp [intOf]; omega
    · have hk : Hid (k = Ph.atL f a) := Lib.hid (HU.out k HP.out (by rw [hs.out]; omega))
      go_wp2_with fail
      go_ret
      exact ⟨ret_int (by rw [← hk.out]), rfl⟩
/-- What is wrong with a place. -/
def findErr (f : List Int) (a : Int) : Int := if shErr f ≠ 0 then 3 else if a < 0 ∨ 255 < a then 1 else 0
theorem scaled_shares {l : List Int} (h0 : scaleErr l = 0) : Ph.sharesOk (Ph.scaled l) := by
  have hz := scaleErr_zero.1 h0
  have h1 := Ph.scaled_ok hz.2.1 (fun x hx => (hz.2.2.1 x hx).1) hz.2.2.2
  have hp : ∀ x ∈ Ph.scaled l, 0 ≤ x := by
    intro x hx
    obtain ⟨j, hj, rfl⟩ := List.mem_iff_getElem.1 hx
    have := (h1.1.2 j (by have := h1.1.1; omega)).1
    rwa [List.getD_eq_getElem?_getD, List.getElem?_eq_getElem hj] at this
  refine ⟨by have := h1.1.1; omega, by have := h1.1.1; omega, fun x hx => ⟨hp x hx, ?_⟩, h1.2⟩
  have := Ph.mem_le_total hp x hx
  omega
end Go.Proofs.Ytapjnfhbjmeniaa
