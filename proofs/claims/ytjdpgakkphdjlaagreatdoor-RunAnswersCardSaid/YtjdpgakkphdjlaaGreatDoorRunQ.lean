/- The plain law of a session (chapter 20): an answer is short; the answers' lengths. -/
import Derived.Test.YtjdpgakkphdjlaaGreatDoorRunI
import Derived.Test.YtjdpgakkphdjlaaGreatDoorRunB
namespace Pr
theorem toldL_short {l : List Int} (hn : l.length ≤ 6) (hb : ∀ x ∈ l, -9223372036854775808 ≤ x ∧ x ≤ 9223372036854775807) : (toldL l).length ≤ 200 := by
  unfold toldL
  split
  · simp
  · have h := joinW_len (l.map Go.Lib.itoa) 20 fun y hy => by
      obtain ⟨x, hx, rfl⟩ := List.mem_map.1 hy
      exact itoa_few (hb x hx)
    rw [List.length_map] at h
    have : (20 + 1) * l.length ≤ 21 * 6 := Nat.mul_le_mul_left _ hn
    omega
theorem nameL_short (E : Int) : (nameL E).length ≤ 200 := by
  unfold nameL
  split
  · decide
  · split
    · decide
    · split
      · decide
      · split <;> decide
theorem runLs_len : ∀ (ls : List (List UInt8)) (t : Ph.Tank), (∀ t' s, s ∈ ls → (lineL t' s).1.length ≤ 200) → (runLs t ls).length ≤ 201 * ls.length
  | [], _, _ => by simp [runLs]
  | s :: ls, t, h => by
    have h1 := h t s (by simp)
    have h2 := runLs_len ls (lineL t s).2 fun t' s' hs => h t' s' (by simp [hs])
    rw [runLs, List.length_append, List.length_cons, List.length_cons, Nat.mul_succ]
    omega
theorem rawL_len : ∀ (t : List UInt8), (rawL t).length ≤ t.length
  | [] => by simp [rawL]
  | x :: l => by
    have := rawL_len l
    unfold rawL
    split
    · simp; omega
    · split
      · simp
      · rename_i h; rw [h] at this; simp at this ⊢; omega
theorem ans_short {E : Int} {l : List Int} (h : E = 0 → l.length ≤ 6 ∧ ∀ x ∈ l, -9223372036854775808 ≤ x ∧ x ≤ 9223372036854775807) : (ansL E l).length ≤ 200 := by
  unfold ansL
  split
  · rename_i h0; exact toldL_short (h h0).1 (h h0).2
  · exact nameL_short E
theorem one_short {x : Int} (h : -9223372036854775808 ≤ x ∧ x ≤ 9223372036854775807) : [x].length ≤ 6 ∧ ∀ y ∈ [x], -9223372036854775808 ≤ y ∧ y ≤ 9223372036854775807 := ⟨by simp, fun y hy => by rw [List.mem_singleton.1 hy]; exact h⟩
open Go.Proofs.YtjdpgakkphdjlaaGreatDoor in
theorem do_short (w0 : List UInt8) (t : Ph.Tank) (ns : List Int) (ht : TankOk t) (hn : -9999 ≤ ns.getD 0 0 ∧ ns.getD 0 0 ≤ 9999) (hr2 : w0 = wRow → 0 ≤ ns.getD 2 0) : (ansL (doL w0 t ns).1 (doL w0 t ns).2.1).length ≤ 200 := by
  have hf : 0 ≤ Ph.full t ∧ Ph.full t ≤ 1000000 := by unfold Ph.full; have := ht.1; have := ht.2.1; have := ht.2.2; split <;> omega
  refine ans_short fun h0 => ?_
  unfold doL at h0 ⊢
  split
  · split
    · rename_i hc
      have := Ph.cnt_le (ns.getD 0 0).toNat (ns.getD 1 0).toNat (by omega) (by omega)
      exact one_short (by omega)
    · simp
  · rename_i h1
    rw [if_neg h1] at h0
    split
    · rename_i h2
      rw [if_pos h2] at h0
      have hz := Ph.pulsesErr_zero.1 h0
      have h := Ph.rank_fits hz.1 hz.2.2
      have h2 : 2 ^ (Ph.wid ns.length (Ph.loud ns)).toNat ≤ 2 ^ 20 := Nat.pow_le_pow_right (by decide) h.2
      have h3 : (2 : Nat) ^ 20 = 1048576 := by decide
      exact one_short (by omega)
    · rename_i h2
      rw [if_neg h2] at h0
      split
      · split
        · rename_i hc
          refine ⟨by rw [Ph.rowOf_length]; omega, ?_⟩
          have hr := hr2 (by assumption)
          exact loud_small (by rw [(Ph.rank_rowOf _ _ _ (by omega)).2]; omega)
        · simp
      · rename_i h3
        rw [if_neg h3] at h0
        split
        · rename_i h4
          rw [if_pos h4] at h0
          unfold nearE at h0
          split at h0
          · omega
          · split at h0
            · omega
            · split at h0
              · omega
              · split at h0
                · omega
                · rename_i a1 a2 a3 a4
                  refine ⟨by rw [Ph.near_length]; omega, loud_small ?_⟩
                  have hl := Ph.loud_nonneg ns.tail
                  have := Ph.near_loud (v := ns.tail) (k := ns.getD 0 0) (by omega) (by omega)
                  show (Ph.loud (Ph.near ns.tail (ns.getD 0 0))).toNat ≤ 1000000
                  omega
        · rename_i h4
          rw [if_neg h4] at h0
          split
          · split
            · rename_i hc
              have hs := Ph.step_ok (n := (ns.getD 0 0).toNat) (by omega)
              refine ⟨by simp, fun y hy => ?_⟩
              unfold Ph.val at hy
              rw [Int.toNat_natCast] at hy
              rcases List.mem_cons.1 hy with rfl | hy
              · omega
              · rw [List.mem_singleton.1 hy]; omega
            · simp
          · split
            · split
              · exact one_short (by omega)
              · simp
            · exact one_short (by omega)
open Go.Proofs.YtjdpgakkphdjlaaGreatDoor in
theorem line_short (t : Ph.Tank) (s : List UInt8) (ht : TankOk t) : (lineL t s).1.length ≤ 200 := by
  unfold lineL
  split
  · show badW.length ≤ 200; decide
  · rename_i x hx
    split
    · show badW.length ≤ 200; decide
    · rename_i ns hns
      split
      · have hb := argsL_bd x.below _ 0 ns hns
        refine do_short _ t ns ht ?_ ?_
        · by_cases h0 : 0 < ns.length
          · exact ⟨(hb 0 h0).1, (hb 0 h0).2.1⟩
          · rw [List.length_eq_zero_iff.1 (by omega : ns.length = 0)]; simp
        · intro hw
          rw [hw] at hx
          have hxe : x = ⟨3, false, 99⟩ := by
            have h1 : wantOf wRow = some ⟨3, false, 99⟩ := rfl
            rw [h1] at hx
            injection hx with hx
            exact hx.symm
          by_cases h2 : 2 < ns.length
          · exact (hb 2 h2).2.2 (by rw [hxe]; show 0 + 2 < 99; omega)
          · rw [List.getD_eq_getElem?_getD, List.getElem?_eq_none (by omega)]; simp
      · show badW.length ≤ 200; decide
end Pr
