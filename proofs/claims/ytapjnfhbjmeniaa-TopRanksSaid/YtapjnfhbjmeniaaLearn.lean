/- Walks: how often signs are in rows (chapter 12). -/
import Derived.Test.YtapjnfhbjmeniaaScale
import Derived.Test.YtapjnfhbjmeniaaMem
import Derived.Test.YtapjnfhbjmeniaaShelf
import Derived.Laws.CopyOwn
import Derived.Deep.RegionLaw
namespace Go.Proofs.Ytapjnfhbjmeniaa
open Go.RowKit

/-- A row of ones, so far, and noughts behind. -/
def onesTo (m n : Nat) : List Value := List.replicate n (.int .i64 1) ++ List.replicate (m - n) (.int .i64 0)
theorem onesTo_length {m n : Nat} (h : n ≤ m) : (onesTo m n).length = m := by simp [onesTo]; omega
theorem onesTo_splice {m n k : Nat} (h : n + k ≤ m) : splice (onesTo m n) n (List.replicate k (.int .i64 1)) = onesTo m (n + k) := by
  unfold splice onesTo
  rw [List.take_append_of_le_length (by simp), List.take_of_length_le (by simp), List.length_replicate, List.drop_append, List.drop_of_length_le (by simp), List.nil_append, List.length_replicate]
  rw [List.drop_replicate, ← List.append_assoc, List.replicate_append_replicate]
  congr 1; congr 1; omega
theorem onesTo_own {w : World} {base g m : Nat} (hb : base ≤ g) (h : w.heap[g]? = some (.cells (onesTo m m).toArray 3 (0, 0))) (hm : m ≤ 1000000) :
    w.ownsRow base 3 1 (.slice (some ⟨g, 0, none⟩) m m) m (ivals (List.replicate m 1)) := by
  have e : onesTo m m = ivals (List.replicate m 1) := by simp [onesTo, ivals]
  rw [e] at h
  exact ⟨by simp [ivals], .inr ⟨g, m, _, rfl, hb, h, Nat.le_refl _, by unfold maxLen; omega, by simp [ivals], by simp [ivals]⟩⟩
theorem onesTo_get {m n j : Nat} (h : j < n) : (onesTo m n)[j]? = some (.int .i64 1) := by
  unfold onesTo
  rw [List.getElem?_append_left (by simp; exact h), List.getElem?_replicate, if_pos h]
set_option maxHeartbeats 2000000 in
set_option maxRecDepth 100000 in
theorem repeat_any (m g0 : Nat) (w : World) (hm : 1 ≤ m ∧ m ≤ 40) (hc : w.cell? ⟨g0, 0, none⟩ = some (.int .i64 1)) :
    Calls Try.prog 44 #[.slice (some ⟨g0, 0, none⟩) 1 1, .int .i64 m] w (OwnI 3 (List.replicate m 1) w) := by
  have hmk := make_ints m (by omega)
  have HMU : Hid (∀ W, Calls Try.prog 78 #[.int .u64 1, .int .u64 m] W fun e w' => e = .returned (.tuple #[.int .u64 0, .int .u64 m]) ∧ w' = W) := Lib.hid fun W => by
    have := Try.bits_Mul 1 m (by omega) (by omega) W
    rw [show (1 * m / 18446744073709551616 : Nat) = 0 by omega, show (1 * m % 18446744073709551616 : Nat) = m by omega] at this
    exact this
  obtain ⟨i0, hi, hz0, hz1, hz2⟩ := info_parts int_info
  have hsz1 : (Try.prog.info? 3).map (·.size) = some 1 := by rw [hi]; simp [hz1]
  have HG0 : Hid (g0 < w.heap.size) := Lib.hid (World.block_lt_of_cell? w _ hc)
  have HH : Hid ((w.alloc (.cells (madeCells #[.int .i64 0] m) 3)).heap[w.heap.size]? = some (.cells (onesTo m 0).toArray 3 (0, 0))) := Lib.hid (by
    rw [heap_alloc_new]
    congr 2
    apply Array.ext'
    rw [toList_madeCells_one]
    simp [onesTo])
  have HC1 : Hid ((w.alloc (.cells (madeCells #[.int .i64 0] m) 3)).cell? ⟨g0, 0, none⟩ = some (.int .i64 1)) := Lib.hid ((World.cell?_alloc_lt w _ ⟨g0, 0, none⟩ HG0.out).trans hc)
  have HB0 := Lib.hid (below_alloc0 w (.cells (madeCells #[.int .i64 0] m) 3))
  have hbig : ¬ (9223372036854775807 : Int) < (m : Int) := by omega
  have HSZ := Lib.hid hsz1
  clear hc hi hz0 hz1 hz2 hsz1
  go_enter Try.func44, Try.ntmps44
  go_wp2_with fail
  refine (HMU.out _).mono ?_
  rintro e w' ⟨rfl, rfl⟩
  go_wp2_with (refine wpList_copy_splice (by rfl) (.tmp 31) (.tmp 32) _ _ (by rfl) 3 Try.underlying22 HSZ.out _ _ _ _ _ _ (by rfl) (by rfl) w'.heap.size 0 (onesTo m 0) 3 HH.out [.int .i64 1] (by simp [Nat.min_def]; omega) (fun _ => ⟨rfl, ⟨g0, 0, none⟩, rfl, fun j v hj => by match j, hj with | 0, hj => simp at hj; subst hj; exact HC1.out⟩) (by rw [onesTo_length (by omega)]; simp; omega) (by intro v hv; simp at hv; subst hv; rfl) w'.heap.size w' HB0.out (Nat.le_refl _) ?_; intro w2 hh2 hb2)
  have hh3 : Hid (w2.heap[w'.heap.size]? = some (.cells (onesTo m 1).toArray 3 (0, 0))) := Lib.hid (by
    have := hh2.out
    rw [show ([.int .i64 1] : List Value) = List.replicate 1 (.int .i64 1) from rfl, onesTo_splice (by omega)] at this
    exact this)
  have HB2 := Lib.hid hb2
  clear hh2 hb2 HH HC1 HB0 hmk HMU
  go_loopw [8] (fun i wr => ∃ n : Nat, 1 ≤ n ∧ n ≤ m ∧ i = .int .i64 n ∧ Hid (wr.heap[w'.heap.size]? = some (.cells (onesTo m n).toArray 3 (0, 0))) ∧ Hid (Below w'.heap.size w' wr)) (fun i _ => m - (intOf i).toNat)
  case atStart => exact ⟨1, by omega, by omega, rfl, hh3, HB2⟩
  case round =>
    obtain ⟨n, hn1, hnm, rfl, HR, RB⟩ := hrel
    clear hh3 HB2
    by_cases hlt : n < m
    · obtain ⟨K, hK⟩ : ∃ K, K = Nat.min n (m - n) := ⟨_, rfl⟩
      have hK1 : 1 ≤ K ∧ K ≤ n ∧ n + K ≤ m := by have e : K = min n (m - n) := hK; omega
      have hmn : ¬ m = n := by omega
      have hlt' : (n : Int) < (m : Int) := by omega
      have hle' : (n : Int) ≤ (m : Int) := by omega
      have HSP := Lib.hid (onesTo_splice (m := m) (n := n) (k := K) hK1.2.2)
      have HSRC : Hid (∀ j v, (List.replicate K (Value.int .i64 1))[j]? = some v → wr.cell? ((⟨w'.heap.size, 0, none⟩ : Addr).add j) = some v) := Lib.hid fun j v hj => by
        have hjK : j < K := by
          rcases Nat.lt_or_ge j K with q | q
          · exact q
          · rw [List.getElem?_eq_none (by simp; omega)] at hj; cases hj
        rw [List.getElem?_replicate, if_pos hjK] at hj
        rw [show (⟨w'.heap.size, 0, none⟩ : Addr).add j = ⟨w'.heap.size, j, none⟩ by unfold Addr.add; split <;> simp_all]
        rw [cell_of_row _ w'.heap.size j _ 3 (0, 0) HR.out, List.getElem?_toArray, onesTo_get (by omega)]
        exact hj
      have HKH := Lib.hid hK
      have hwr : IntKind.i64.wrap ((n : Int) + (K : Int)) = (n : Int) + (K : Int) := IntWalk.i64_in _ (by omega)
      clear hK
      go_wp2_with fail
      go_region_held3 (fun _ => True) (first | trivial) ((refine step_copy_splice (by rfl) (.tmp 41) (.tmp 44) _ _ (by rfl) 3 Try.underlying22 HSZ.out _ _ _ _ _ _ (by rfl) (by rfl) w'.heap.size n (onesTo m n) 3 (by exact HR.out) (List.replicate K (.int .i64 1)) (by rw [List.length_replicate]; exact HKH.out) (fun _ => ⟨by rfl, ⟨w'.heap.size, 0, none⟩, by rfl, by exact HSRC.out⟩) (by rw [onesTo_length (by omega), List.length_replicate]; exact hK1.2.2) (by intro v hv; rw [List.eq_of_mem_replicate hv]; rfl) w'.heap.size w' (below_same RB.out (by rfl) (by rfl) (by rfl) (by rfl)) (Nat.le_refl _) ?_; intro w4 hh4 hb4))
      have HB4 := Lib.hid hb4
      have HH4 : Hid (w4.heap[w'.heap.size]? = some (.cells (onesTo m (n + K)).toArray 3 (0, 0))) := Lib.hid (by rw [← HSP.out]; exact hh4.out)
      clear hb4 hh4
      go_wp2_with fail
      go_roundw
      case rel => exact ⟨n + K, by omega, by omega, by simp, HH4, HB4⟩
      case measure => simp [intOf]; omega
    · obtain rfl : n = m := by omega
      have HO := Lib.hid (onesTo_own (Nat.le_refl _) HR.out (by omega))
      go_wp2_with fail
      go_ret
      exact ⟨some ⟨w'.heap.size, 0, none⟩, n, by rw [List.length_replicate]; rfl, by rw [List.length_replicate]; exact HO.out, RB.out⟩
end Go.Proofs.Ytapjnfhbjmeniaa
