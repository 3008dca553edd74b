/- Walks: slices.Reverse over bytes of the call's own (for chapter 11). -/
import Derived.Test.YtapjnfhbjmeniaaBytes
import Derived.Deep.QuietTactic
import Derived.BigQuiet
import Derived.BigRegion
namespace Go.Proofs.Ytapjnfhbjmeniaa
open Go.RowKit

/-- So far turned round: i from either end. -/
def rvAt (l : List Nat) (i : Nat) : List Nat := (List.range l.length).map fun j => if j < i ∨ l.length - 1 - j < i then l.getD (l.length - 1 - j) 0 else l.getD j 0
theorem rvAt_length (l : List Nat) (i : Nat) : (rvAt l i).length = l.length := by simp [rvAt]
theorem rvAt_getD {l : List Nat} {i j : Nat} (h : j < l.length) : (rvAt l i).getD j 0 = if j < i ∨ l.length - 1 - j < i then l.getD (l.length - 1 - j) 0 else l.getD j 0 := by
  rw [List.getD_eq_getElem?_getD, List.getElem?_eq_getElem (by rw [rvAt_length]; exact h)]
  simp [rvAt]
theorem nlist_ext {a b : List Nat} (hl : a.length = b.length) (h : ∀ j, j < a.length → a.getD j 0 = b.getD j 0) : a = b := by
  apply List.ext_getElem hl
  intro j h1 h2
  have := h j h1
  rwa [List.getD_eq_getElem?_getD, List.getElem?_eq_getElem h1, List.getD_eq_getElem?_getD, List.getElem?_eq_getElem h2] at this
theorem rvAt_zero (l : List Nat) : rvAt l 0 = l := by
  refine nlist_ext (rvAt_length _ _) fun j hj => ?_
  rw [rvAt_length] at hj
  rw [rvAt_getD hj, if_neg (by omega)]
theorem getD_reverse {l : List Nat} {j : Nat} (h : j < l.length) : l.reverse.getD j 0 = l.getD (l.length - 1 - j) 0 := by
  rw [List.getD_eq_getElem?_getD, List.getElem?_eq_getElem (by simpa using h), List.getElem_reverse, List.getD_eq_getElem?_getD, List.getElem?_eq_getElem (by omega)]
theorem rvAt_done {l : List Nat} {i : Nat} (h : l.length ≤ 2 * i + 1) : rvAt l i = l.reverse := by
  refine nlist_ext (by rw [rvAt_length, List.length_reverse]) fun j hj => ?_
  rw [rvAt_length] at hj
  rw [rvAt_getD hj, getD_reverse hj]
  split
  · rfl
  · rw [show l.length - 1 - j = j by omega]
theorem getD_set2 (l : List Nat) (i j x : Nat) (h : i < l.length) : (l.set i x).getD j 0 = if i = j then x else l.getD j 0 := by
  rw [List.getD_eq_getElem?_getD, List.getElem?_set, List.getD_eq_getElem?_getD]
  by_cases e : i = j
  · subst e; rw [if_pos rfl, if_pos h, if_pos rfl]; rfl
  · rw [if_neg e, if_neg e]
theorem rvAt_step {l : List Nat} {i : Nat} (h : 2 * i + 1 < l.length) : ((rvAt l i).set i (l.getD (l.length - 1 - i) 0)).set (l.length - 1 - i) (l.getD i 0) = rvAt l (i + 1) := by
  refine nlist_ext (by rw [List.length_set, List.length_set, rvAt_length, rvAt_length]) fun j hj => ?_
  rw [List.length_set, List.length_set, rvAt_length] at hj
  rw [getD_set2 _ _ _ _ (by rw [List.length_set, rvAt_length]; omega), getD_set2 _ _ _ _ (by rw [rvAt_length]; omega), rvAt_getD hj, rvAt_getD hj]
  by_cases h1 : l.length - 1 - i = j
  · subst h1
    rw [if_pos rfl, if_pos (by omega)]; congr 1; omega
  · rw [if_neg h1]
    by_cases h2 : i = j
    · subst h2
      rw [if_pos rfl, if_pos (by omega)]
    · rw [if_neg h2]
      by_cases h3 : j < i ∨ l.length - 1 - j < i
      · rw [if_pos h3, if_pos (by omega)]
      · rw [if_neg h3, if_neg (by omega)]
theorem grownBy_setCellB (W : World) (b o : Nat) (v : Value) : W.grownBy (W.setCell ⟨b, o, none⟩ v) (some b) :=
  ⟨rfl, rfl, rfl, by simp, fun k _ hk => heap_setCell_other W _ k v (fun e => hk (by first | exact congrArg some e | exact congrArg some e.symm))⟩
set_option maxRecDepth 100000 in
set_option maxHeartbeats 4000000 in
theorem reverse_any (n g c base : Nat) (l : List Nat) (w : World) (hn : n ≤ 1000) (ho : w.ownsRow base 5 1 (.slice (some ⟨g, 0, none⟩) n c) n (bvals l)) :
    Calls Try.prog 83 #[.slice (some ⟨g, 0, none⟩) n c] w fun e w' => e = .returned (.tuple #[]) ∧ w'.ownsRow base 5 1 (.slice (some ⟨g, 0, none⟩) n c) n (bvals l.reverse) ∧ w.grownBy w' (some g) := by
  have hl : l.length = n := by have := own_len ho; rwa [bvals_length] at this
  have HO := Lib.hid ho
  have HL := Lib.hid hl
  clear ho hl
  go_enter Try.func83, Try.ntmps83
  go_wp2_with fail
  go_loopw [2, 3] (fun i j wr => ∃ k : Nat, 2 * k ≤ n + 1 ∧ i = .int .i64 k ∧ j = .int .i64 ((n : Int) - 1 - (k : Int)) ∧ Hid (wr.ownsRow base 5 1 (.slice (some ⟨g, 0, none⟩) n c) n (bvals (rvAt l k))) ∧ Hid (w.grownBy wr (some g))) (fun i _ _ => n - (intOf i).toNat)
  case atStart => exact ⟨0, by omega, rfl, by simp, Lib.hid (by rw [rvAt_zero]; exact HO.out), Lib.hid (World.grownBy.refl _ _)⟩
  case round =>
    obtain ⟨k, hk, rfl, rfl, HOW, HGB⟩ := hrel
    clear HO
    by_cases hlt : 2 * k + 1 < n
    · obtain ⟨J, hJ⟩ : ∃ J, J = n - 1 - k := ⟨_, rfl⟩
      have hJi : (n : Int) - 1 - (k : Int) = (J : Int) := by omega
      have hst := rvAt_step (l := l) (i := k) (by rw [HL.out]; exact hlt)
      rw [HL.out, ← hJ] at hst
      have c0 : wr.cell? ⟨g, k, none⟩ = some (.int .u8 (l.getD k 0 : Nat)) := by
        rw [HOW.out.cellAt k (by omega), bvals_get (by rw [rvAt_length, HL.out]; omega), rvAt_getD (by rw [HL.out]; omega), if_neg (by rw [HL.out]; omega)]
      have c1 : wr.cell? ⟨g, J, none⟩ = some (.int .u8 (l.getD J 0 : Nat)) := by
        rw [HOW.out.cellAt J (by omega), bvals_get (by rw [rvAt_length, HL.out]; omega), rvAt_getD (by rw [HL.out]; omega), if_neg (by rw [HL.out]; omega)]
      have f0 : wr.frozen? ⟨g, k, none⟩ = false := HOW.out.frozenAt _
      have f1 : wr.frozen? ⟨g, J, none⟩ = false := HOW.out.frozenAt _
      rw [hJi]
      obtain ⟨X, hX⟩ : ∃ X, X = l.getD k 0 := ⟨_, rfl⟩
      obtain ⟨Y, hY⟩ : ∃ Y, Y = l.getD J 0 := ⟨_, rfl⟩
      rw [← hX] at c0 hst
      rw [← hY] at c1 hst
      have HST := Lib.hid hst
      have b1 : (k : Int) < (n : Int) := by omega
      have b2 : (J : Int) < (n : Int) := by omega
      have b3 : (k : Int) < (J : Int) := by omega
      have b4 : (0 : Int) ≤ (J : Int) := by omega
      have hkJ : k + J + 1 = n := by omega
      clear hJ hst hX hY hJi
      go_wp2_with fail
      go_region
      have s1 := HOW.out.stored k (.int .u8 (Y : Int))
      have s2 := s1.1.stored J (.int .u8 (X : Int))
      have s3 := s2.1
      rw [bvals_set, bvals_set, HST.out] at s3
      have HS := Lib.hid (own_drew s3)
      have hgb : w.grownBy (((wr.setCell ⟨g, k, none⟩ (.int .u8 (Y : Int))).setCell ⟨g, J, none⟩ (.int .u8 (X : Int))).drew) (some g) :=
        ((HGB.out.trans (grownBy_setCellB _ _ _ _)).trans (grownBy_setCellB _ _ _ _)).trans ⟨rfl, rfl, rfl, Nat.le_refl _, fun _ _ _ => rfl⟩
      have HGX := Lib.hid hgb
      obtain ⟨W2, hW2⟩ : ∃ W2, W2 = ((wr.setCell ⟨g, k, none⟩ (.int .u8 (Y : Int))).setCell ⟨g, J, none⟩ (.int .u8 (X : Int))).drew := ⟨_, rfl⟩
      rw [← hW2] at HS HGX ⊢
      clear s1 s2 s3 hgb hW2 c0 c1 f0 f1
      go_wp2_with fail
      go_roundw
      case rel => exact ⟨k + 1, by omega, by go_num, by congr 1; omega, HS, HGX⟩
      case measure => simp [intOf]; omega
    · have hd := rvAt_done (l := l) (i := k) (by rw [HL.out]; omega)
      have HD := Lib.hid hd
      have hge : ¬ ((k : Int) < (n : Int) - 1 - (k : Int)) := by omega
      clear hd
      go_wp2_with fail
      go_end0
      exact ⟨rfl, by rw [← HD.out]; exact HOW.out, HGB.out⟩
/-- .. nil, or not. -/
theorem reverse_own (n base : Nat) (v : Value) (l : List Nat) (w : World) (hn : n ≤ 1000) (ho : w.ownsRow base 5 1 v n (bvals l)) :
    Calls Try.prog 83 #[v] w fun e w' => e = .returned (.tuple #[]) ∧ w'.ownsRow base 5 1 v n (bvals l.reverse) ∧ w.grownBy w' v.ownBlock := by
  rcases ho.2 with ⟨hv, h0⟩ | ⟨g, cap, cur, hv, _⟩
  · subst hv
    have hl : l = [] := by have := ho.1; rw [bvals_length, h0] at this; exact List.length_eq_zero_iff.1 (by omega)
    subst hl
    subst h0
    clear ho hn
    go_enter Try.func83, Try.ntmps83
    go_wp2_with fail
    refine wp_loop_rounds 1 ?_
    rw [rounds_succ]
    go_wp2_with fail
    go_end0
    exact ⟨rfl, World.ownsRow_nil _ _ _ _, World.grownBy.refl _ _⟩
  · subst hv
    exact reverse_any n g cap base l w hn ho
theorem own_lit (w : World) (l : List Nat) (cs : Array Value) (hcs : cs.toList = bvals l) (hl : l.length ≤ 1000000) : (w.alloc (.cells cs 5)).ownsRow w.heap.size 5 1 (.slice (some ⟨w.heap.size, 0, none⟩) l.length l.length) l.length (bvals l) := by
  have hs : cs.size = l.length := by rw [← Array.length_toList, hcs, bvals_length]
  exact ⟨by rw [bvals_length]; omega, .inr ⟨w.heap.size, l.length, cs, rfl, Nat.le_refl _, heap_alloc_new w _, Nat.le_refl _, by unfold maxLen; omega, by omega, by rw [hcs, Nat.mul_one, List.take_of_length_le (by rw [bvals_length]; omega)]⟩⟩
end Go.Proofs.Ytapjnfhbjmeniaa
