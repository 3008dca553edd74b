/- Walks: slices.SortStableFunc over at most twenty numbers that stand for places, by a comparison that reads (chapter 7). -/
import Derived.Test.YtjdpgakkphdjlaaGreatDoorSound
import Derived.Test.YtjdpgakkphdjlaaGreatDoorPhAll
import Derived.Deep.QuietTactic
import Derived.BigQuiet
import Derived.BigRegion
import Derived.Maps.AppendAt
namespace Go.Proofs.YtjdpgakkphdjlaaGreatDoor
open Go.RowKit

def cmpI (x y : Int) : Int := if x < y then -1 else if y < x then 1 else 0
theorem isNaN_any (a : Int) (w : World) : Calls Tryz.prog 107 #[.int .i64 a] w fun e w' => e = .returned (.bool false) ∧ w' = w := by
  go_enter Tryz.func107, Tryz.ntmps107
  go_wp2
  go_ret
  exact ⟨ret_bool (by simp), rfl⟩
theorem compare_any (a b : Int) (w : World) : Calls Tryz.prog 91 #[.int .i64 a, .int .i64 b] w fun e w' => e = .returned (.int .i64 (cmpI a b)) ∧ w' = w := by
  have HA := Lib.hid fun x W => isNaN_any x W
  unfold cmpI
  by_cases h1 : a < b
  · rw [if_pos h1]
    go_enter Tryz.func91, Tryz.ntmps91
    go_wp2_with fail
    refine (HA.out _ _).mono ?_
    rintro e wk ⟨rfl, rfl⟩
    go_wp2_with fail
    refine (HA.out _ _).mono ?_
    rintro e wk ⟨rfl, rfl⟩
    go_wp2_with fail
    go_ret
    exact ⟨rfl, rfl⟩
  · rw [if_neg h1]
    by_cases h2 : b < a
    · rw [if_pos h2]
      go_enter Tryz.func91, Tryz.ntmps91
      go_wp2_with fail
      refine (HA.out _ _).mono ?_
      rintro e wk ⟨rfl, rfl⟩
      go_wp2_with fail
      refine (HA.out _ _).mono ?_
      rintro e wk ⟨rfl, rfl⟩
      go_wp2_with fail
      go_ret
      exact ⟨rfl, rfl⟩
    · rw [if_neg h2]
      go_enter Tryz.func91, Tryz.ntmps91
      go_wp2_with fail
      refine (HA.out _ _).mono ?_
      rintro e wk ⟨rfl, rfl⟩
      go_wp2_with fail
      refine (HA.out _ _).mono ?_
      rintro e wk ⟨rfl, rfl⟩
      go_wp2_with fail
      go_ret
      exact ⟨rfl, rfl⟩
/-- Places as numbers. -/
def casts (l : List Nat) : List Int := l.map fun (i : Nat) => (i : Int)
theorem casts_length (l : List Nat) : (casts l).length = l.length := by simp [casts]
theorem casts_append (a b : List Nat) : casts (a ++ b) = casts a ++ casts b := by simp [casts]
theorem casts_at {l : List Nat} {i : Nat} (A : List Nat) (x : Nat) (B : List Nat) (h : l = A ++ x :: B) (hi : i = A.length) : (casts l).getD i 0 = (x : Int) := by
  subst h; subst hi
  rw [casts_append, Ph.getD_right _ _ _ (by rw [casts_length]; omega), casts_length, Nat.sub_self]
  rfl
/-- Where a later one is put. -/
theorem ins_split (r : Nat → Int) (k : Nat) (B : List Nat) (hB : ∀ z ∈ B, r z < r k) : ∀ A : List Nat, (∀ z ∈ A, ¬ r z < r k) → Ph.ins r k (A ++ B) = A ++ k :: B
  | [], _ => by
    cases B with
    | nil => rfl
    | cons y B => show (if r y < r k then _ else _) = _; rw [if_pos (hB y (by simp))]; rfl
  | y :: A, hA => by
    show (if r y < r k then _ else _) = _
    rw [if_neg (hA y (by simp))]
    exact congrArg (y :: ·) (ins_split r k B hB A (fun z hz => hA z (by simp [hz])))
theorem set_swap (A : List Nat) (y x : Nat) (T : List Nat) (j : Nat) (hj : j = A.length) :
    ((casts (A ++ y :: x :: T)).set (j + 1) (y : Int)).set j (x : Int) = casts (A ++ x :: y :: T) := by
  subst hj
  simp only [casts, List.map_append, List.map_cons]
  rw [List.set_append_right _ _ (by simp), List.set_append_right _ _ (by simp)]
  simp
theorem split_last (l : List Nat) (h : l ≠ []) : ∃ A y, l = A ++ [y] := ⟨l.dropLast, l.getLast h, (List.dropLast_concat_getLast h).symm⟩
theorem prefix_ge {r : Nat → Int} {A : List Nat} {y k : Nat} (hp : (A ++ [y]).Pairwise (Ph.ahd r)) (hy : ¬ r y < r k) : ∀ z ∈ A ++ [y], ¬ r z < r k := by
  intro z hz
  rcases List.mem_append.1 hz with h | h
  · have := (List.pairwise_append.1 hp).2.2 z h y (by simp)
    rcases this with h1 | ⟨h1, _⟩ <;> omega
  · simp at h; subst h; exact hy
/-- The two rows: those that are in order, and those to come. -/
def rowAt (r : Nat → Int) (n k : Nat) : List Nat := Ph.ord r k ++ List.range' k (n - k)
theorem rowAt_length (r : Nat → Int) {n k : Nat} (h : k ≤ n) : (rowAt r n k).length = n := by unfold rowAt; rw [List.length_append, Ph.ord_length, List.length_range']; omega
theorem rowAt_cons (r : Nat → Int) {n k : Nat} (h : k < n) : rowAt r n k = Ph.ord r k ++ k :: List.range' (k + 1) (n - (k + 1)) := by
  unfold rowAt
  rw [show n - k = (n - (k + 1)) + 1 by omega, List.range'_succ]
theorem rowAt_one (r : Nat → Int) {n : Nat} (h : 0 < n) : rowAt r n 1 = List.range n := by
  unfold rowAt
  rw [show Ph.ord r 1 = [0] from rfl, List.range_eq_range', show n = (n - 1) + 1 by omega, List.range'_succ]; rfl
theorem rowAt_all (r : Nat → Int) (n : Nat) : rowAt r n n = Ph.ord r n := by unfold rowAt; simp
theorem grownBy_setCell2 (W : World) (b o : Nat) (v : Value) : W.grownBy (W.setCell ⟨b, o, none⟩ v) (some b) :=
  ⟨rfl, rfl, rfl, by simp, fun k _ hk => heap_setCell_other W _ k v (fun e => hk (by first | exact congrArg some e | exact congrArg some e.symm))⟩
set_option maxRecDepth 100000 in
set_option maxHeartbeats 4000000 in
theorem isort_any (n g c base cf : Nat) (lb : Array Value) (r : Nat → Int) (w : World) (R : World → Prop) (hn : 1 ≤ n ∧ n ≤ 20) (hR : R w)
    (hRk : ∀ W W' : World, R W → W.grownBy W' (some g) → R W')
    (he : ∀ args W, (callFunc cf args).run Tryz.prog W = .ok (.enter cf args) W)
    (hcmp : ∀ (i j : Nat) (W : World), i < n → j < n → R W → Calls Tryz.prog cf (#[.int .i64 (i : Int), .int .i64 (j : Int)] ++ lb) W fun e w' => e = .returned (.int .i64 (cmpI (r j) (r i))) ∧ ∃ q, w' = W.drewN q)
    (ho : w.ownsRow base 3 1 (.slice (some ⟨g, 0, none⟩) n c) n (ivals (casts (List.range n)))) :
    Calls Tryz.prog 122 #[.slice (some ⟨g, 0, none⟩) n c, .int .i64 0, .int .i64 n, .func (.func cf) #[] lb] w fun e w' => e = .returned (.tuple #[]) ∧ w'.ownsRow base 3 1 (.slice (some ⟨g, 0, none⟩) n c) n (ivals (casts (Ph.ord r n))) ∧ w.grownBy w' (some g) := by
  have HO := Lib.hid ho
  have HR := Lib.hid hR
  have HRK := Lib.hid hRk
  have HE := Lib.hid he
  have HCM := Lib.hid hcmp
  clear ho hR hRk he hcmp
  go_enter Tryz.func122, Tryz.ntmps122
  go_wp2_with fail
  go_loopw [8] (fun i wr => ∃ k : Nat, 1 ≤ k ∧ k ≤ n ∧ i = .int .i64 k ∧ Hid (wr.ownsRow base 3 1 (.slice (some ⟨g, 0, none⟩) n c) n (ivals (casts (rowAt r n k)))) ∧ Hid (w.grownBy wr (some g))) (fun i _ => n - (intOf i).toNat)
  case atStart => exact ⟨1, Nat.le_refl _, hn.1, rfl, Lib.hid (by rw [rowAt_one r (by omega)]; exact HO.out), Lib.hid (World.grownBy.refl _ _)⟩
  case round =>
    obtain ⟨k, hk1, hkn, rfl, HOW, HGB⟩ := hrel
    clear HO
    by_cases hlt : k < n
    · have hlt' : (k : Int) < (n : Int) := by omega
      go_wp2_with fail
      rename World => wa
      go_loopw [9] (fun i wr => ∃ (A B : List Nat), A.length ≤ k ∧ i = .int .i64 (A.length : Int) ∧ Hid (A ++ B = Ph.ord r k ∧ ∀ z ∈ B, r z < r k) ∧ Hid (wr.ownsRow base 3 1 (.slice (some ⟨g, 0, none⟩) n c) n (ivals (casts (A ++ k :: (B ++ List.range' (k + 1) (n - (k + 1))))))) ∧ Hid (w.grownBy wr (some g))) (fun i _ => (intOf i).toNat)
      case atStart => exact ⟨Ph.ord r k, [], by rw [Ph.ord_length]; exact Nat.le_refl _, by rw [Ph.ord_length], Lib.hid ⟨by simp, by simp⟩, Lib.hid (by rw [List.nil_append, ← rowAt_cons r hlt]; exact HOW.out), HGB⟩
      case round =>
        obtain ⟨A, B, hA, rfl, HAB, HO2, HG2⟩ := hrel
        by_cases hA0 : A = []
        · subst hA0
          have hfin : Ph.ord r (k + 1) = k :: B := by
            show Ph.ins r k (Ph.ord r k) = _
            rw [← HAB.out.1]
            exact ins_split r k B HAB.out.2 [] (by simp)
          have hz : ¬ ((0 : Int) < (([] : List Nat).length : Int)) := by simp
          have HF := Lib.hid hfin
          clear hfin
          go_wp2_with fail
          go_quiet (fail)
          go_wp2_with fail
          go_roundw
          case rel => exact ⟨k + 1, by omega, by omega, by go_num, Lib.hid (by have := HO2.out; unfold rowAt; rw [HF.out]; exact this), Lib.hid ⟨HG2.out.os, HG2.out.tape, HG2.out.output, HG2.out.size, HG2.out.block⟩⟩
          case measure => simp [intOf]; omega
        · obtain ⟨A', y, hAe⟩ := split_last A hA0
          subst hAe
          have hJ : (A' ++ [y]).length = A'.length + 1 := by simp
          rw [hJ] at hA ⊢
          obtain ⟨J, hJe⟩ : ∃ J, J = A'.length := ⟨_, rfl⟩
          have hrow : A' ++ [y] ++ k :: (B ++ List.range' (k + 1) (n - (k + 1))) = A' ++ y :: k :: (B ++ List.range' (k + 1) (n - (k + 1))) := by simp
          have ho := HO2.out
          rw [hrow] at ho
          have hll := own_len ho
          rw [ivals_length] at hll
          have hyn : y < n := by
            have : y ∈ Ph.ord r k := by rw [← HAB.out.1]; simp
            have := (Ph.ord_mem r k y).1 this
            omega
          have hpw := Ph.ord_pairwise r k
          rw [← HAB.out.1] at hpw
          have hpa := (List.pairwise_append.1 hpw).1
          have c0 : wr.cell? ⟨g, J, none⟩ = some (.int .i64 (y : Int)) := by
            rw [ho.cellAt J (by omega), ivals_get (by omega), casts_at A' y _ rfl hJe]
          have c1 : wr.cell? ⟨g, J + 1, none⟩ = some (.int .i64 (k : Int)) := by
            rw [ho.cellAt (J + 1) (by omega), ivals_get (by omega), casts_at (A' ++ [y]) k (B ++ List.range' (k + 1) (n - (k + 1))) (by simp) (by rw [hJ, hJe])]
          have f0 : wr.frozen? ⟨g, J, none⟩ = false := ho.frozenAt _
          have f1 : wr.frozen? ⟨g, J + 1, none⟩ = false := ho.frozenAt _
          have hO := Lib.hid ho
          have HRW := Lib.hid (HRK.out _ _ HR.out HG2.out)
          have HPA := Lib.hid hpa
          have hJk : J + 1 ≤ k := by omega
          have hCC := Lib.hid fun q => HCM.out k y (wr.drewN q) hlt hyn (HRK.out _ _ HRW.out ⟨rfl, rfl, rfl, Nat.le_refl _, fun _ _ _ => rfl⟩)
          have he := HE.out
          rw [← hJe]
          have HJE := Lib.hid hJe
          have b1 : ((J : Int) + 1) < (n : Int) := by omega
          have b2 : (J : Int) < (n : Int) := by omega
          have b3 : (0 : Int) < (J : Int) + 1 := by omega
          have b4 : (0 : Int) ≤ (J : Int) + 1 := by omega
          have b5 : (J : Int) + 1 - 1 = (J : Int) := by omega
          have k1 : IntKind.i64.wrap ((J : Int) + 1 - 1) = (J : Int) := by rw [b5]; exact IntWalk.i64_in _ (by omega)
          clear hrow ho hll hpw hpa hJ hJe hA HO2 hA0
          by_cases hyk : r y < r k
          · have hcv : cmpI (r y) (r k) = -1 := if_pos hyk
            rw [hcv] at hCC
            clear hcv
            go_wp2_with fail
            go_quiet (refine Calls.quiet_of (hCC.out _))
            go_wp2_with fail
            go_region
            have s1 := (own_drewN hO.out (nq + 1)).stored (J + 1) (.int .i64 (y : Int))
            have s2 := s1.1.stored J (.int .i64 (k : Int))
            have s3 := s2.1
            rw [ivals_set, ivals_set, set_swap A' y k _ J HJE.out] at s3
            have HS := Lib.hid s3
            have hgb : w.grownBy ((((wr.drewN (nq + 1)).setCell ⟨g, J + 1, none⟩ (.int .i64 (y : Int))).setCell ⟨g, J, none⟩ (.int .i64 (k : Int)))) (some g) :=
              ((HG2.out.trans ⟨rfl, rfl, rfl, Nat.le_refl _, fun _ _ _ => rfl⟩ : w.grownBy (wr.drewN (nq + 1)) (some g)).trans (grownBy_setCell2 _ _ _ _)).trans (grownBy_setCell2 _ _ _ _)
            have HGX := Lib.hid hgb
            obtain ⟨W2, hW2⟩ : ∃ W2, W2 = ((wr.drewN (nq + 1)).setCell ⟨g, J + 1, none⟩ (.int .i64 (y : Int))).setCell ⟨g, J, none⟩ (.int .i64 (k : Int)) := ⟨_, rfl⟩
            rw [← hW2] at HS HGX ⊢
            clear s1 s2 s3 hgb hW2 c0 c1 f0 f1
            go_wp2_with fail
            go_roundw
            case rel => exact ⟨A', y :: B, by rw [← HJE.out]; omega, by rw [← HJE.out], Lib.hid ⟨by rw [← HAB.out.1]; simp, by intro z hz; rcases List.mem_cons.1 hz with rfl | hz; exact hyk; exact HAB.out.2 z hz⟩, Lib.hid HS.out, HGX⟩
            case measure => simp [intOf]
          · obtain ⟨C, hC⟩ : ∃ C, C = cmpI (r y) (r k) := ⟨_, rfl⟩
            have hC0 : ¬ C < 0 := by rw [hC]; unfold cmpI; rw [if_neg hyk]; split <;> omega
            rw [← hC] at hCC
            have hfin : Ph.ord r (k + 1) = (A' ++ [y]) ++ k :: B := by
              show Ph.ins r k (Ph.ord r k) = _
              rw [← HAB.out.1]
              exact ins_split r k B HAB.out.2 _ (prefix_ge HPA.out hyk)
            have HF := Lib.hid hfin
            clear hC hfin hyk
            go_wp2_with fail
            go_quiet (refine Calls.quiet_of (hCC.out _))
            go_wp2_with fail
            go_roundw
            case rel => exact ⟨k + 1, by omega, by omega, by go_num, Lib.hid (by have := own_drewN hO.out nq; unfold rowAt; rw [HF.out]; simpa using this), Lib.hid ⟨HG2.out.os, HG2.out.tape, HG2.out.output, HG2.out.size, HG2.out.block⟩⟩
            case measure => simp [intOf]; omega
    · obtain rfl : k = n := by omega
      go_wp2_with fail
      go_end0
      exact ⟨rfl, by have := HOW.out; rwa [rowAt_all] at this, HGB.out⟩
set_option maxRecDepth 100000 in
set_option maxHeartbeats 2000000 in
theorem stable_any (n g c base cf : Nat) (lb : Array Value) (r : Nat → Int) (w : World) (R : World → Prop) (hn : 1 ≤ n ∧ n ≤ 19) (hR : R w)
    (hRk : ∀ W W' : World, R W → W.grownBy W' (some g) → R W')
    (he : ∀ args W, (callFunc cf args).run Tryz.prog W = .ok (.enter cf args) W)
    (hcmp : ∀ (i j : Nat) (W : World), i < n → j < n → R W → Calls Tryz.prog cf (#[.int .i64 (i : Int), .int .i64 (j : Int)] ++ lb) W fun e w' => e = .returned (.int .i64 (cmpI (r j) (r i))) ∧ ∃ q, w' = W.drewN q)
    (ho : w.ownsRow base 3 1 (.slice (some ⟨g, 0, none⟩) n c) n (ivals (casts (List.range n)))) :
    Calls Tryz.prog 89 #[.slice (some ⟨g, 0, none⟩) n c, .func (.func cf) #[] lb] w fun e w' => e = .returned (.tuple #[]) ∧ w'.ownsRow base 3 1 (.slice (some ⟨g, 0, none⟩) n c) n (ivals (casts (Ph.ord r n))) ∧ w.grownBy w' (some g) := by
  have HI := Lib.hid (isort_any n g c base cf lb r w R ⟨hn.1, by omega⟩ hR hRk he hcmp ho)
  have h1 : ¬ (20 : Int) ≤ (n : Int) := by omega
  have h2 : ¬ (20 : Int) < (n : Int) := by omega
  have HS : Hid (Calls Tryz.prog 106 #[.slice (some ⟨g, 0, none⟩) n c, .int .i64 n, .func (.func cf) #[] lb] w fun e w' => e = .returned (.tuple #[]) ∧ w'.ownsRow base 3 1 (.slice (some ⟨g, 0, none⟩) n c) n (ivals (casts (Ph.ord r n))) ∧ w.grownBy w' (some g)) := by
    unfold Hid
    clear hR hRk he hcmp ho
    go_enter Tryz.func106, Tryz.ntmps106
    go_wp2_with fail
    refine wp_loop_rounds 1 ?_
    rw [rounds_succ]
    go_wp2_with fail
    refine HI.out.mono ?_
    rintro e w1 ⟨rfl, ho, hg⟩
    go_wp2_with fail
    refine wp_loop_rounds 1 ?_
    rw [rounds_succ]
    go_wp2_with fail
    go_end0
    exact ⟨rfl, ho, hg⟩
  clear hR hRk he hcmp ho HI
  go_enter Tryz.func89, Tryz.ntmps89
  go_wp2_with fail
  refine HS.out.mono ?_
  rintro e w1 ⟨rfl, ho, hg⟩
  go_wp2_with fail
  go_end0
  exact ⟨rfl, ho, hg⟩
end Go.Proofs.YtjdpgakkphdjlaaGreatDoor
