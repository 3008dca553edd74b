/- The document's answers, walked (chapter 5): how many rows there are, counted the other way; how many bits so many need. -/
import Derived.Test.YtjdpgakkphdjlaaGreatDoorCount
import Derived.Test.YtjdpgakkphdjlaaGreatDoorPhAll
import Derived.Deep.MidRow
namespace Go.Proofs.YtjdpgakkphdjlaaGreatDoor
open Go.RowKit

/-- A variable of nine numbers. -/
def Arr (w : World) (b : Nat) (f : Nat → Int) : Prop := b < w.heap.size ∧ ∀ j, j < 9 → w.cell? ⟨b, j, none⟩ = some (.int .i64 (f j)) ∧ w.frozen? ⟨b, j, none⟩ = false
/-- Its cells. -/
def arr9 (f : Nat → Int) : List Value := (List.range 9).map fun j => .int .i64 (f j)
theorem arr9_get (f : Nat → Int) {j : Nat} (h : j < 9) : (arr9 f)[j]? = some (.int .i64 (f j)) := by
  unfold arr9; rw [List.getElem?_map, List.getElem?_range h]; rfl
section
variable {w w' : World} {b : Nat} {f : Nat → Int}
theorem Arr.drewN (h : Arr w b f) (n : Nat) : Arr (w.drewN n) b f := h
theorem Arr.drew (h : Arr w b f) : Arr w.drew b f := h
theorem Arr.alloc (h : Arr w b f) (o : Obj) : Arr (w.alloc o) b f :=
  ⟨by have := h.1; simp; omega, fun j hj => ⟨(World.cell?_alloc_lt w o ⟨b, j, none⟩ h.1).trans (h.2 j hj).1, ((below_alloc0 w o).frozen (p := ⟨b, j, none⟩) h.1).trans (h.2 j hj).2⟩⟩
theorem Arr.far (h : Arr w b f) {p : Addr} (hp : p.block ≠ b) (v : Value) : Arr (w.setCell p v) b f :=
  ⟨by simpa using h.1, fun j hj => ⟨(World.cell?_setCell_other w p ⟨b, j, none⟩ v (fun e => hp (by rw [e]))).trans (h.2 j hj).1, by rw [World.frozen?_setCell]; exact (h.2 j hj).2⟩⟩
theorem Arr.set (h : Arr w b f) (i : Nat) (_hi : i < 9) (x : Int) : Arr (w.setCell ⟨b, i, none⟩ (.int .i64 x)) b (fun j => if j = i then x else f j) := by
  refine ⟨by simpa using h.1, fun j hj => ⟨?_, by rw [World.frozen?_setCell]; exact (h.2 j hj).2⟩⟩
  by_cases e : j = i
  · subst e
    show _ = some (Value.int .i64 (if j = j then x else f j))
    rw [if_pos rfl]
    exact World.cell?_setCell_same' _ _ _ (by rw [(h.2 j hj).1]; rfl)
  · show _ = some (Value.int .i64 (if j = i then x else f j))
    rw [if_neg e]
    exact (World.cell?_setCell_other w _ ⟨b, j, none⟩ _ (fun e2 => e (by injection e2 with _ h2 _; omega))).trans (h.2 j hj).1
theorem Arr.range (h : Arr w b f) : w.rangeAt b 0 (arr9 f) := fun j v hv => by
  have hj : j < 9 := by
    have := (List.getElem?_eq_some_iff.1 hv).1
    simpa [arr9] using this
  rw [arr9_get f hj] at hv
  rw [Nat.zero_add, ← hv]
  exact (h.2 j hj).1
theorem Arr.there (h : Arr w b f) : w.there b 0 9 := fun j hj => by
  rw [Nat.zero_add]
  exact ⟨by rw [(h.2 j hj).1]; rfl, (h.2 j hj).2⟩
theorem below_setCells {B : Nat} {a : World} : ∀ (vs : List Value) (o : Nat) (w : World), Below B a w → B ≤ b → Below B a (w.setCells b o vs)
  | [], _, _, h, _ => h
  | v :: vs, o, _, h, hb => below_setCells vs (o + 1) _ (h.setCell (p := ⟨b, o, none⟩) hb v) hb
theorem size_setCells : ∀ (vs : List Value) (o : Nat) (w : World), (w.setCells b o vs).heap.size = w.heap.size
  | [], _, _ => rfl
  | _ :: vs, o, _ => by rw [World.setCells, size_setCells vs (o + 1)]; simp
theorem Arr.copied {g : Nat → Int} (h : Arr w b f) : Arr (w.setCells b 0 (arr9 g)) b g := by
  have hl : (arr9 g).length = 9 := by simp [arr9]
  refine ⟨by rw [size_setCells]; exact h.1, fun j hj => ⟨?_, by rw [World.frozen?_setCells]; exact (h.2 j hj).2⟩⟩
  have := World.rangeAt_setCells_same w b 0 (arr9 g) (by rw [hl]; exact h.there) j _ (arr9_get g hj)
  rwa [Nat.zero_add] at this
theorem Arr.new (w : World) (cs : Array Value) (hcs : cs.toList = arr9 f) : Arr (w.alloc (.cells cs 74)) w.heap.size f := by
  refine ⟨by simp, fun j hj => ⟨?_, by simp⟩⟩
  rw [cell_of_row _ w.heap.size j cs 74 (0, 0) (heap_alloc_new w _), ← Array.getElem?_toList, hcs, arr9_get f hj]
end
theorem arr_info : (Tryz.prog.info? 74).map (·.size) = some 9 := by kernel_rfl
theorem arr9_one (f : Nat → Int) : (arr9 f).toArray.all (·.oneCell') = true := all_oneCell_toArray fun v hv => by
  unfold arr9 at hv
  obtain ⟨j, _, rfl⟩ := List.mem_map.1 hv
  rfl
theorem belowP_bd (m j : Nat) (hm : m + 1 ≤ 6) (hj : j ≤ 8) : ∀ t, t ≤ j → Ph.belowP m j t ≤ 50000 := by
  intro t ht
  have h1 := Ph.cnt_next m j
  have h2 := Ph.cnt_le (m + 1) j (by omega) hj
  have h3 : ∀ t, t ≤ j → Ph.belowP m j t ≤ Ph.belowP m j j := by
    intro t ht
    obtain ⟨d, rfl⟩ := Nat.exists_eq_add_of_le ht
    clear h1 h2 hj
    have : ∀ d J, Ph.belowP m J t ≤ Ph.belowP m J (t + d) := by
      intro d
      induction d with
      | zero => intro J; exact Nat.le_refl _
      | succ d ih => intro J; exact Nat.le_trans (ih J) (by show _ ≤ Ph.belowP m J (t + d) + _; omega)
    exact this d _
  have := h3 t ht
  omega
set_option maxRecDepth 100000 in
set_option maxHeartbeats 4000000 in
theorem rcount_any (n k : Nat) (w : World) (hn : n ≤ 6) (hk : k ≤ 8) :
    Calls Tryz.prog 18 #[.int .i64 n, .int .i64 k] w fun e w' => e = .returned (.int .i64 (Ph.cnt n k : Nat)) ∧ Below w.heap.size w w' := by
  have HA0 := Lib.hid (Arr.new (f := fun j => ((Ph.cnt 0 j : Nat) : Int)) w #[.int .i64 1, .int .i64 0, .int .i64 0, .int .i64 0, .int .i64 0, .int .i64 0, .int .i64 0, .int .i64 0, .int .i64 0] rfl)
  have hul := Tryz.underlying74
  have HUL := Lib.hid hul
  clear hul
  go_enter Tryz.func18, Tryz.ntmps18
  go_wp2_with fail
  go_loopw [6] (fun i wr => ∃ (m : Nat) (f : Nat → Int), m ≤ n ∧ i = .int .i64 m ∧ Hid (Arr wr w.heap.size f ∧ (∀ j, j ≤ k → f j = ((Ph.cnt m j : Nat) : Int))) ∧ Below w.heap.size w wr) (fun i _ => n - (intOf i).toNat)
  case atStart => exact ⟨0, _, Nat.zero_le _, rfl, Lib.hid ⟨HA0.out, fun _ _ => rfl⟩, below_alloc0 _ _⟩
  case round =>
    obtain ⟨m, f, hm, rfl, HF, hbw⟩ := hrel
    have HBW := Lib.hid hbw
    clear hbw HA0
    by_cases hlt : m < n
    · rename World => wa
      have hsz : w.heap.size < wa.heap.size := HF.out.1.1
      have HZ0 := Lib.hid (Arr.new (f := fun _ => 0) wa #[.int .i64 0, .int .i64 0, .int .i64 0, .int .i64 0, .int .i64 0, .int .i64 0, .int .i64 0, .int .i64 0, .int .i64 0] rfl)
      have HF0 := Lib.hid (HF.out.1.alloc (.cells #[.int .i64 0, .int .i64 0, .int .i64 0, .int .i64 0, .int .i64 0, .int .i64 0, .int .i64 0, .int .i64 0, .int .i64 0] 74))
      go_wp2_with fail
      go_loopw [8] (fun i wr2 => ∃ (j : Nat) (g : Nat → Int), j ≤ k + 1 ∧ i = .int .i64 j ∧ Hid (Arr wr2 wa.heap.size g ∧ (∀ i, i < j → g i = ((Ph.cnt (m + 1) i : Nat) : Int))) ∧ Hid (Arr wr2 w.heap.size f) ∧ Hid (Below w.heap.size w wr2)) (fun i _ => k + 1 - (intOf i).toNat)
      case atStart => exact ⟨0, _, Nat.zero_le _, rfl, Lib.hid ⟨HZ0.out, fun i hi => absurd hi (by omega)⟩, HF0, Lib.hid (HBW.out.alloc HBW.out.size _)⟩
      case round =>
        obtain ⟨j, g, hj, rfl, HG, HF2, HB2⟩ := hrel
        clear HZ0 HF0
        by_cases hjk : j ≤ k
        · have c1 := (HF2.out.2 j (by omega)).1
          rw [HF.out.2 j hjk] at c1
          have c2 := (HG.out.1.2 j (by omega)).1
          have f2 := (HG.out.1.2 j (by omega)).2
          obtain ⟨X, hX⟩ : ∃ X, X = Ph.cnt m j := ⟨_, rfl⟩
          rw [← hX] at c1
          have hXb := Ph.cnt_le m j (by omega) (by omega)
          rw [← hX] at hXb
          have HX := Lib.hid hX
          have HG1 := Lib.hid (HG.out.1.set j (by omega) (X : Int))
          have HF3 := Lib.hid (HF2.out.far (p := ⟨wa.heap.size, j, none⟩) (by simp; omega) (.int .i64 (X : Int)))
          have HB3 := Lib.hid (HB2.out.setCell (p := ⟨wa.heap.size, j, none⟩) (by simp; omega) (.int .i64 (X : Int)))
          have hj9 : (j : Int) < 9 := by omega
          clear hX
          go_wp2_with fail
          go_loopw [9] (fun i wr3 => ∃ (t : Nat) (g3 : Nat → Int), t ≤ j ∧ i = .int .i64 ((t : Int) + 1) ∧ Hid (Arr wr3 wa.heap.size g3 ∧ (∀ i, i < j → g3 i = ((Ph.cnt (m + 1) i : Nat) : Int)) ∧ g3 j = ((X + 2 * Ph.belowP m j t : Nat) : Int)) ∧ Hid (Arr wr3 w.heap.size f) ∧ Hid (Below w.heap.size w wr3)) (fun i _ => j + 1 - (intOf i).toNat)
          case atStart =>
            refine ⟨0, _, Nat.zero_le _, rfl, Lib.hid ⟨HG1.out, fun i hi => ?_, ?_⟩, HF3, HB3⟩
            · show (if i = j then _ else g i) = _
              rw [if_neg (by omega)]; exact HG.out.2 i hi
            · show (if j = j then _ else g j) = _
              rw [if_pos rfl]; simp [Ph.belowP]
          case round =>
            obtain ⟨t, g3, ht, rfl, HG3, HF4, HB4⟩ := hrel
            clear HG1 HF3 HB3 c1 c2 f2
            by_cases htj : t < j
            · have d1 := (HF4.out.2 (j - (t + 1)) (by omega)).1
              rw [HF.out.2 _ (by omega)] at d1
              have d2 := (HG3.out.1.2 j (by omega)).1
              have e2 := (HG3.out.1.2 j (by omega)).2
              rw [HG3.out.2.2] at d2
              have hYb := Ph.cnt_le m (j - (t + 1)) (by omega) (by omega)
              have hPb := belowP_bd m j (by omega) (by omega) t ht
              have hP2 : Hid (Ph.belowP m j (t + 1) = Ph.belowP m j t + Ph.cnt m (j - (t + 1))) := Lib.hid rfl
              obtain ⟨Y, hY⟩ : ∃ Y, Y = Ph.cnt m (j - (t + 1)) := ⟨_, rfl⟩
              obtain ⟨P, hP⟩ : ∃ P, P = X + 2 * Ph.belowP m j t := ⟨_, rfl⟩
              rw [← hY] at d1 hYb hP2
              rw [← hP] at d2
              have hPP : P ≤ 200000 := by omega
              have HP := Lib.hid hP
              have k1 : IntKind.i64.wrap ((j : Int) - ((t : Int) + 1)) = (j : Int) - ((t : Int) + 1) := IntWalk.i64_in _ (by omega)
              have k2 : ((j : Int) - ((t : Int) + 1)).toNat = j - (t + 1) := by omega
              have k3 : (0 : Int) ≤ (j : Int) - ((t : Int) + 1) := by omega
              have k4 : (j : Int) - ((t : Int) + 1) < 9 := by omega
              have k5 : IntKind.i64.wrap (2 * (Y : Int)) = 2 * (Y : Int) := IntWalk.i64_in _ (by omega)
              have k6 : IntKind.i64.wrap ((P : Int) + 2 * (Y : Int)) = (P : Int) + 2 * (Y : Int) := IntWalk.i64_in _ (by omega)
              have k7 : (t : Int) + 1 ≤ (j : Int) := by omega
              clear hY hP hPb
              go_wp2_with fail
              go_region
              all_goals go_wp2_with fail
              all_goals go_roundw
              all_goals first
                | (simp [intOf]; omega)
                | (refine ⟨t + 1, _, by omega, by go_num, Lib.hid ⟨(HG3.out.1.set j (by omega) ((P : Int) + 2 * (Y : Int))).drew, fun i hi => ?_, ?_⟩, Lib.hid (HF4.out.far (p := ⟨wa.heap.size, j, none⟩) (by simp; omega) _).drew, Lib.hid (below_same (HB4.out.setCell (p := ⟨wa.heap.size, j, none⟩) (by simp; omega) (.int .i64 ((P : Int) + 2 * (Y : Int)))) rfl rfl rfl rfl)⟩
                   · show (if i = j then _ else g3 i) = _
                     rw [if_neg (by omega)]; exact HG3.out.2.1 i hi
                   · show (if j = j then _ else g3 j) = _
                     rw [if_pos rfl, hP2.out, HP.out]; omega)
            · obtain rfl : t = j := by omega
              have k7 : ¬ (t : Int) + 1 ≤ (t : Int) := by omega
              have hN : Hid (((X + 2 * Ph.belowP m t t : Nat) : Int) = ((Ph.cnt (m + 1) t : Nat) : Int)) := Lib.hid (by rw [Ph.cnt_next, HX.out])
              go_wp2_with fail
              go_roundw
              case rel =>
                refine ⟨t + 1, g3, by omega, by go_num, Lib.hid ⟨HG3.out.1, fun i hi => ?_⟩, HF4, HB4⟩
                by_cases hit : i < t
                · exact HG3.out.2.1 i hit
                · obtain rfl : i = t := by omega
                  rw [HG3.out.2.2]; exact hN.out
              case measure => simp [intOf]; omega
        · obtain rfl : j = k + 1 := by omega
          have hjk2 : ¬ ((k + 1 : Nat) : Int) ≤ (k : Int) := by omega
          have hR : Hid (wr.rangeAt wa.heap.size 0 (arr9 g)) := Lib.hid HG.out.1.range
          have hT : Hid (wr.there w.heap.size 0 (arr9 g).toArray.size) := Lib.hid (by rw [show (arr9 g).toArray.size = 9 by simp [arr9]]; exact HF2.out.there)
          have hI : Hid ((Tryz.prog.info? 74).map (·.size) = some (arr9 g).length) := Lib.hid (arr_info.trans (by simp [arr9]))
          have hJ : Hid ((Tryz.prog.info? 74).map (·.size) = some (arr9 g).toArray.size) := Lib.hid (arr_info.trans (by simp [arr9]))
          have hO : Hid ((arr9 g).toArray.all (·.oneCell') = true) := Lib.hid (arr9_one g)
          have HC := Lib.hid (HF2.out.copied (g := g))
          have HBC := Lib.hid (below_setCells (b := w.heap.size) (arr9 g) 0 wr HB2.out (Nat.le_refl _))
          obtain ⟨C, hC⟩ : ∃ C, C = arr9 g := ⟨_, rfl⟩
          rw [← hC] at hR hT hI hJ hO HC HBC
          clear hC
          go_wp2_with (first
            | ((refine wpList_load_mid (by rfl) _ _ (by rfl) wa.heap.size 0 (by rfl) C _ hR.out HUL.out (by rfl) hI.out ?_))
            | ((refine wpList_store_mid (by rfl) _ _ _ (by rfl) w.heap.size 0 C.toArray (by rfl) (by rfl) hT.out hJ.out hO.out ?_)))
          go_roundw
          case rel => exact ⟨m + 1, g, by omega, by go_num, Lib.hid ⟨HC.out, fun i hi => HG.out.2 i (by omega)⟩, HBC.out⟩
          case measure => simp [intOf]; omega
    · obtain rfl : m = n := by omega
      have c1 := (HF.out.1.2 k (by omega)).1
      rw [HF.out.2 k (Nat.le_refl _)] at c1
      have hk9 : (k : Int) < 9 := by omega
      go_wp2_with fail
      go_ret
      exact ⟨rfl, HBW.out⟩
end Go.Proofs.YtjdpgakkphdjlaaGreatDoor
/- The document's answers, walked (chapter 5): bits; and the table. -/
namespace Go.Proofs.YtjdpgakkphdjlaaGreatDoor
open Go.RowKit

theorem bits_iff (m b : Nat) : 2 ^ b < m ↔ b < Ph.bitsOf m := by
  unfold Ph.bitsOf
  by_cases h : m ≤ 1
  · rw [if_pos h]
    have := Nat.two_pow_pos b
    omega
  · rw [if_neg h]
    have h1 := @Nat.log2_lt (m - 1) b (by omega)
    by_cases h2 : Nat.log2 (m - 1) < b
    · have := h1.1 h2; omega
    · have : ¬ m - 1 < 2 ^ b := fun h3 => h2 (h1.2 h3)
      omega
theorem bits_le (m : Nat) (h : m ≤ 100000) : Ph.bitsOf m ≤ 17 := by
  rcases Nat.lt_or_ge 17 (Ph.bitsOf m) with h1 | h1
  · have := (bits_iff m 17).2 h1; omega
  · exact h1
/-- A table: of none to six numbers. -/
def tabL (k : Nat) (m : Nat) : List Int := (List.range m).map fun i => ((Ph.cnt i k : Nat) : Int)
theorem tabL_succ (k m : Nat) : tabL k (m + 1) = tabL k m ++ [((Ph.cnt m k : Nat) : Int)] := by unfold tabL; rw [List.range_succ, List.map_append]; rfl
theorem tabL_length (k m : Nat) : (tabL k m).length = m := by simp [tabL]
end Go.Proofs.YtjdpgakkphdjlaaGreatDoor
