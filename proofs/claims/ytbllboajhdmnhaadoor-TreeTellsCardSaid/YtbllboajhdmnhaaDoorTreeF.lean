/- Walks: level by level, forward (chapter 3): a range over slices.Chunk in a loop. -/
import Derived.Test.YtbllboajhdmnhaaDoorChunk
import Derived.Test.YtbllboajhdmnhaaDoorTree2
import Derived.Test.YtbllboajhdmnhaaDoorTwo
namespace Go.Proofs.YtbllboajhdmnhaaDoor
open Go.RowKit

attribute [local go_sem] Oper.semAt_some

theorem there_any (a b : Int) (w : World) (ha : -1000000 ≤ a ∧ a ≤ 1000000) (hb : -1000000 ≤ b ∧ b ≤ 1000000) :
    Calls Tryd.prog 87 #[.int .i64 a, .int .i64 b] w fun e w' => e = .returned (.tuple #[.int .i64 ((a + b) / 2), .int .i64 (a - b)]) ∧ w' = w := by
  go_enter Tryd.func87, Tryd.ntmps87
  go_wp2_with go_in
  go_ret2
  exact ⟨rfl, rfl⟩
/-- slices.Chunk's value parts a slice. -/
theorem chunk_stops (n : Nat) (hn : 1 ≤ n) (Bs Bn b off len cap k : Nat) (A : Option Addr) (hA : A = some ⟨b, off, none⟩ ∨ (A = none ∧ len = 0)) (hk : 1 ≤ k ∧ k ≤ 64) (hlen : len ≤ cap ∧ cap ≤ 9223372036854775807 ∧ len ≤ 17592186044415) (w : World)
    (h1 : Bs < w.heap.size) (h2 : Bn < w.heap.size) (hBs : w.cell? ⟨Bs, 0, none⟩ = some (.slice A len cap)) (hBn : w.cell? ⟨Bn, 0, none⟩ = some (.int .i64 k)) :
    SeqStopsK Fence.wide n Tryd.prog 124 #[.pointer (some ⟨Bs, 0, none⟩), .pointer (some ⟨Bn, 0, none⟩)] (fun x : Fin (pieces len k) => #[pieceV b off len k x.1]) (KeepTwo Bs Bn)
      (fun ys => ys = List.finRange (pieces len k)) (fun pre => pre <+: List.finRange (pieces len k)) (pieces len k) w := fun l J Jx W hW hJ _ hY h0 => by
  have c1 := (hW.cell (p := ⟨Bs, 0, none⟩) h1).trans hBs
  have c2 := (hW.cell (p := ⟨Bn, 0, none⟩) h2).trans hBn
  rcases hA with rfl | ⟨rfl, rfl⟩
  · exact chunk1_in n hn l Bs Bn b off len cap k hk hlen J Jx hY W c1 c2 h0 (fun xs W' q hj => hJ xs W' _ none hj ⟨rfl, rfl, rfl, Nat.le_refl _, fun _ _ _ => rfl⟩ (fun r e => by cases e))
  · exact chunk1_nil n l Bs Bn cap k hk J Jx W c1 h0
theorem own_capmax {w : World} {base : Nat} {e : TypeId} {A : Option Addr} {n c : Nat} {xs : List Value} (h : w.ownsRow base e 1 (.slice A n c) n xs) : c ≤ 9223372036854775807 := by
  rcases h.2 with ⟨hv, h0⟩ | ⟨g, cap, cur, hv, _, _, hnc, hcm, _⟩
  · injection hv with _ _ h3; omega
  · injection hv with _ _ h3
    unfold maxLen at hcm
    omega
/-- The halves and the differences of pairs. -/
def sumAt (s : List Int) (i : Nat) : Int := (s.getD (2 * i) 0 + s.getD (2 * i + 1) 0) / 2
def restAt (s : List Int) (i : Nat) : Int := s.getD (2 * i) 0 - s.getD (2 * i + 1) 0
theorem sums_map : ∀ s : List Int, s.length % 2 = 0 → (List.range (s.length / 2)).map (sumAt s) = Ph.sums s
  | a :: b :: s, h => by
    have ih := sums_map s (by simp at h; omega)
    have e : (a :: b :: s).length / 2 = s.length / 2 + 1 := by simp; omega
    rw [e, List.range_succ_eq_map, List.map_cons, List.map_map]
    simp only [Ph.sums]
    rw [← ih]
    congr 1
  | [], _ => rfl
  | [_], h => by simp at h
theorem rests_map : ∀ s : List Int, s.length % 2 = 0 → (List.range (s.length / 2)).map (restAt s) = Ph.rests s
  | a :: b :: s, h => by
    have ih := rests_map s (by simp at h; omega)
    have e : (a :: b :: s).length / 2 = s.length / 2 + 1 := by simp; omega
    rw [e, List.range_succ_eq_map, List.map_cons, List.map_map]
    simp only [Ph.rests]
    rw [← ih]
    congr 1
  | [], _ => rfl
  | [_], h => by simp at h
theorem fin_map (f : Nat → Int) (m : Nat) : (List.finRange m).map (fun x => f x.1) = (List.range m).map f := by
  apply List.ext_getElem
  · simp
  · intro i h1 h2; simp
theorem pieces_two {len : Nat} (h : len % 2 = 0) : pieces len 2 = len / 2 := by unfold pieces; omega
theorem piece_two {len : Nat} (h : len % 2 = 0) (b off : Nat) (x : Fin (pieces len 2)) : pieceV b off len 2 x.1 = .slice (some ⟨b, off + 2 * x.1, none⟩) 2 2 := by
  have := (piece_lt (len := len) (k := 2) (q := x.1) (by omega)).1 x.2
  have e : pieceLen len 2 x.1 = 2 := by unfold pieceLen; omega
  unfold pieceV; rw [e]
theorem half_mod {len u : Nat} (h : len % 2 ^ (u + 1) = 0) : len / 2 % 2 ^ u = 0 := (Ph.mod_two_of h).2
theorem cells_of_row {w : World} {base : Nat} {e : TypeId} {v : Value} {k : Nat} {xs : List Value} (h : w.ownsRow base e 1 v k xs) {j : Nat} {o : Obj} (ej : v.ownBlock = some j) (hj : w.heap[j]? = some o) : o.isCells = true := by
  rcases h.2 with ⟨rfl, _⟩ | ⟨g, cap, cur, rfl, _, hgb, _⟩
  · simp [Value.ownBlock] at ej
  · obtain rfl : g = j := by simpa [Value.ownBlock] using ej
    rw [hgb] at hj; cases hj; rfl
theorem mod_two_of {len u : Nat} (h : len % 2 ^ (u + 1) = 0) : len % 2 = 0 := by
  have := Nat.mod_mod_of_dvd len (show 2 ∣ 2 ^ (u + 1) from ⟨2 ^ u, by rw [Nat.pow_succ]; omega⟩)
  rw [h] at this; omega
theorem keepTwo_of {n₀ n₁ B1 B2 Bs Bn : Nat} {W W' : World} (h : Keeps3 n₀ n₁ B1 B2 W W') (h1 : Bs < n₁) (h2 : Bn < n₁) (h3 : Bs ≠ B1) (h4 : Bs ≠ B2) (h5 : Bn ≠ B1) (h6 : Bn ≠ B2) : KeepTwo Bs Bn W W' :=
  ⟨World.cell?_of_block (h.2.2 Bs h1 h3 h4), World.cell?_of_block (h.2.2 Bn h2 h5 h6)⟩
set_option maxRecDepth 1000000 in
set_option maxHeartbeats 8000000 in
theorem tfwd_ok (A : Option Addr) (n c v : Nat) (m : List Int) (w : World) (B : Nat) (h : RdI w B A n m) (hB : B ≤ w.heap.size) (h0 : treeErr m v 1000 = 0) :
    Calls Tryd.prog 27 #[.slice A n c, .int .i64 v] w fun e w' => ∃ A' c', e = .returned (.tuple #[.slice A' n c', .nilIface]) ∧ w'.ownsRow w.heap.size 3 1 (.slice A' n c') n (ivals (Ph.treeF v m)) ∧ Below w.heap.size w w' := by
  have hs := treeErr_zero.1 h0
  have hl := h.len
  have HK := Lib.hid fun W hW hBW => tcheck_any A n c m v 1000 W B hW hBW (by omega) (by omega)
  rw [h0, errV_zero] at HK
  have HC := Lib.hid fun W hW => clone_any A n c m W B hW (by omega)
  have H := Lib.hid h
  have HL := Lib.hid hl
  have hn32 : n ≤ 32 := by omega
  have hv5 : v ≤ 5 := by omega
  have HD := Lib.hid hs.2.2.2.1
  have HA := Lib.hid hs.2.2.2.2
  clear h hs h0 hl
  refine (callsIn_wide (n := 9)).1 ?_
  refine callsIn_of_wp_marks Tryd.func27 rfl trivial ?_ rfl
  refine wpIn_wide.2 ?_
  simp only [Tryd.ntmps27, List.size_toArray, List.length_cons, List.length_nil, Nat.reduceAdd, Nat.reduceSub, Array.replicate_succ, Array.replicate_zero, List.push_toArray, List.append_toArray, List.nil_append, List.cons_append]
  go_wp2_with fail
  refine (HK.out _ H.out hB).mono ?_
  rintro e w1 ⟨rfl, hb1⟩
  have H1 := Lib.hid (H.out.below (hb1.mono hB))
  have HB1 := Lib.hid hb1
  clear hb1 HK
  go_wp2_with fail
  refine (HC.out _ H1.out).mono ?_
  rintro e w2 ⟨A', c', rfl, ho, hb2⟩
  have HO := Lib.hid ho
  have HB2' := Lib.hid hb2
  clear ho hb2 HC
  go_wp2_with fail
  refine wp_loop (fun a' w' => ∃ (u len : Nat) (s tl : List Int) (ds : List Deferred) (x9 x10 x11 x12 x13 x24 x25 x26 x27 x28 x29 x30 x31 x32 x33 x34 x35 x36 x37 x38 x39 x40 x41 x42 x43 x44 x45 x46 x47 x48 x49 x50 x51 x52 x53 x54 x55 x56 x57 : Value), Hid (Ph.treeF u s ++ tl = Ph.treeF v m ∧ len % 2 ^ u = 0 ∧ Ph.allIn s 1000 = true ∧ s.length = len) ∧ u ≤ 5 ∧ len ≤ n ∧
      Hid (w'.ownsRow w1.heap.size 3 1 (.slice A' n c') n (ivals (s ++ tl))) ∧ Hid (Below w1.heap.size w1 w') ∧ Hid (Marked w1.heap.size w' ds) ∧ a' = { tmps := #[.slice A n c, .int .i64 u, undef, undef, .slice none 0 0, .nilIface, .nilIface, .slice A' n c', .int .i64 len, x9, x10, x11, x12, x13, .slice A n c, .int .i64 v, .nilIface, .nilIface, .bool false, undef, .slice A n c, .slice A' n c', .slice A' n c', .int .i64 n, x24, x25, x26, x27, x28, x29, x30, x31, x32, x33, x34, x35, x36, x37, x38, x39, x40, x41, x42, x43, x44, x45, x46, x47, x48, x49, x50, x51, x52, x53, x54, x55, x56, x57, undef], defers := ds }) (fun a' _ => (intOf (a'.tmps.getD 1 undef)).toNat) ?start ?round
  case start => exact ⟨v, n, m, [], [], _, _, _, _, _, _, _, _, _, _, _, _, _, _, _, _, _, _, _, _, _, _, _, _, _, _, _, _, _, _, _, _, _, _, _, _, _, _, _, Lib.hid ⟨by simp, by rw [← HL.out]; simpa using HD.out, HA.out, HL.out⟩, hv5, Nat.le_refl _, Lib.hid (by rw [List.append_nil]; exact HO.out), HB2', Lib.hid trivial, rfl⟩
  case round =>
    rintro a wr ⟨u, len, s, tl, ds, x9, x10, x11, x12, x13, x24, x25, x26, x27, x28, x29, x30, x31, x32, x33, x34, x35, x36, x37, x38, x39, x40, x41, x42, x43, x44, x45, x46, x47, x48, x49, x50, x51, x52, x53, x54, x55, x56, x57, HI, hu, hln, HOW, HBW, HMK, rfl⟩
    clear HO HB2'
    cases u with
    | zero =>
      have HV : Hid (s ++ tl = Ph.treeF v m) := Lib.hid HI.out.1
      go_wp2_with fail
      refine leaves_marked (by have := HBW.out.size; exact this) HMK.out fun w' hk => ?_
      exact ⟨_, results_tmp2 rfl _ _ _, A', c', rfl, own_more (by rw [← HV.out]; exact hk.own HOW.out) HB1.out.size, below_on HB1.out (HBW.out.trans hk.1)⟩
    | succ u =>
      have hcap := own_cap HOW.out
      have hcm : c' ≤ 9223372036854775807 := own_capmax HOW.out
      have hlc : (len : Int) ≤ (c' : Int) := by omega
      have hl0 : (0 : Int) ≤ (len : Int) := by omega
      have hu1 : (0 : Int) < ((u + 1 : Nat) : Int) := by omega
      have HDV : Hid (len % 2 = 0) := Lib.hid (mod_two_of HI.out.2.1)
      go_wp2_with (go_at_call 86; refine (chunk_any A' len c' 2 (by omega) _).mono ?_; rintro e w' ⟨rfl, rfl⟩)
      obtain ⟨W0, hW0⟩ : ∃ W0, W0 = ((((wr.alloc (.cells #[.slice none 0 0] 22)).alloc (.cells #[.slice none 0 0] 22)).alloc (.cells #[.slice A' len c'] 22)).alloc (.cells #[.int .i64 2] 3)) := ⟨_, rfl⟩
      rw [← hW0]
      have hsz : W0.heap.size = wr.heap.size + 4 := by rw [hW0]; simp
      have b1 : Boxed W0 wr.heap.size 22 (.slice none 0 0) := by rw [hW0]; exact (((Boxed.new wr _ _).alloc _).alloc _).alloc _
      have b2 : Boxed W0 (wr.heap.size + 1) 22 (.slice none 0 0) := by
        rw [hW0]
        have := Boxed.new (wr.alloc (.cells #[.slice none 0 0] 22)) 22 (.slice none 0 0)
        rw [World.size_alloc] at this
        exact (this.alloc _).alloc _
      have b3 : Boxed W0 (wr.heap.size + 1 + 1) 22 (.slice A' len c') := by
        rw [hW0]
        have := Boxed.new ((wr.alloc (.cells #[.slice none 0 0] 22)).alloc (.cells #[.slice none 0 0] 22)) 22 (.slice A' len c')
        rw [World.size_alloc, World.size_alloc] at this
        exact this.alloc _
      have b4 : Boxed W0 (wr.heap.size + 1 + 1 + 1) 3 (.int .i64 2) := by
        rw [hW0]
        have := Boxed.new (((wr.alloc (.cells #[.slice none 0 0] 22)).alloc (.cells #[.slice none 0 0] 22)).alloc (.cells #[.slice A' len c'] 22)) 3 (.int .i64 2)
        rw [World.size_alloc, World.size_alloc, World.size_alloc] at this
        exact this
      have hbel : Below wr.heap.size wr W0 := by rw [hW0]; exact ((((Below.refl _ wr).alloc (Nat.le_refl _) _).alloc (by simp) _).alloc (by simp; omega) _).alloc (by simp; omega) _
      have hko : KeepsOthers wr W0 := by rw [hW0]; exact (((KeepsOthers.alloc _ _).trans (KeepsOthers.alloc _ _)).trans (KeepsOthers.alloc _ _)).trans (KeepsOthers.alloc _ _)
      clear hW0
      obtain ⟨g, hA⟩ : ∃ g, A' = some ⟨g, 0, none⟩ ∨ (A' = none ∧ len = 0) := by
        rcases Nat.eq_zero_or_pos n with h0 | h0
        · cases hA0 : A' with
          | none => exact ⟨0, .inr ⟨rfl, by omega⟩⟩
          | some ad =>
            rcases HOW.out.2 with ⟨hv, _⟩ | ⟨g, cap, cur, hv, _⟩
            · rw [hA0] at hv; injection hv with h1; cases h1
            · rw [hA0] at hv; injection hv with h1; injection h1 with h1; exact ⟨g, .inl (by rw [h1])⟩
        · obtain ⟨g, hg, _⟩ := own_form HOW.out h0
          exact ⟨g, .inl hg⟩
      have h2 := HDV.out
      refine (wpIn_wide (n := 9)).1 ?_
      refine wpIn_rangeFunc_ownG rfl (by omega) (gf := 124) (lb := #[.pointer (some ⟨wr.heap.size + 1 + 1, 0, none⟩), .pointer (some ⟨wr.heap.size + 1 + 1 + 1, 0, none⟩)]) rfl trivial (enters_of Tryd.func124 (by kernel_rfl) rfl)
        (chunk_stops 8 (by omega) (wr.heap.size + 1 + 1) (wr.heap.size + 1 + 1 + 1) g 0 len c' 2 A' hA (by omega) ⟨by omega, hcm, by omega⟩ W0 (by omega) (by omega) b3.cell b4.cell) KeepTwo.t (KeepTwo.b (by omega) (by omega)) (Below.refl _ _) (fun _ => rfl)
        (fun pre W => (∃ v1 v2, Two W0.heap.size wr.heap.size (wr.heap.size + 1) pre.length pre.length v1 v2 v1 v2 (pre.map fun x => sumAt s x.1) (pre.map fun x => restAt s x.1) W) ∧ Keeps3 wr.heap.size W0.heap.size wr.heap.size (wr.heap.size + 1) W0 W)
        (fun _ _ _ => False)
        (OwnFrom.and (Own.from (two_own _ _ _ List.length List.length (fun (pre : List (Fin (pieces len 2))) => pre.map fun x => sumAt s x.1) (fun pre => pre.map fun x => restAt s x.1)) _) (keeps3_own _ _ _ _ _ _ (by omega) (Nat.le_refl _) (Nat.le_refl _)))
        (fun _ _ _ _ _ hs _ _ => hs)
        ⟨⟨.slice none 0 0, .slice none 0 0, b1, b2, own_nil _ _ _, own_nil _ _ _, fun q hq => by simp [Value.ownBlock] at hq, Nat.le_refl _, by omega, by omega, by omega⟩, Keeps3.refl _⟩
        (fun x => { tmps := #[.slice A n c, .int .i64 ((u : Int) + 1), undef, undef, .slice none 0 0, .nilIface, .nilIface, .slice A' n c', .int .i64 len, .pointer (some ⟨wr.heap.size, 0, none⟩), .pointer (some ⟨wr.heap.size + 1, 0, none⟩), .slice (some ⟨g, 0 + 2 * x.1, none⟩) 2 2, x12, x13, .slice A n c, .int .i64 v, .nilIface, .nilIface, .bool false, undef, .slice A n c, .slice A' n c', .slice A' n c', .int .i64 n, .int .i64 ((u : Int) + 1), .bool true, x26, x27, x28, x29, .slice A' n c', .int .i64 len, .slice A' len c', .func (.func 124) #[] #[.pointer (some ⟨wr.heap.size + 1 + 1, 0, none⟩), .pointer (some ⟨wr.heap.size + 1 + 1 + 1, 0, none⟩)], .slice (some ⟨g, 0 + 2 * x.1, none⟩) 2 2, x35, x36, x37, x38, x39, x40, x41, x42, x43, x44, x45, x46, x47, x48, x49, x50, x51, x52, x53, x54, x55, x56, x57, undef], defers := [] }) ?assign ?body ?done ?stop
      case assign =>
        intro l x W K hK
        gi_wp2
        rw [piece_two h2 g 0 x]
        exact hK
      case body =>
        rintro l pre x W ⟨⟨v1, v2, hT⟩, hKp⟩ hlen
        have hx2 := (piece_lt (len := len) (k := 2) (q := x.1) (by omega)).1 x.2
        have hAg : A' = some ⟨g, 0, none⟩ := hA.resolve_right fun h => by have := h.2; omega
        have hrd := (RdI.own HOW.out).below (hbel.trans hKp.1)
        obtain ⟨q1, q2, hq1, _, c0⟩ := hrd.at_ (k := 2 * x.1) (by omega)
        obtain ⟨q3, q4, hq3, _, c1⟩ := hrd.at_ (k := 2 * x.1 + 1) (by omega)
        rw [hAg] at hq1 hq3
        obtain ⟨rfl, rfl⟩ : g = q1 ∧ 0 = q2 := by simpa using hq1
        obtain ⟨rfl, rfl⟩ : g = q3 ∧ 0 = q4 := by simpa using hq3
        rw [Nat.zero_add, Ph.getD_left _ _ _ (by rw [HI.out.2.2.2]; omega)] at c0 c1
        have y0 := Ph.allIn_getD HI.out.2.2.1 (by omega) (2 * x.1)
        have y1 := Ph.allIn_getD HI.out.2.2.1 (by omega) (2 * x.1 + 1)
        have hs1 : sumAt s x.1 = (s.getD (2 * x.1) 0 + s.getD (2 * x.1 + 1) 0) / 2 := rfl
        have hs2 : restAt s x.1 = s.getD (2 * x.1) 0 - s.getD (2 * x.1 + 1) 0 := rfl
        obtain ⟨Y0, hY0⟩ : ∃ y, y = s.getD (2 * x.1) 0 := ⟨_, rfl⟩
        obtain ⟨Y1, hY1⟩ : ∃ y, y = s.getD (2 * x.1 + 1) 0 := ⟨_, rfl⟩
        rw [← hY0] at c0 y0 hs1 hs2
        rw [← hY1] at c1 y1 hs1 hs2
        have HTH := Lib.hid fun W => there_any Y0 Y1 W (by omega) (by omega)
        rw [← hs1, ← hs2] at HTH
        have HT := Lib.hid hT
        have HKP := Lib.hid hKp
        obtain ⟨S1, hS1⟩ : ∃ y, y = sumAt s x.1 := ⟨_, rfl⟩
        obtain ⟨S2, hS2⟩ : ∃ y, y = restAt s x.1 := ⟨_, rfl⟩
        rw [← hS1, ← hS2] at HTH
        have hpl : pre.length ≤ 32 := by have := pieces_two h2; omega
        clear hlen
        have HS1 := Lib.hid hS1
        have HS2 := Lib.hid hS2
        clear hS1 hS2 hs1 hs2 hY0 hY1 hrd hq1 hq3 hT hKp y0 y1 hbel hko b1 b2 b3 b4
        gi_wp2_with fail
        refine region_inR_quiet (by kernel_rfl) (by kernel_rfl) (by kernel_rfl) (fun _ _ h => h) ?_
        repeat (go_big_quiet_step ((go_at_call 87; exact Calls.quiet_of_same (HTH.out _))))
        refine wpQuiet_nil ?_
        rintro _ ⟨nq, rfl⟩
        gi_wp2_with fail
        have hT0 : Two W0.heap.size wr.heap.size (wr.heap.size + 1) pre.length pre.length v1 v2 v1 v2 (pre.map fun x => sumAt s x.1) (pre.map fun x => restAt s x.1) ((W.drewN nq).drew) := (HT.out.drewN nq).drew
        have hK0 : Keeps3 wr.heap.size W0.heap.size wr.heap.size (wr.heap.size + 1) W ((W.drewN nq).drew) := (Keeps3.drewN W nq).trans (Keeps3.drew _)
        obtain ⟨W1, hW1⟩ : ∃ W1, W1 = (W.drewN nq).drew := ⟨_, rfl⟩
        have HK0 := Lib.hid hK0
        refine region_inR_till (fun L w' => (w'.cell? ⟨wr.heap.size, 0, none⟩ = some v1 ∨ L.getD 8 false = true) ∧ (w'.cell? ⟨wr.heap.size + 1, 0, none⟩ = some v2 ∨ L.getD 9 false = true)) (by kernel_rfl) (by kernel_rfl) (fun _ _ h => h) ?_
        rw [← hW1] at hT0 HK0 ⊢
        have HT1 := Lib.hid hT0
        have hc1 := hT0.1.cell
        have hc2 := hT0.2.1.cell
        have hf1 := hT0.1.frozen
        have hf2 := hT0.2.1.frozen
        clear hT0 hK0 hW1 c0 c1
        refine wpTill_take (d := 8) (i := 0) (v := v1) (S := fun w' => w'.cell? ⟨wr.heap.size, 0, none⟩ = some v1) rfl (by kernel_rfl) (by kernel_rfl) (by kernel_rfl) (by kernel_rfl) (fun _ _ _ h => h) (fun L w' hd hc => hc.1.resolve_right (by rw [hd]; simp)) (fun L w' hc => ⟨hc.1.imp id (fun h => by rwa [getD_set_ne false (by decide)] at h), hc.2.imp id (fun h => by rwa [getD_set_ne false (by decide)] at h)⟩) ⟨.inl hc1, .inl hc2⟩ (Or.inl ⟨by rfl, fun w hSw => by go_simp⟩) ?_
        try simp only [Act.put, List.getElem_toArray, List.getElem_cons_zero, List.setIfInBounds_toArray, List.set_cons_zero, List.set_cons_succ]
        refine wpTill_take (d := 8) (i := 1) (v := .int .i64 S1) (S := fun _ => True) rfl (by kernel_rfl) (by kernel_rfl) (by kernel_rfl) (by kernel_rfl) (fun _ _ _ h => h) (fun _ _ _ _ => trivial) (fun L w' hc => ⟨hc.1.imp id (fun h => by rwa [getD_set_ne false (by decide)] at h), hc.2.imp id (fun h => by rwa [getD_set_ne false (by decide)] at h)⟩) ⟨.inl hc1, .inl hc2⟩ (Or.inl ⟨by rfl, fun w _ => by go_simp⟩) ?_
        try simp only [Act.put, List.getElem_toArray, List.getElem_cons_zero, List.getElem_cons_succ, List.setIfInBounds_toArray, List.set_cons_zero, List.set_cons_succ]
        refine wpTill_take (d := 9) (i := 4) (v := v2) (S := fun w' => w'.cell? ⟨wr.heap.size + 1, 0, none⟩ = some v2) rfl (by kernel_rfl) (by kernel_rfl) (by kernel_rfl) (by kernel_rfl) (fun _ _ _ h => h) (fun L w' hd hc => hc.2.resolve_right (by rw [hd]; simp)) (fun L w' hc => ⟨hc.1.imp id (fun h => by rwa [getD_set_ne false (by decide)] at h), hc.2.imp id (fun h => by rwa [getD_set_ne false (by decide)] at h)⟩) ⟨.inl hc1, .inl hc2⟩ (Or.inl ⟨by rfl, fun w hSw => by go_simp⟩) ?_
        try simp only [Act.put, List.getElem_toArray, List.getElem_cons_zero, List.getElem_cons_succ, List.setIfInBounds_toArray, List.set_cons_zero, List.set_cons_succ]
        refine wpTill_take (d := 9) (i := 5) (v := .int .i64 S2) (S := fun _ => True) rfl (by kernel_rfl) (by kernel_rfl) (by kernel_rfl) (by kernel_rfl) (fun _ _ _ h => h) (fun _ _ _ _ => trivial) (fun L w' hc => ⟨hc.1.imp id (fun h => by rwa [getD_set_ne false (by decide)] at h), hc.2.imp id (fun h => by rwa [getD_set_ne false (by decide)] at h)⟩) ⟨.inl hc1, .inl hc2⟩ (Or.inl ⟨by rfl, fun w _ => by go_simp⟩) ?_
        try simp only [Act.put, List.getElem_toArray, List.getElem_cons_zero, List.getElem_cons_succ, List.setIfInBounds_toArray, List.set_cons_zero, List.set_cons_succ]
        have HTW1 := HT1
        have HKW1 := HK0
        clear hc1 hc2 hf1 hf2 HT1 HK0
        refine wpTill_ready (rs := [2, 6]) (by kernel_rfl) (by simp) ?_
        refine TillAll.cons rfl (fun K hK => ?_) (TillAll.cons rfl (fun K hK => ?_) TillAll.nil)
        · go_simp
          obtain ⟨G1, hG1⟩ : ∃ q, q = W1.heap.size := ⟨_, rfl⟩
          obtain ⟨Wa2, hN⟩ : ∃ q, q = W1.alloc (.cells #[.int .i64 S1] 3) := ⟨_, rfl⟩
          rw [← hG1, ← hN]
          have HTWa2 : Hid (Two W0.heap.size wr.heap.size (wr.heap.size + 1) pre.length pre.length v1 v2 v1 v2 (pre.map fun x => sumAt s x.1) (pre.map fun x => restAt s x.1) Wa2) := Lib.hid (by rw [hN]; exact HTW1.out.alloc _)
          have HKWa2 : Hid (Keeps3 wr.heap.size W0.heap.size wr.heap.size (wr.heap.size + 1) W Wa2) := Lib.hid (by rw [hN]; exact HKW1.out.trans (Keeps3.alloc _ _ (by have := HTW1.out.2.2.2.2.2.1; omega) HTW1.out.2.2.2.2.2.1))
          have tG1 : Wa2.cell? ⟨G1, 0, none⟩ = some (.int .i64 S1) := by rw [hN, hG1]; exact cell_of_alloc _ _ _
          have HLG1 : Hid (G1 < Wa2.heap.size) := Lib.hid (by rw [hN, hG1]; simp)
          have c1Wa2 := HTWa2.out.1.cell
          have c2Wa2 := HTWa2.out.2.1.cell
          refine hK.out _ _ ⟨.inl c1Wa2, .inl c2Wa2⟩ ?_
          try simp only [Act.put, List.getElem_toArray, List.getElem_cons_zero, List.getElem_cons_succ, List.setIfInBounds_toArray, List.set_cons_zero, List.set_cons_succ]
          clear hK K hN hG1 c1Wa2 c2Wa2
          refine wpTill_ready (rs := [3, 6]) (by kernel_rfl) (by simp) ?_
          refine TillAll.cons rfl (fun K hK => ?_) (TillAll.cons rfl (fun K hK => ?_) TillAll.nil)
          · refine step_two1 Wa2 (by rfl) _ _ (by rfl) HTWa2.out (n₀ := wr.heap.size) (by omega) S1 G1 tG1 (by omega) (by rfl) (by rfl) ?_
            intro ga1 ca1 Wa3 hT3 hK3 hq3
            have HTWa3 := Lib.hid hT3
            have HKWa3 := Lib.hid (HKWa2.out.trans hK3)
            have c1Wa3 := HTWa3.out.1.cell
            have c2Wa3 := HTWa3.out.2.1.cell
            refine hK.out _ _ ⟨.inl c1Wa3, .inl c2Wa3⟩ ?_
            try simp only [Act.put, List.getElem_toArray, List.getElem_cons_zero, List.getElem_cons_succ, List.setIfInBounds_toArray, List.set_cons_zero, List.set_cons_succ]
            clear hK K c1Wa3 c2Wa3 hT3 hK3 hq3 tG1
            refine wpTill_ready (rs := [6]) (by kernel_rfl) (by simp) ?_
            refine TillAll.cons rfl (fun K hK => ?_) TillAll.nil
            go_simp
            obtain ⟨G2, hG2⟩ : ∃ q, q = Wa3.heap.size := ⟨_, rfl⟩
            obtain ⟨Wa4, hN⟩ : ∃ q, q = Wa3.alloc (.cells #[.int .i64 S2] 3) := ⟨_, rfl⟩
            rw [← hG2, ← hN]
            have HTWa4 : Hid (Two W0.heap.size wr.heap.size (wr.heap.size + 1) (pre.length + 1) pre.length v1 v2 (.slice (some ⟨ga1, 0, none⟩) (pre.length + 1) ca1) v2 ((pre.map fun x => sumAt s x.1) ++ [S1]) (pre.map fun x => restAt s x.1) Wa4) := Lib.hid (by rw [hN]; exact HTWa3.out.alloc _)
            have HKWa4 : Hid (Keeps3 wr.heap.size W0.heap.size wr.heap.size (wr.heap.size + 1) W Wa4) := Lib.hid (by rw [hN]; exact HKWa3.out.trans (Keeps3.alloc _ _ (by have := HTWa3.out.2.2.2.2.2.1; omega) HTWa3.out.2.2.2.2.2.1))
            have tG2 : Wa4.cell? ⟨G2, 0, none⟩ = some (.int .i64 S2) := by rw [hN, hG2]; exact cell_of_alloc _ _ _
            have HLG2 : Hid (G2 < Wa4.heap.size) := Lib.hid (by rw [hN, hG2]; simp)
            have c1Wa4 := HTWa4.out.1.cell
            have c2Wa4 := HTWa4.out.2.1.cell
            refine hK.out _ _ ⟨.inl c1Wa4, .inl c2Wa4⟩ ?_
            try simp only [Act.put, List.getElem_toArray, List.getElem_cons_zero, List.getElem_cons_succ, List.setIfInBounds_toArray, List.set_cons_zero, List.set_cons_succ]
            clear hK K hN hG2 c1Wa4 c2Wa4
            refine wpTill_ready (rs := [7]) (by kernel_rfl) (by simp) ?_
            refine TillAll.cons rfl (fun K hK => ?_) TillAll.nil
            refine step_two2 Wa4 (by rfl) _ _ (by rfl) HTWa4.out (n₀ := wr.heap.size) (by omega) S2 G2 tG2 (by omega) (by rfl) (by rfl) ?_
            intro ga2 ca2 Wa5 hT3 hK3 hq3
            have HTWa5 := Lib.hid hT3
            have HKWa5 := Lib.hid (HKWa4.out.trans hK3)
            have c1Wa5 := HTWa5.out.1.cell
            have c2Wa5 := HTWa5.out.2.1.cell
            refine hK.out _ _ ⟨.inl c1Wa5, .inl c2Wa5⟩ ?_
            try simp only [Act.put, List.getElem_toArray, List.getElem_cons_zero, List.getElem_cons_succ, List.setIfInBounds_toArray, List.set_cons_zero, List.set_cons_succ]
            clear hK K c1Wa5 c2Wa5 hT3 hK3 hq3 tG2
            refine wpTill_ready (rs := [8]) (by kernel_rfl) (by simp) ?_
            refine TillAll.cons rfl (fun K hK => ?_) TillAll.nil
            have c1Wa5 := HTWa5.out.1.cell
            have c2Wa5 := HTWa5.out.2.1.cell
            have f1Wa5 := HTWa5.out.1.frozen
            have f2Wa5 := HTWa5.out.2.1.frozen
            go_simp
            obtain ⟨Wa6, hN⟩ : ∃ q, q = Wa5.setCell ⟨wr.heap.size, 0, none⟩ (.slice (some ⟨ga1, 0, none⟩) (pre.length + 1) ca1) := ⟨_, rfl⟩
            rw [← hN]
            have HTWa6 : Hid (Two W0.heap.size wr.heap.size (wr.heap.size + 1) (pre.length + 1) (pre.length + 1) (.slice (some ⟨ga1, 0, none⟩) (pre.length + 1) ca1) v2 (.slice (some ⟨ga1, 0, none⟩) (pre.length + 1) ca1) (.slice (some ⟨ga2, 0, none⟩) (pre.length + 1) ca2) ((pre.map fun x => sumAt s x.1) ++ [S1]) ((pre.map fun x => restAt s x.1) ++ [S2]) Wa6) := Lib.hid (by rw [hN]; exact HTWa5.out.store1 _)
            have HKWa6 : Hid (Keeps3 wr.heap.size W0.heap.size wr.heap.size (wr.heap.size + 1) W Wa6) := Lib.hid (by rw [hN]; exact HKWa5.out.trans (Keeps3.store _ _ (by omega) (by simp)))
            refine hK.out _ _ ⟨.inr (by kernel_rfl), .inl HTWa6.out.2.1.cell⟩ ?_
            try simp only [Act.put, List.getElem_toArray, List.getElem_cons_zero, List.getElem_cons_succ, List.setIfInBounds_toArray, List.set_cons_zero, List.set_cons_succ]
            clear hK K hN c1Wa5 c2Wa5 f1Wa5 f2Wa5
            refine wpTill_ready (rs := [9]) (by kernel_rfl) (by simp) ?_
            refine TillAll.cons rfl (fun K hK => ?_) TillAll.nil
            have c1Wa6 := HTWa6.out.1.cell
            have c2Wa6 := HTWa6.out.2.1.cell
            have f1Wa6 := HTWa6.out.1.frozen
            have f2Wa6 := HTWa6.out.2.1.frozen
            go_simp
            obtain ⟨Wa7, hN⟩ : ∃ q, q = Wa6.setCell ⟨wr.heap.size + 1, 0, none⟩ (.slice (some ⟨ga2, 0, none⟩) (pre.length + 1) ca2) := ⟨_, rfl⟩
            rw [← hN]
            have HTWa7 : Hid (Two W0.heap.size wr.heap.size (wr.heap.size + 1) (pre.length + 1) (pre.length + 1) (.slice (some ⟨ga1, 0, none⟩) (pre.length + 1) ca1) (.slice (some ⟨ga2, 0, none⟩) (pre.length + 1) ca2) (.slice (some ⟨ga1, 0, none⟩) (pre.length + 1) ca1) (.slice (some ⟨ga2, 0, none⟩) (pre.length + 1) ca2) ((pre.map fun x => sumAt s x.1) ++ [S1]) ((pre.map fun x => restAt s x.1) ++ [S2]) Wa7) := Lib.hid (by rw [hN]; exact HTWa6.out.store2 _)
            have HKWa7 : Hid (Keeps3 wr.heap.size W0.heap.size wr.heap.size (wr.heap.size + 1) W Wa7) := Lib.hid (by rw [hN]; exact HKWa6.out.trans (Keeps3.store _ _ (by omega) (by simp)))
            refine hK.out _ _ ⟨.inr (by kernel_rfl), .inr (by kernel_rfl)⟩ ?_
            try simp only [Act.put, List.getElem_toArray, List.getElem_cons_zero, List.getElem_cons_succ, List.setIfInBounds_toArray, List.set_cons_zero, List.set_cons_succ]
            clear hK K hN c1Wa6 c2Wa6 f1Wa6 f2Wa6
            refine wpTill_done (by kernel_rfl) ?_ _
            exact ⟨HKWa7.out.2.1.from _, keepTwo_of HKWa7.out (by omega) (by omega) (by omega) (by omega) (by omega) (by omega), ⟨_, _, two_snoc (sumAt s) (restAt s) pre x S1 S2 HS1.out HS2.out HTWa7.out⟩, HKP.out.trans HKWa7.out⟩
          · go_simp
            obtain ⟨G2, hG2⟩ : ∃ q, q = Wa2.heap.size := ⟨_, rfl⟩
            obtain ⟨Wa8, hN⟩ : ∃ q, q = Wa2.alloc (.cells #[.int .i64 S2] 3) := ⟨_, rfl⟩
            rw [← hG2, ← hN]
            have HTWa8 : Hid (Two W0.heap.size wr.heap.size (wr.heap.size + 1) pre.length pre.length v1 v2 v1 v2 (pre.map fun x => sumAt s x.1) (pre.map fun x => restAt s x.1) Wa8) := Lib.hid (by rw [hN]; exact HTWa2.out.alloc _)
            have HKWa8 : Hid (Keeps3 wr.heap.size W0.heap.size wr.heap.size (wr.heap.size + 1) W Wa8) := Lib.hid (by rw [hN]; exact HKWa2.out.trans (Keeps3.alloc _ _ (by have := HTWa2.out.2.2.2.2.2.1; omega) HTWa2.out.2.2.2.2.2.1))
            have tG2 : Wa8.cell? ⟨G2, 0, none⟩ = some (.int .i64 S2) := by rw [hN, hG2]; exact cell_of_alloc _ _ _
            have HLG2 : Hid (G2 < Wa8.heap.size) := Lib.hid (by rw [hN, hG2]; simp)
            have HNG2 : Hid (v1.ownBlock ≠ some G2) := Lib.hid fun e => by have := (HTWa2.out.2.2.1.lt _ e).2; omega
            replace tG1 : Wa8.cell? ⟨G1, 0, none⟩ = some (.int .i64 S1) := by rw [hN]; exact (World.cell?_alloc_lt _ _ _ HLG1.out).trans tG1
            replace HLG1 : Hid (G1 < Wa8.heap.size) := Lib.hid (by rw [hN]; have := HLG1.out; simp; omega)
            have c1Wa8 := HTWa8.out.1.cell
            have c2Wa8 := HTWa8.out.2.1.cell
            refine hK.out _ _ ⟨.inl c1Wa8, .inl c2Wa8⟩ ?_
            try simp only [Act.put, List.getElem_toArray, List.getElem_cons_zero, List.getElem_cons_succ, List.setIfInBounds_toArray, List.set_cons_zero, List.set_cons_succ]
            clear hK K hN hG2 c1Wa8 c2Wa8
            refine wpTill_ready (rs := [3]) (by kernel_rfl) (by simp) ?_
            refine TillAll.cons rfl (fun K hK => ?_) TillAll.nil
            refine step_two1 Wa8 (by rfl) _ _ (by rfl) HTWa8.out (n₀ := wr.heap.size) (by omega) S1 G1 tG1 (by omega) (by rfl) (by rfl) ?_
            intro ga1 ca1 Wa9 hT3 hK3 hq3
            have HTWa9 := Lib.hid hT3
            have HKWa9 := Lib.hid (HKWa8.out.trans hK3)
            replace tG2 : Wa9.cell? ⟨G2, 0, none⟩ = some (.int .i64 S2) := (World.cell?_of_block (hq3 _ HLG2.out HNG2.out)).trans tG2
            replace HLG2 : Hid (G2 < Wa9.heap.size) := Lib.hid (Nat.lt_of_lt_of_le HLG2.out hK3.1.size)
            have c1Wa9 := HTWa9.out.1.cell
            have c2Wa9 := HTWa9.out.2.1.cell
            refine hK.out _ _ ⟨.inl c1Wa9, .inl c2Wa9⟩ ?_
            try simp only [Act.put, List.getElem_toArray, List.getElem_cons_zero, List.getElem_cons_succ, List.setIfInBounds_toArray, List.set_cons_zero, List.set_cons_succ]
            clear hK K c1Wa9 c2Wa9 hT3 hK3 hq3 tG1
            refine wpTill_ready (rs := [7]) (by kernel_rfl) (by simp) ?_
            refine TillAll.cons rfl (fun K hK => ?_) TillAll.nil
            refine step_two2 Wa9 (by rfl) _ _ (by rfl) HTWa9.out (n₀ := wr.heap.size) (by omega) S2 G2 tG2 (by omega) (by rfl) (by rfl) ?_
            intro ga2 ca2 Wa10 hT3 hK3 hq3
            have HTWa10 := Lib.hid hT3
            have HKWa10 := Lib.hid (HKWa9.out.trans hK3)
            have c1Wa10 := HTWa10.out.1.cell
            have c2Wa10 := HTWa10.out.2.1.cell
            refine hK.out _ _ ⟨.inl c1Wa10, .inl c2Wa10⟩ ?_
            try simp only [Act.put, List.getElem_toArray, List.getElem_cons_zero, List.getElem_cons_succ, List.setIfInBounds_toArray, List.set_cons_zero, List.set_cons_succ]
            clear hK K c1Wa10 c2Wa10 hT3 hK3 hq3 tG2
            refine wpTill_ready (rs := [8]) (by kernel_rfl) (by simp) ?_
            refine TillAll.cons rfl (fun K hK => ?_) TillAll.nil
            have c1Wa10 := HTWa10.out.1.cell
            have c2Wa10 := HTWa10.out.2.1.cell
            have f1Wa10 := HTWa10.out.1.frozen
            have f2Wa10 := HTWa10.out.2.1.frozen
            go_simp
            obtain ⟨Wa11, hN⟩ : ∃ q, q = Wa10.setCell ⟨wr.heap.size, 0, none⟩ (.slice (some ⟨ga1, 0, none⟩) (pre.length + 1) ca1) := ⟨_, rfl⟩
            rw [← hN]
            have HTWa11 : Hid (Two W0.heap.size wr.heap.size (wr.heap.size + 1) (pre.length + 1) (pre.length + 1) (.slice (some ⟨ga1, 0, none⟩) (pre.length + 1) ca1) v2 (.slice (some ⟨ga1, 0, none⟩) (pre.length + 1) ca1) (.slice (some ⟨ga2, 0, none⟩) (pre.length + 1) ca2) ((pre.map fun x => sumAt s x.1) ++ [S1]) ((pre.map fun x => restAt s x.1) ++ [S2]) Wa11) := Lib.hid (by rw [hN]; exact HTWa10.out.store1 _)
            have HKWa11 : Hid (Keeps3 wr.heap.size W0.heap.size wr.heap.size (wr.heap.size + 1) W Wa11) := Lib.hid (by rw [hN]; exact HKWa10.out.trans (Keeps3.store _ _ (by omega) (by simp)))
            refine hK.out _ _ ⟨.inr (by kernel_rfl), .inl HTWa11.out.2.1.cell⟩ ?_
            try simp only [Act.put, List.getElem_toArray, List.getElem_cons_zero, List.getElem_cons_succ, List.setIfInBounds_toArray, List.set_cons_zero, List.set_cons_succ]
            clear hK K hN c1Wa10 c2Wa10 f1Wa10 f2Wa10
            refine wpTill_ready (rs := [9]) (by kernel_rfl) (by simp) ?_
            refine TillAll.cons rfl (fun K hK => ?_) TillAll.nil
            have c1Wa11 := HTWa11.out.1.cell
            have c2Wa11 := HTWa11.out.2.1.cell
            have f1Wa11 := HTWa11.out.1.frozen
            have f2Wa11 := HTWa11.out.2.1.frozen
            go_simp
            obtain ⟨Wa12, hN⟩ : ∃ q, q = Wa11.setCell ⟨wr.heap.size + 1, 0, none⟩ (.slice (some ⟨ga2, 0, none⟩) (pre.length + 1) ca2) := ⟨_, rfl⟩
            rw [← hN]
            have HTWa12 : Hid (Two W0.heap.size wr.heap.size (wr.heap.size + 1) (pre.length + 1) (pre.length + 1) (.slice (some ⟨ga1, 0, none⟩) (pre.length + 1) ca1) (.slice (some ⟨ga2, 0, none⟩) (pre.length + 1) ca2) (.slice (some ⟨ga1, 0, none⟩) (pre.length + 1) ca1) (.slice (some ⟨ga2, 0, none⟩) (pre.length + 1) ca2) ((pre.map fun x => sumAt s x.1) ++ [S1]) ((pre.map fun x => restAt s x.1) ++ [S2]) Wa12) := Lib.hid (by rw [hN]; exact HTWa11.out.store2 _)
            have HKWa12 : Hid (Keeps3 wr.heap.size W0.heap.size wr.heap.size (wr.heap.size + 1) W Wa12) := Lib.hid (by rw [hN]; exact HKWa11.out.trans (Keeps3.store _ _ (by omega) (by simp)))
            refine hK.out _ _ ⟨.inr (by kernel_rfl), .inr (by kernel_rfl)⟩ ?_
            try simp only [Act.put, List.getElem_toArray, List.getElem_cons_zero, List.getElem_cons_succ, List.setIfInBounds_toArray, List.set_cons_zero, List.set_cons_succ]
            clear hK K hN c1Wa11 c2Wa11 f1Wa11 f2Wa11
            refine wpTill_done (by kernel_rfl) ?_ _
            exact ⟨HKWa12.out.2.1.from _, keepTwo_of HKWa12.out (by omega) (by omega) (by omega) (by omega) (by omega) (by omega), ⟨_, _, two_snoc (sumAt s) (restAt s) pre x S1 S2 HS1.out HS2.out HTWa12.out⟩, HKP.out.trans HKWa12.out⟩
        · go_simp
          obtain ⟨G2, hG2⟩ : ∃ q, q = W1.heap.size := ⟨_, rfl⟩
          obtain ⟨Wa13, hN⟩ : ∃ q, q = W1.alloc (.cells #[.int .i64 S2] 3) := ⟨_, rfl⟩
          rw [← hG2, ← hN]
          have HTWa13 : Hid (Two W0.heap.size wr.heap.size (wr.heap.size + 1) pre.length pre.length v1 v2 v1 v2 (pre.map fun x => sumAt s x.1) (pre.map fun x => restAt s x.1) Wa13) := Lib.hid (by rw [hN]; exact HTW1.out.alloc _)
          have HKWa13 : Hid (Keeps3 wr.heap.size W0.heap.size wr.heap.size (wr.heap.size + 1) W Wa13) := Lib.hid (by rw [hN]; exact HKW1.out.trans (Keeps3.alloc _ _ (by have := HTW1.out.2.2.2.2.2.1; omega) HTW1.out.2.2.2.2.2.1))
          have tG2 : Wa13.cell? ⟨G2, 0, none⟩ = some (.int .i64 S2) := by rw [hN, hG2]; exact cell_of_alloc _ _ _
          have HLG2 : Hid (G2 < Wa13.heap.size) := Lib.hid (by rw [hN, hG2]; simp)
          have HNG2 : Hid (v1.ownBlock ≠ some G2) := Lib.hid fun e => by have := (HTW1.out.2.2.1.lt _ e).2; omega
          have c1Wa13 := HTWa13.out.1.cell
          have c2Wa13 := HTWa13.out.2.1.cell
          refine hK.out _ _ ⟨.inl c1Wa13, .inl c2Wa13⟩ ?_
          try simp only [Act.put, List.getElem_toArray, List.getElem_cons_zero, List.getElem_cons_succ, List.setIfInBounds_toArray, List.set_cons_zero, List.set_cons_succ]
          clear hK K hN hG2 c1Wa13 c2Wa13
          refine wpTill_ready (rs := [2]) (by kernel_rfl) (by simp) ?_
          refine TillAll.cons rfl (fun K hK => ?_) TillAll.nil
          go_simp
          obtain ⟨G1, hG1⟩ : ∃ q, q = Wa13.heap.size := ⟨_, rfl⟩
          obtain ⟨Wa14, hN⟩ : ∃ q, q = Wa13.alloc (.cells #[.int .i64 S1] 3) := ⟨_, rfl⟩
          rw [← hG1, ← hN]
          have HTWa14 : Hid (Two W0.heap.size wr.heap.size (wr.heap.size + 1) pre.length pre.length v1 v2 v1 v2 (pre.map fun x => sumAt s x.1) (pre.map fun x => restAt s x.1) Wa14) := Lib.hid (by rw [hN]; exact HTWa13.out.alloc _)
          have HKWa14 : Hid (Keeps3 wr.heap.size W0.heap.size wr.heap.size (wr.heap.size + 1) W Wa14) := Lib.hid (by rw [hN]; exact HKWa13.out.trans (Keeps3.alloc _ _ (by have := HTWa13.out.2.2.2.2.2.1; omega) HTWa13.out.2.2.2.2.2.1))
          have tG1 : Wa14.cell? ⟨G1, 0, none⟩ = some (.int .i64 S1) := by rw [hN, hG1]; exact cell_of_alloc _ _ _
          have HLG1 : Hid (G1 < Wa14.heap.size) := Lib.hid (by rw [hN, hG1]; simp)
          replace tG2 : Wa14.cell? ⟨G2, 0, none⟩ = some (.int .i64 S2) := by rw [hN]; exact (World.cell?_alloc_lt _ _ _ HLG2.out).trans tG2
          replace HLG2 : Hid (G2 < Wa14.heap.size) := Lib.hid (by rw [hN]; have := HLG2.out; simp; omega)
          have c1Wa14 := HTWa14.out.1.cell
          have c2Wa14 := HTWa14.out.2.1.cell
          refine hK.out _ _ ⟨.inl c1Wa14, .inl c2Wa14⟩ ?_
          try simp only [Act.put, List.getElem_toArray, List.getElem_cons_zero, List.getElem_cons_succ, List.setIfInBounds_toArray, List.set_cons_zero, List.set_cons_succ]
          clear hK K hN hG1 c1Wa14 c2Wa14
          refine wpTill_ready (rs := [3]) (by kernel_rfl) (by simp) ?_
          refine TillAll.cons rfl (fun K hK => ?_) TillAll.nil
          refine step_two1 Wa14 (by rfl) _ _ (by rfl) HTWa14.out (n₀ := wr.heap.size) (by omega) S1 G1 tG1 (by omega) (by rfl) (by rfl) ?_
          intro ga1 ca1 Wa15 hT3 hK3 hq3
          have HTWa15 := Lib.hid hT3
          have HKWa15 := Lib.hid (HKWa14.out.trans hK3)
          replace tG2 : Wa15.cell? ⟨G2, 0, none⟩ = some (.int .i64 S2) := (World.cell?_of_block (hq3 _ HLG2.out HNG2.out)).trans tG2
          replace HLG2 : Hid (G2 < Wa15.heap.size) := Lib.hid (Nat.lt_of_lt_of_le HLG2.out hK3.1.size)
          have c1Wa15 := HTWa15.out.1.cell
          have c2Wa15 := HTWa15.out.2.1.cell
          refine hK.out _ _ ⟨.inl c1Wa15, .inl c2Wa15⟩ ?_
          try simp only [Act.put, List.getElem_toArray, List.getElem_cons_zero, List.getElem_cons_succ, List.setIfInBounds_toArray, List.set_cons_zero, List.set_cons_succ]
          clear hK K c1Wa15 c2Wa15 hT3 hK3 hq3 tG1
          refine wpTill_ready (rs := [7]) (by kernel_rfl) (by simp) ?_
          refine TillAll.cons rfl (fun K hK => ?_) TillAll.nil
          refine step_two2 Wa15 (by rfl) _ _ (by rfl) HTWa15.out (n₀ := wr.heap.size) (by omega) S2 G2 tG2 (by omega) (by rfl) (by rfl) ?_
          intro ga2 ca2 Wa16 hT3 hK3 hq3
          have HTWa16 := Lib.hid hT3
          have HKWa16 := Lib.hid (HKWa15.out.trans hK3)
          have c1Wa16 := HTWa16.out.1.cell
          have c2Wa16 := HTWa16.out.2.1.cell
          refine hK.out _ _ ⟨.inl c1Wa16, .inl c2Wa16⟩ ?_
          try simp only [Act.put, List.getElem_toArray, List.getElem_cons_zero, List.getElem_cons_succ, List.setIfInBounds_toArray, List.set_cons_zero, List.set_cons_succ]
          clear hK K c1Wa16 c2Wa16 hT3 hK3 hq3 tG2
          refine wpTill_ready (rs := [8]) (by kernel_rfl) (by simp) ?_
          refine TillAll.cons rfl (fun K hK => ?_) TillAll.nil
          have c1Wa16 := HTWa16.out.1.cell
          have c2Wa16 := HTWa16.out.2.1.cell
          have f1Wa16 := HTWa16.out.1.frozen
          have f2Wa16 := HTWa16.out.2.1.frozen
          go_simp
          obtain ⟨Wa17, hN⟩ : ∃ q, q = Wa16.setCell ⟨wr.heap.size, 0, none⟩ (.slice (some ⟨ga1, 0, none⟩) (pre.length + 1) ca1) := ⟨_, rfl⟩
          rw [← hN]
          have HTWa17 : Hid (Two W0.heap.size wr.heap.size (wr.heap.size + 1) (pre.length + 1) (pre.length + 1) (.slice (some ⟨ga1, 0, none⟩) (pre.length + 1) ca1) v2 (.slice (some ⟨ga1, 0, none⟩) (pre.length + 1) ca1) (.slice (some ⟨ga2, 0, none⟩) (pre.length + 1) ca2) ((pre.map fun x => sumAt s x.1) ++ [S1]) ((pre.map fun x => restAt s x.1) ++ [S2]) Wa17) := Lib.hid (by rw [hN]; exact HTWa16.out.store1 _)
          have HKWa17 : Hid (Keeps3 wr.heap.size W0.heap.size wr.heap.size (wr.heap.size + 1) W Wa17) := Lib.hid (by rw [hN]; exact HKWa16.out.trans (Keeps3.store _ _ (by omega) (by simp)))
          refine hK.out _ _ ⟨.inr (by kernel_rfl), .inl HTWa17.out.2.1.cell⟩ ?_
          try simp only [Act.put, List.getElem_toArray, List.getElem_cons_zero, List.getElem_cons_succ, List.setIfInBounds_toArray, List.set_cons_zero, List.set_cons_succ]
          clear hK K hN c1Wa16 c2Wa16 f1Wa16 f2Wa16
          refine wpTill_ready (rs := [9]) (by kernel_rfl) (by simp) ?_
          refine TillAll.cons rfl (fun K hK => ?_) TillAll.nil
          have c1Wa17 := HTWa17.out.1.cell
          have c2Wa17 := HTWa17.out.2.1.cell
          have f1Wa17 := HTWa17.out.1.frozen
          have f2Wa17 := HTWa17.out.2.1.frozen
          go_simp
          obtain ⟨Wa18, hN⟩ : ∃ q, q = Wa17.setCell ⟨wr.heap.size + 1, 0, none⟩ (.slice (some ⟨ga2, 0, none⟩) (pre.length + 1) ca2) := ⟨_, rfl⟩
          rw [← hN]
          have HTWa18 : Hid (Two W0.heap.size wr.heap.size (wr.heap.size + 1) (pre.length + 1) (pre.length + 1) (.slice (some ⟨ga1, 0, none⟩) (pre.length + 1) ca1) (.slice (some ⟨ga2, 0, none⟩) (pre.length + 1) ca2) (.slice (some ⟨ga1, 0, none⟩) (pre.length + 1) ca1) (.slice (some ⟨ga2, 0, none⟩) (pre.length + 1) ca2) ((pre.map fun x => sumAt s x.1) ++ [S1]) ((pre.map fun x => restAt s x.1) ++ [S2]) Wa18) := Lib.hid (by rw [hN]; exact HTWa17.out.store2 _)
          have HKWa18 : Hid (Keeps3 wr.heap.size W0.heap.size wr.heap.size (wr.heap.size + 1) W Wa18) := Lib.hid (by rw [hN]; exact HKWa17.out.trans (Keeps3.store _ _ (by omega) (by simp)))
          refine hK.out _ _ ⟨.inr (by kernel_rfl), .inr (by kernel_rfl)⟩ ?_
          try simp only [Act.put, List.getElem_toArray, List.getElem_cons_zero, List.getElem_cons_succ, List.setIfInBounds_toArray, List.set_cons_zero, List.set_cons_succ]
          clear hK K hN c1Wa17 c2Wa17 f1Wa17 f2Wa17
          refine wpTill_done (by kernel_rfl) ?_ _
          exact ⟨HKWa18.out.2.1.from _, keepTwo_of HKWa18.out (by omega) (by omega) (by omega) (by omega) (by omega) (by omega), ⟨_, _, two_snoc (sumAt s) (restAt s) pre x S1 S2 HS1.out HS2.out HTWa18.out⟩, HKP.out.trans HKWa18.out⟩
      case done =>
        rintro D xs W hD rfl ⟨⟨v1, v2, hT⟩, hKp⟩ hK
        have hsl := HI.out.2.2.2
        have e1 : ((List.finRange (pieces len 2)).map fun x => sumAt s x.1) = Ph.sums s := by rw [fin_map, pieces_two h2, ← hsl]; exact sums_map s (by omega)
        have e2 : ((List.finRange (pieces len 2)).map fun x => restAt s x.1) = Ph.rests s := by rw [fin_map, pieces_two h2, ← hsl]; exact rests_map s (by omega)
        rw [List.length_finRange, e1, e2, pieces_two h2] at hT
        obtain ⟨A1, k1, rfl⟩ := own_slice hT.2.2.1
        obtain ⟨A2, k2, rfl⟩ := own_slice hT.2.2.2.1
        have d1 := hT.1.cell
        have d2 := hT.2.1.cell
        have HT := Lib.hid hT
        have hro := own_below HOW.out (hbel.trans hKp.1) (fun g hg => (HOW.out.lt g hg).2)
        have HRO := Lib.hid hro
        have HM1 := Lib.hid (Marked.cons (HMK.out.kept hko) (HMK.out.kept (hko.trans hKp.2.1)) hD (by have := HBW.out.size; omega) hK)
        have HKP := Lib.hid hKp
        have HBEL := Lib.hid hbel
        have hnw := HBW.out.size
        have HJ := Lib.hid fun (w5 : World) (hg : W.grownBy w5 (Value.slice A1 (len / 2) k1).ownBlock) => (Keeps3.grown (n₀ := wr.heap.size) (B1 := wr.heap.size) (B2 := wr.heap.size + 1) HT.out.2.2.1 (by omega) HT.out.2.2.2.2.2.1 hg)
        have HRL : Hid (s.length = len) := Lib.hid hsl
        clear e1 e2 hT hro hKp hbel hko hK b1 b2 b3 b4 hsl
        go_wp2_with (first
          | (at_builtin; refine wpList_joinK W (by rfl) _ _ (by rfl) W0.heap.size A1 (len / 2) k1 (Ph.sums s) A2 (len / 2) k2 (Ph.rests s) _ HT.out.2.2.1 HT.out.2.2.2.2.2.1 (RdI.own HT.out.2.2.2.1) (own_none HT.out.2.2.2.1) (by omega) (by rfl) (by rfl) ?_; intro A5 c5 w5 ho5 hg5)
          | (refine wpList_copyK w5 (by rfl) (.tmp 53) (.tmp 56) (by rfl) w1.heap.size A' n c' (s ++ tl) A5 (len / 2 + len / 2) c5 (Ph.sums s ++ Ph.rests s) _ (own_below HRO.out (HJ.out _ hg5).1 (fun g hg => (HOW.out.lt g hg).2)) (RdI.own ho5) (by omega) (by rfl) (by rfl) ?_; intro w6 ho6 hg6))
        have HK6 := Lib.hid (HKP.out.trans (HJ.out _ hg5))
        have hko6 : KeepsOthers w5 w6 := KeepsOthers.of_grownBy hg6 (fun j o ej hj => cells_of_row (own_below HRO.out (HJ.out _ hg5).1 (fun g hg => (HOW.out.lt g hg).2)) ej hj)
        have hb6 : Below w1.heap.size w5 w6 := grown_below (own_below HRO.out (HJ.out _ hg5).1 (fun g hg => (HOW.out.lt g hg).2)) (Below.refl _ _) (by have := HK6.out.1.size; have := HBEL.out.size; omega) hg6
        have hdrop : (s ++ tl).drop (len / 2 + len / 2) = tl := by rw [show len / 2 + len / 2 = s.length by rw [HRL.out]; omega]; simp
        rw [hdrop, List.append_assoc] at ho6
        rw [show (len : Int) / 2 = ((len / 2 : Nat) : Int) by omega]
        refine ⟨⟨u, len / 2, Ph.sums s, Ph.rests s ++ tl, { target := .collected D, args := #[] } :: ds, ?_⟩, ?_⟩
        · repeat apply Exists.intro
          refine ⟨Lib.hid ⟨?_, half_mod HI.out.2.1, Ph.sums_allIn (by omega) s HI.out.2.2.1, by rw [Ph.sums_length, HRL.out]⟩, by omega, by omega, Lib.hid ho6, Lib.hid ?_, Lib.hid ((HM1.out.kept (HJ.out _ hg5).2.1).kept hko6), rfl⟩
          · rw [← List.append_assoc]; exact HI.out.1
          · exact (HBW.out.trans ((HBEL.out.trans HK6.out.1).mono hnw)).trans hb6
        · simp [intOf]
      case stop =>
        rintro D c pre W _ _ h _
        exact h.elim
end Go.Proofs.YtbllboajhdmnhaaDoor
