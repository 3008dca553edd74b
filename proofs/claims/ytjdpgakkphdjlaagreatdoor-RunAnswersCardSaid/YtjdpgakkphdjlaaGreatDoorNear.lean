/- Walks: pulses near to numbers (chapter 7). -/
import Derived.Test.YtjdpgakkphdjlaaGreatDoorSort
import Derived.Test.YtjdpgakkphdjlaaGreatDoorCount
import Derived.Test.YtjdpgakkphdjlaaGreatDoorPulse
import Derived.Test.YtjdpgakkphdjlaaGreatDoorPhAll
import Derived.Deep.RegionWith
namespace Go.Proofs.YtjdpgakkphdjlaaGreatDoor
open Go.RowKit

theorem sign_any (n : Int) (w : World) : Calls Tryz.prog 92 #[.int .i64 n] w fun e w' => e = .returned (.int .i64 (Ph.sgn n)) ∧ w' = w := by
  unfold Ph.sgn
  by_cases h : n < 0
  · rw [if_pos h]
    go_enter Tryz.func92, Tryz.ntmps92
    go_wp2
    go_ret
    exact ⟨rfl, rfl⟩
  · rw [if_neg h]
    go_enter Tryz.func92, Tryz.ntmps92
    go_wp2
    go_ret
    exact ⟨rfl, rfl⟩
/-- The rests, as the comparison reads them: by the variable that it has captured. -/
def RestIn (Bx gr cr n : Nat) (r : Nat → Int) (W : World) : Prop := W.cell? ⟨Bx, 0, none⟩ = some (.slice (some ⟨gr, 0, none⟩) n cr) ∧ ∀ j, j < n → W.cell? ⟨gr, j, none⟩ = some (.int .i64 (r j))
theorem RestIn.grown {Bx gr cr n g : Nat} {r : Nat → Int} {W W' : World} (h : RestIn Bx gr cr n r W) (hg : W.grownBy W' (some g)) (h1 : Bx ≠ g) (h2 : gr ≠ g) : RestIn Bx gr cr n r W' :=
  ⟨hg.cell h.1 (by simpa using h1), fun j hj => hg.cell (h.2 j hj) (by simpa using h2)⟩
set_option maxHeartbeats 1000000 in
theorem ncmp_any (Bx gr cr n : Nat) (r : Nat → Int) (i j : Nat) (W : World) (hi : i < n) (hj : j < n) (hR : RestIn Bx gr cr n r W) :
    Calls Tryz.prog 90 #[.int .i64 i, .int .i64 j, .pointer (some ⟨Bx, 0, none⟩)] W fun e w' => e = .returned (.int .i64 (cmpI (r j) (r i))) ∧ ∃ q, w' = W.drewN q := by
  have c0 := hR.1
  have c1 := hR.2 i hi
  have c2 := hR.2 j hj
  have HC := Lib.hid fun W => compare_any (r j) (r i) W
  obtain ⟨X, hX⟩ : ∃ X, X = r i := ⟨_, rfl⟩
  obtain ⟨Y, hY⟩ : ∃ Y, Y = r j := ⟨_, rfl⟩
  rw [← hX] at c1 HC ⊢
  rw [← hY] at c2 HC ⊢
  have b1 : (i : Int) < (n : Int) := by omega
  have b2 : (j : Int) < (n : Int) := by omega
  clear hR hX hY
  go_enter Tryz.func90, Tryz.ntmps90
  go_wp2_with fail
  go_quiet ((go_at_call 91; exact Calls.quiet_of_same (HC.out _)))
  go_wp2_with fail
  go_ret
  exact ⟨rfl, nq, rfl⟩
theorem enters_ncmp : ∀ args W, (callFunc 90 args).run Tryz.prog W = .ok (.enter 90 args) W :=
  fun args W => enters_of Tryz.func90 (by kernel_rfl) rfl args W
/-- A row by its places. -/
def mapR (f : Nat → Int) (n : Nat) : List Int := (List.range n).map f
theorem mapR_length (f : Nat → Int) (n : Nat) : (mapR f n).length = n := by simp [mapR]
theorem mapR_getD (f : Nat → Int) (n i : Nat) (h : i < n) : (mapR f n).getD i 0 = f i := Ph.getD_map_range _ _ _ h
theorem mapR_congr {f g : Nat → Int} {n : Nat} (h : ∀ i, i < n → f i = g i) : mapR f n = mapR g n := List.map_congr_left fun i hi => h i (List.mem_range.1 hi)
theorem mapR_set (f : Nat → Int) (n x : Nat) (y : Int) : (mapR f n).set x y = mapR (fun i => if i = x then y else f i) n := by
  apply List.ext_getElem
  · simp [mapR]
  · intro i h1 h2
    rw [List.getElem_set]
    by_cases e : x = i
    · subst e; simp [mapR]
    · rw [if_neg e]; simp only [mapR, List.getElem_map, List.getElem_range]; rw [if_neg (fun h => e h.symm)]
theorem part_mapR (f : Nat → Int) (n : Nat) : part f n n = mapR f n := part_all f n
theorem cell_alloc_at (w : World) (y : Value) (t : TypeId) : (w.alloc (.cells #[y] t)).cell? ⟨w.heap.size, 0, none⟩ = some y := by simp
theorem nq_sum_bd {v : List Int} {k : Int} (hL : 0 < Ph.loud v) (hk : 0 ≤ k) : ∀ q, q ≤ v.length → 0 ≤ Ph.sumTo q (Ph.nq v k) ∧ Ph.sumTo q (Ph.nq v k) ≤ k := fun q hq => by
  refine ⟨Ph.sumTo_nonneg _ fun i _ => Ph.nq_nonneg hL hk i, ?_⟩
  have h1 := Ph.nleft_nonneg (v := v) (k := k) hL
  unfold Ph.nleft at h1
  have h2 : ∀ d, Ph.sumTo q (Ph.nq v k) ≤ Ph.sumTo (q + d) (Ph.nq v k) := fun d => by
    induction d with
    | zero => exact Int.le_refl _
    | succ d ih =>
      have : Ph.sumTo (q + (d + 1)) (Ph.nq v k) = Ph.sumTo (q + d) (Ph.nq v k) + Ph.nq v k (q + d) := rfl
      have := Ph.nq_nonneg hL hk (q + d); omega
  have h3 := h2 (v.length - q)
  rw [show q + (v.length - q) = v.length by omega] at h3
  omega
theorem own_kept_at {w w' : World} {base : Nat} {e : TypeId} {g q c n : Nat} {xs : List Value} (h : w.ownsRow base e 1 (.slice (some ⟨q, 0, none⟩) n c) n xs) (hg : w.grownBy w' (some g)) (hne : q ≠ g) : w'.ownsRow base e 1 (.slice (some ⟨q, 0, none⟩) n c) n xs :=
  h.kept hg (.inr (by simpa [Value.ownBlock] using hne))
theorem far_getD_le (v : List Int) (i : Nat) : Ph.far (v.getD i 0) ≤ Ph.loud v := by
  rcases Nat.lt_or_ge i v.length with h | h
  · have h1 := Ph.loud_take_le v (i + 1)
    rw [Ph.take_snoc v i h, Ph.loud_snoc] at h1
    have := Ph.loud_nonneg (v.take i)
    omega
  · rw [List.getD_eq_getElem?_getD, List.getElem?_eq_none h]
    exact Ph.loud_nonneg v
theorem nq_bd {v : List Int} {k : Int} (hL : 0 < Ph.loud v) (hk : 0 ≤ k) (hk8 : k ≤ 8) (i : Nat) : 0 ≤ Ph.nq v k i ∧ Ph.nq v k i ≤ 8 := by
  refine ⟨Ph.nq_nonneg hL hk i, ?_⟩
  have h1 : k * Ph.far (v.getD i 0) ≤ 8 * Ph.loud v := Int.mul_le_mul hk8 (far_getD_le v i) (Ph.far_nonneg _) (by omega)
  unfold Ph.nq
  exact Int.le_trans (Int.ediv_le_ediv hL h1) (by rw [Int.mul_ediv_cancel _ (by omega)]; omega)
set_option maxRecDepth 100000 in
set_option maxHeartbeats 4000000 in
theorem npulses_ok (A : Option Addr) (n c : Nat) (v : List Int) (k : Int) (w : World) (B : Nat) (h : RdI w B A n v) (hB : B ≤ w.heap.size) (hb : Ph.allIn v 8000 = true) (hn : n ≤ 6) (hk : 0 ≤ k ∧ k ≤ 8) (hL : k = 0 ∨ 0 < Ph.loud v) :
    Calls Tryz.prog 70 #[.slice A n c, .int .i64 k] w (OwnI 3 (Ph.near v k) w) := by
  have hl := h.len
  have hmk := make_ints n (by omega)
  by_cases hk0 : k = 0
  · subst hk0
    have hV : Ph.near v 0 = List.replicate n 0 := by unfold Ph.near; rw [if_pos rfl, hl]
    rw [hV]
    have HO := Lib.hid (made_own w n (by omega))
    clear h hb hL hl hV
    go_enter Tryz.func70, Tryz.ntmps70
    go_wp2_with fail
    go_ret
    exact ⟨some ⟨w.heap.size, 0, none⟩, n, by rw [List.length_replicate]; rfl, by rw [List.length_replicate]; exact HO.out, below_alloc0 _ _⟩
  · have hL0 : 0 < Ph.loud v := hL.resolve_left hk0
    have hn1 : 1 ≤ n := by
      rcases Nat.eq_zero_or_pos n with h0 | h0
      · subst h0
        have : v = [] := List.length_eq_zero_iff.1 hl
        subst this
        exact absurd hL0 (by decide)
      · exact h0
    have HSUM := Lib.hid fun W hW => sum_any A n c v W B hW hb (by omega)
    have hLb : Ph.loud v ≤ 48000 := by have := Ph.loud_le hb; omega
    obtain ⟨L, hLe⟩ : ∃ L, L = Ph.loud v := ⟨_, rfl⟩
    rw [← hLe] at HSUM hL0 hLb
    have H := Lib.hid h
    have HL := Lib.hid hl
    have HBD := Lib.hid hb
    have HLE := Lib.hid hLe
    clear h hb hl hL hLe
    go_enter Tryz.func70, Tryz.ntmps70
    go_wp2_with fail
    refine (HSUM.out _ (H.out.alloc hB _)).mono ?_
    rintro e w' ⟨rfl, rfl⟩
    go_wp2_with fail
    obtain ⟨W0, hW0⟩ : ∃ W0, W0 = (((w.alloc (.cells (madeCells #[.int .i64 0] n) 3)).alloc (.cells (madeCells #[.int .i64 0] n) 3)).alloc (.cells #[.slice (some ⟨w.heap.size + 1, 0, none⟩) n n] 49)) := ⟨_, rfl⟩
    have hsz : W0.heap.size = w.heap.size + 3 := by rw [hW0]; simp
    have o1 : W0.ownsRow w.heap.size 3 1 (.slice (some ⟨w.heap.size, 0, none⟩) n n) n (ivals (List.replicate n 0)) := by
      rw [hW0]; exact ((made_own w n (by omega)).alloc _).alloc _
    have o2 : W0.ownsRow w.heap.size 3 1 (.slice (some ⟨w.heap.size + 1, 0, none⟩) n n) n (ivals (List.replicate n 0)) := by
      rw [hW0]
      have := made_own (w.alloc (.cells (madeCells #[.int .i64 0] n) 3)) n (by omega)
      rw [World.size_alloc] at this
      exact own_more (this.alloc _) (by omega)
    have c7 : W0.cell? ⟨w.heap.size + 1 + 1, 0, none⟩ = some (.slice (some ⟨w.heap.size + 1, 0, none⟩) n n) := by
      rw [hW0]
      have := cell_alloc_at ((w.alloc (.cells (madeCells #[.int .i64 0] n) 3)).alloc (.cells (madeCells #[.int .i64 0] n) 3)) (.slice (some ⟨w.heap.size + 1, 0, none⟩) n n) 49
      rw [World.size_alloc, World.size_alloc] at this
      exact this
    have hbel : Below w.heap.size w W0 := by rw [hW0]; exact (((Below.refl _ w).alloc (Nat.le_refl _) _).alloc (by simp) _).alloc (by simp; omega) _
    rw [← hW0]
    have HO1 := Lib.hid o1
    have HO2 := Lib.hid o2
    have HC7 := Lib.hid c7
    have HBEL := Lib.hid hbel
    clear hW0 o1 o2 c7 hbel HSUM hmk
    go_loopw [8, 9, 31] (fun od lf i wr => ∃ (q : Nat) (A8 : Option Addr) (c8 : Nat), q ≤ n ∧ i = .int .i64 q ∧ lf = .int .i64 (k - Ph.sumTo q (Ph.nq v k)) ∧ od = .slice A8 q c8 ∧
      Hid (wr.ownsRow w.heap.size 3 1 (.slice (some ⟨w.heap.size, 0, none⟩) n n) n (ivals (part (Ph.nq v k) n q))) ∧ Hid (wr.ownsRow w.heap.size 3 1 (.slice (some ⟨w.heap.size + 1, 0, none⟩) n n) n (ivals (part (Ph.nr v k) n q))) ∧
      Hid (wr.cell? ⟨w.heap.size + 1 + 1, 0, none⟩ = some (.slice (some ⟨w.heap.size + 1, 0, none⟩) n n)) ∧ Hid (wr.ownsRow W0.heap.size 3 1 (.slice A8 q c8) q (ivals (casts (List.range q)))) ∧ Hid (Below w.heap.size w wr) ∧ W0.heap.size ≤ wr.heap.size) (fun _ _ i _ => n - (intOf i).toNat)
    case atStart => exact ⟨0, none, 0, Nat.zero_le _, rfl, by simp [Ph.sumTo], rfl, Lib.hid (by rw [part_zero]; exact HO1.out), Lib.hid (by rw [part_zero]; exact HO2.out), HC7, Lib.hid (own_nil _ _ _), HBEL, Nat.le_refl _⟩
    case round =>
      obtain ⟨q, A8, c8, hq, rfl, rfl, rfl, P1, P2, P7, P8, PB, hsw⟩ := hrel
      clear HO1 HO2 HC7
      by_cases hlt : q < n
      · obtain ⟨b0, o0, rfl, _, c0⟩ := (H.out.below (PB.out.mono hB)).at_ hlt
        have hql : q < v.length := by rw [HL.out]; exact hlt
        have hx := Ph.allIn_getD HBD.out (by omega) q
        have hnq : Ph.nq v k q = k * Ph.far (v.getD q 0) / L := by rw [HLE.out]; rfl
        have hnr : Ph.nr v k q = k * Ph.far (v.getD q 0) % L := by rw [HLE.out]; rfl
        have hs1 : Ph.sumTo (q + 1) (Ph.nq v k) = Ph.sumTo q (Ph.nq v k) + Ph.nq v k q := rfl
        have hsb := nq_sum_bd (v := v) (k := k) (by rw [← HLE.out]; exact hL0) hk.1 q (by omega)
        obtain ⟨x, hxe⟩ : ∃ x, x = v.getD q 0 := ⟨_, rfl⟩
        rw [← hxe] at c0 hx hnq hnr
        have hF := Ph.far_nonneg x
        have hF2 : Ph.far x ≤ 8000 := Ph.far_le.2 hx
        have HFA := Lib.hid fun W => far_any x W (by omega)
        obtain ⟨F, hFe⟩ : ∃ F, F = Ph.far x := ⟨_, rfl⟩
        rw [← hFe] at HFA hF hF2 hnq hnr
        have hkF : 0 ≤ k * F ∧ k * F ≤ 64000 := ⟨Int.mul_nonneg hk.1 hF, by have := Int.mul_le_mul hk.2 hF2 hF (by omega); omega⟩
        obtain ⟨N, hN⟩ : ∃ N, N = k * F := ⟨_, rfl⟩
        rw [← hN] at hkF hnq hnr
        have k1 : IntKind.i64.wrap (k * F) = N := by rw [← hN]; exact IntWalk.i64_in _ (by omega)
        have hQ0 : 0 ≤ N / L := Int.ediv_nonneg hkF.1 (by omega)
        have hQ1 : N / L ≤ 64000 := Int.le_trans (Int.ediv_le_self _ hkF.1) hkF.2
        have hR0 : 0 ≤ N % L := Int.emod_nonneg _ (by omega)
        have hR1 : N % L < L := Int.emod_lt_of_pos _ hL0
        obtain ⟨S, hS⟩ : ∃ S, S = Ph.sumTo q (Ph.nq v k) := ⟨_, rfl⟩
        rw [← hS] at hs1 hsb ⊢
        have HNQ := Lib.hid hnq
        have HNR := Lib.hid hnr
        have HS1 := Lib.hid hs1
        have f1 : wr.frozen? ⟨w.heap.size, q, none⟩ = false := P1.out.frozenAt _
        have f2 : wr.frozen? ⟨w.heap.size + 1, q, none⟩ = false := P2.out.frozenAt _
        have d1 : wr.cell? ⟨w.heap.size, q, none⟩ = some (.int .i64 ((part (Ph.nq v k) n q).getD q 0)) := by rw [P1.out.cellAt q (by omega), ivals_get (by rw [part_length]; exact hlt)]
        have d2 : wr.cell? ⟨w.heap.size + 1, q, none⟩ = some (.int .i64 ((part (Ph.nr v k) n q).getD q 0)) := by rw [P2.out.cellAt q (by omega), ivals_get (by rw [part_length]; exact hlt)]
        have c7 := P7.out
        have hlt' : (q : Int) < (n : Int) := by omega
        have hLn : ¬ L = 0 := by omega
        clear hxe hFe hN hnq hnr hs1 hS hql hF hF2
        go_wp2_with fail
        refine (HFA.out _).mono ?_
        rintro e w' ⟨rfl, rfl⟩
        go_wp2_with fail
        go_region
        have s1 := (P1.out.stored q (.int .i64 (N / L))).1
        have s2 := own_setFar P2.out (p := ⟨w.heap.size, q, none⟩) (by simp [Value.ownBlock]) (.int .i64 (N / L))
        have s3 := own_setFar s1 (p := ⟨w.heap.size + 1, q, none⟩) (by simp [Value.ownBlock]) (.int .i64 (N % L))
        have s4 := (s2.stored q (.int .i64 (N % L))).1
        have s8 := own_setFar (own_setFar P8.out (p := ⟨w.heap.size, q, none⟩) (fun e => by have := (P8.out.lt _ e).1; simp at this; omega) (.int .i64 (N / L))) (p := ⟨w.heap.size + 1, q, none⟩) (fun e => by have := (P8.out.lt _ e).1; simp at this; omega) (.int .i64 (N % L))
        have s7 : ((wr.setCell ⟨w.heap.size, q, none⟩ (.int .i64 (N / L))).setCell ⟨w.heap.size + 1, q, none⟩ (.int .i64 (N % L))).cell? ⟨w.heap.size + 1 + 1, 0, none⟩ = some (.slice (some ⟨w.heap.size + 1, 0, none⟩) n n) := by
          rw [World.cell?_setCell_other _ _ _ _ (by simp), World.cell?_setCell_other _ _ _ _ (by simp)]; exact P7.out
        have sB : Below w.heap.size w ((wr.setCell ⟨w.heap.size, q, none⟩ (.int .i64 (N / L))).setCell ⟨w.heap.size + 1, q, none⟩ (.int .i64 (N % L))).drew := ((PB.out.setCell (p := ⟨w.heap.size, q, none⟩) (Nat.le_refl _) _).setCell (p := ⟨w.heap.size + 1, q, none⟩) (by simp) _).drew
        have e3 : (ivals (part (Ph.nq v k) n q)).set q (.int .i64 (N / L)) = ivals (part (Ph.nq v k) n (q + 1)) := by rw [ivals_set, ← HNQ.out, part_set]
        have e4 : (ivals (part (Ph.nr v k) n q)).set q (.int .i64 (N % L)) = ivals (part (Ph.nr v k) n (q + 1)) := by rw [ivals_set, ← HNR.out, part_set]
        rw [e3] at s3
        rw [e4] at s4
        obtain ⟨W1, hW1⟩ : ∃ W1, W1 = ((wr.setCell ⟨w.heap.size, q, none⟩ (.int .i64 (N / L))).setCell ⟨w.heap.size + 1, q, none⟩ (.int .i64 (N % L))).drew := ⟨_, rfl⟩
        have HS1' : Hid (W1.ownsRow w.heap.size 3 1 (.slice (some ⟨w.heap.size, 0, none⟩) n n) n (ivals (part (Ph.nq v k) n (q + 1)))) := Lib.hid (by rw [hW1]; exact s3)
        have HS2' : Hid (W1.ownsRow w.heap.size 3 1 (.slice (some ⟨w.heap.size + 1, 0, none⟩) n n) n (ivals (part (Ph.nr v k) n (q + 1)))) := Lib.hid (by rw [hW1]; exact s4)
        have HS7 : Hid (W1.cell? ⟨w.heap.size + 1 + 1, 0, none⟩ = some (.slice (some ⟨w.heap.size + 1, 0, none⟩) n n)) := Lib.hid (by rw [hW1]; exact s7)
        have HS8 : Hid (W1.ownsRow W0.heap.size 3 1 (.slice A8 q c8) q (ivals (casts (List.range q)))) := Lib.hid (by rw [hW1]; exact s8)
        have HSB : Hid (Below w.heap.size w W1) := Lib.hid (by rw [hW1]; exact sB)
        have hsw1 : W0.heap.size ≤ W1.heap.size := by rw [hW1]; simpa using hsw
        rw [← hW1]
        clear s1 s2 s3 s4 s7 s8 sB e3 e4 hW1 P1 P2 P7 P8 f1 f2 d1 d2 c7 c0
        go_wp2_with (at_builtin; refine wpList_push _ (by rfl) _ _ (by rfl) W1 W0.heap.size A8 q c8 _ (q : Int) HS8.out (Below.refl _ _) hsw1 (by omega) (by rfl) (by rfl) ?_; intro g cap w2 ho2 hb2)
        have T1 := Lib.hid (own_below HS1'.out hb2 (fun g e => by simp [Value.ownBlock] at e; omega))
        have T2 := Lib.hid (own_below HS2'.out hb2 (fun g e => by simp [Value.ownBlock] at e; omega))
        have T7 := Lib.hid ((hb2.cell (p := ⟨w.heap.size + 1 + 1, 0, none⟩) (by show w.heap.size + 1 + 1 < _; omega)).trans HS7.out)
        have T8 := Lib.hid ho2
        have TB := Lib.hid (HSB.out.trans (hb2.mono (by omega)))
        have hsw2 := Nat.le_trans hsw1 hb2.size
        clear ho2 hb2 HS1' HS2' HS7 HS8 HSB
        go_wp2_with fail
        go_roundw
        case rel => exact ⟨q + 1, some ⟨g, 0, none⟩, cap, by omega, by go_num, by rw [HS1.out, HNQ.out]; congr 1; omega, rfl, T1, T2, T7, Lib.hid (by have := T8.out; rw [List.range_succ, casts_append]; exact this), TB, hsw2⟩
        case measure => simp [intOf]; omega
      · obtain rfl : q = n := by omega
        rw [part_mapR] at P1 P2
        have hqn0 : 0 < q := hn1
        obtain ⟨g8, rfl, hg8, hg8l⟩ := own_form P8.out hqn0
        have hR : RestIn (w.heap.size + 1 + 1) (w.heap.size + 1) q q (Ph.nr v k) wr := ⟨P7.out, fun j hj => by rw [P2.out.cellAt j (by omega), ivals_get (by rw [mapR_length]; exact hj), mapR_getD _ _ _ hj]⟩
        have HST := Lib.hid (stable_any q g8 c8 W0.heap.size 90 #[.pointer (some ⟨w.heap.size + 1 + 1, 0, none⟩)] (Ph.nr v k) wr (RestIn (w.heap.size + 1 + 1) (w.heap.size + 1) q q (Ph.nr v k)) ⟨hn1, by omega⟩ hR
          (fun W W' h hg => h.grown hg (by omega) (by omega)) enters_ncmp (fun i j W hi hj h => ncmp_any _ _ _ _ _ i j W hi hj h) P8.out)
        have hmf : ∀ (fn : Fn) (first cap : Array Value) (w : World), (Instr.makeFunc fn first cap).run Tryz.prog w = .ok (.func fn first cap) w := fun _ _ _ _ => rfl
        clear hR
        go_wp2_with fail
        refine HST.out.mono ?_
        rintro e w5 ⟨rfl, ho5, hg5⟩
        have hq1 := own_kept_at P1.out hg5 (by omega)
        have hcap := own_cap ho5
        have hle := Ph.nleft_le (v := v) (k := k) (by rw [← HLE.out]; exact hL0)
        have hl0 := Ph.nleft_nonneg (v := v) (k := k) (by rw [← HLE.out]; exact hL0)
        have hM0 : k - Ph.sumTo q (Ph.nq v k) = Ph.nleft v k := by unfold Ph.nleft; rw [HL.out]
        rw [hM0]
        rw [HL.out] at hle
        obtain ⟨M, hM⟩ : ∃ M : Nat, Ph.nleft v k = M := ⟨(Ph.nleft v k).toNat, by omega⟩
        rw [hM] at hle ⊢
        have HMM := Lib.hid hM
        have hMq : M ≤ q := by omega
        have HO5 := Lib.hid ho5
        have HQ1 := Lib.hid hq1
        have HB5 : Hid (Below w.heap.size w w5) := Lib.hid (PB.out.grown hg5 (by omega) (fun j e => by cases e; omega))
        have HSZ5 : Hid (g8 < w5.heap.size ∧ w.heap.size < w5.heap.size) := Lib.hid ⟨(ho5.lt g8 rfl).2, (hq1.lt _ rfl).2⟩
        have hnb : Hid (∀ i, 0 ≤ Ph.nq v k i ∧ Ph.nq v k i ≤ 8) := Lib.hid fun i => nq_bd (by rw [← HLE.out]; exact hL0) hk.1 hk.2 i
        have hmc : (M : Int) ≤ (c8 : Int) := by omega
        have hm0 : (0 : Int) ≤ (M : Int) := by omega
        clear ho5 hg5 hq1 P1 P2 P7 P8 PB HST hmf hM0 hM hle hl0
        go_wp2_with fail
        go_loopw [69] (fun i wr2 => ∃ t : Nat, t ≤ M ∧ i = .int .i64 t ∧ Hid (wr2.ownsRow w.heap.size 3 1 (.slice (some ⟨w.heap.size, 0, none⟩) q q) q (ivals (mapR (fun i => Ph.nq v k i + Ph.one ((Ph.ord (Ph.nr v k) q).take t) i) q))) ∧ Hid (wr2.ownsRow W0.heap.size 3 1 (.slice (some ⟨g8, 0, none⟩) q c8) q (ivals (casts (Ph.ord (Ph.nr v k) q)))) ∧ Hid (Below w.heap.size w wr2)) (fun i _ => M - (intOf i).toNat)
        case atStart => exact ⟨0, Nat.zero_le _, rfl, Lib.hid (by rw [mapR_congr (g := Ph.nq v k) (fun i _ => by rw [List.take_zero, Ph.one_nil, Int.add_zero])]; exact HQ1.out), HO5, HB5⟩
        case round =>
          obtain ⟨t, ht, rfl, R1, R2, RB⟩ := hrel
          clear HQ1 HO5
          by_cases htM : t < M
          · have htq : t < q := by omega
            have hord : (Ph.ord (Ph.nr v k) q).length = q := Ph.ord_length _ _
            obtain ⟨x, hx⟩ : ∃ x, x = (Ph.ord (Ph.nr v k) q)[t]'(by omega) := ⟨_, rfl⟩
            have hxq : x < q := (Ph.ord_mem (Ph.nr v k) q x).1 (by rw [hx]; exact List.getElem_mem _)
            have c1 : wr.cell? ⟨g8, t, none⟩ = some (.int .i64 (x : Int)) := by
              rw [R2.out.cellAt t (by omega), ivals_get (by rw [casts_length]; omega)]
              simp [casts, List.getD_eq_getElem?_getD, hord, htq, hx]
            have c2 : wr.cell? ⟨w.heap.size, x, none⟩ = some (.int .i64 (Ph.nq v k x + Ph.one ((Ph.ord (Ph.nr v k) q).take t) x)) := by
              rw [R1.out.cellAt x (by omega), ivals_get (by rw [mapR_length]; exact hxq), mapR_getD _ _ _ hxq]
            have f2 : wr.frozen? ⟨w.heap.size, x, none⟩ = false := R1.out.frozenAt _
            have h1 := hnb.out x
            have h2 := Ph.one_bd ((Ph.ord (Ph.nr v k) q).take t) x
            have hrow : Hid ((mapR (fun i => Ph.nq v k i + Ph.one ((Ph.ord (Ph.nr v k) q).take t) i) q).set x (Ph.nq v k x + Ph.one ((Ph.ord (Ph.nr v k) q).take t) x + 1) = mapR (fun i => Ph.nq v k i + Ph.one ((Ph.ord (Ph.nr v k) q).take (t + 1)) i) q) := Lib.hid (by
              rw [mapR_set]
              refine mapR_congr fun i _ => ?_
              have hone := Ph.one_take_succ (Ph.nr v k) q t i htq
              rw [← hx] at hone
              by_cases e : i = x
              · rw [if_pos e] at hone ⊢
                have hnm := Ph.ord_get_not (Ph.nr v k) q t (by omega)
                rw [← hx] at hnm
                have h0 : Ph.one ((Ph.ord (Ph.nr v k) q).take t) x = 0 := if_neg hnm
                rw [hone, h0, e]; omega
              · rw [if_neg e] at hone ⊢; rw [hone])
            obtain ⟨Z, hZ⟩ : ∃ Z, Z = Ph.nq v k x + Ph.one ((Ph.ord (Ph.nr v k) q).take t) x := ⟨_, rfl⟩
            rw [← hZ] at c2 hrow
            have hZb : 0 ≤ Z ∧ Z ≤ 9 := by omega
            have hxq' : (x : Int) < (q : Int) := by omega
            have htM' : (t : Int) < (M : Int) := by omega
            clear hx h1 h2 hZ hord
            go_wp2_with fail
            have s1 := (R1.out.stored x (.int .i64 (Z + 1))).1
            rw [ivals_set, hrow.out] at s1
            go_roundw
            case rel => exact ⟨t + 1, by omega, by go_num, Lib.hid s1, Lib.hid (own_setFar R2.out (by simp [Value.ownBlock]; omega) _), Lib.hid (RB.out.setCell (p := ⟨w.heap.size, x, none⟩) (Nat.le_refl _) _)⟩
            case measure => simp [intOf]; omega
          · obtain rfl : t = M := by omega
            have hmag : Hid (∀ i, Ph.nq v k i + Ph.one ((Ph.ord (Ph.nr v k) q).take t) i = Ph.nmag v k i) := Lib.hid fun i => by
              unfold Ph.nmag Ph.nadd; rw [HL.out, HMM.out, Int.toNat_natCast]
            have r1 := R1.out
            rw [mapR_congr (fun i _ => hmag.out i)] at r1
            have Q1 := Lib.hid r1
            have hmb : Hid (∀ i, 0 ≤ Ph.nmag v k i ∧ Ph.nmag v k i ≤ 9) := Lib.hid fun i => by
              have h1 := hnb.out i
              have h2 := Ph.one_bd ((Ph.ord (Ph.nr v k) q).take t) i
              rw [← hmag.out i]; omega
            clear r1 R1 R2
            go_wp2_with fail
            go_loopw [82] (fun i wr3 => ∃ j : Nat, j ≤ q ∧ i = .int .i64 j ∧ Hid (wr3.ownsRow w.heap.size 3 1 (.slice (some ⟨w.heap.size, 0, none⟩) q q) q (ivals (mapR (fun i => if i < j then Ph.nmag v k i * Ph.sgn (v.getD i 0) else Ph.nmag v k i) q))) ∧ Hid (Below w.heap.size w wr3)) (fun i _ => q - (intOf i).toNat)
            case atStart => exact ⟨0, Nat.zero_le _, rfl, Lib.hid (by rw [mapR_congr (g := Ph.nmag v k) (fun i _ => if_neg (by omega))]; exact Q1.out), RB⟩
            case round =>
              obtain ⟨j, hj, rfl, S1, SB⟩ := hrel
              clear Q1
              by_cases hjq : j < q
              · obtain ⟨b0, o0, rfl, _, c0⟩ := (H.out.below (SB.out.mono hB)).at_ hjq
                have c2 : wr.cell? ⟨w.heap.size, j, none⟩ = some (.int .i64 (Ph.nmag v k j)) := by
                  rw [S1.out.cellAt j (by omega), ivals_get (by rw [mapR_length]; exact hjq), mapR_getD _ _ _ hjq, if_neg (by omega)]
                have f2 : wr.frozen? ⟨w.heap.size, j, none⟩ = false := S1.out.frozenAt _
                have h1 := hmb.out j
                have hrow : Hid ((mapR (fun i => if i < j then Ph.nmag v k i * Ph.sgn (v.getD i 0) else Ph.nmag v k i) q).set j (Ph.nmag v k j * Ph.sgn (v.getD j 0)) = mapR (fun i => if i < j + 1 then Ph.nmag v k i * Ph.sgn (v.getD i 0) else Ph.nmag v k i) q) := Lib.hid (by
                  rw [mapR_set]
                  refine mapR_congr fun i _ => ?_
                  by_cases e : i = j
                  · rw [if_pos e, if_pos (by omega), e]
                  · rw [if_neg e]
                    by_cases h : i < j
                    · rw [if_pos h, if_pos (by omega)]
                    · rw [if_neg h, if_neg (by omega)])
                obtain ⟨x, hx⟩ : ∃ x, x = v.getD j 0 := ⟨_, rfl⟩
                rw [← hx] at c0 hrow
                have HSG := Lib.hid fun W => sign_any x W
                obtain ⟨Y, hY⟩ : ∃ Y, Y = Ph.nmag v k j := ⟨_, rfl⟩
                rw [← hY] at c2 h1 hrow
                have hsb : Ph.sgn x = 1 ∨ Ph.sgn x = -1 := by unfold Ph.sgn; split <;> simp
                obtain ⟨G, hG⟩ : ∃ G, G = Ph.sgn x := ⟨_, rfl⟩
                rw [← hG] at HSG hrow hsb
                obtain ⟨Z, hZ⟩ : ∃ Z, Z = Y * G := ⟨_, rfl⟩
                rw [← hZ] at hrow
                have k1 : IntKind.i64.wrap (Y * G) = Z := by rw [← hZ]; exact IntWalk.i64_in _ (by rcases hsb with e | e <;> rw [e] at hZ <;> omega)
                have hjq' : (j : Int) < (q : Int) := by omega
                clear hx hY hG hZ hsb
                go_wp2_with fail
                go_region_with (first | (go_at_call 92; refine (HSG.out _).mono ?_; rintro e w' ⟨rfl, rfl⟩))
                all_goals
                  have s1 := (S1.out.stored j (.int .i64 Z)).1
                  rw [ivals_set, hrow.out] at s1
                  go_wp2_with fail
                  go_roundw
                  case rel => exact ⟨j + 1, by omega, by go_num, Lib.hid s1, Lib.hid (SB.out.setCell (p := ⟨w.heap.size, j, none⟩) (Nat.le_refl _) _).drew⟩
                  case measure => simp [intOf]; omega
              · obtain rfl : j = q := by omega
                have hnear : Ph.near v k = mapR (fun i => if i < j then Ph.nmag v k i * Ph.sgn (v.getD i 0) else Ph.nmag v k i) j := by
                  unfold Ph.near; rw [if_neg hk0, HL.out]
                  exact mapR_congr fun i hi => (if_pos hi).symm
                have HNE := Lib.hid hnear
                have hlen : Hid ((Ph.near v k).length = j) := Lib.hid (by rw [Ph.near_length, HL.out])
                clear hnear
                go_wp2_with fail
                go_ret
                exact ⟨some ⟨w.heap.size, 0, none⟩, j, by rw [hlen.out]; rfl, by rw [hlen.out, HNE.out]; exact S1.out, SB.out⟩
/-- What is wrong with numbers. -/
def nearErr (v : List Int) : Int := if 6 < v.length then 4 else Ph.soundErr v
theorem nearErr_zero {v : List Int} : nearErr v = 0 ↔ v.length ≤ 6 ∧ Ph.allIn v 1000 = true := by
  unfold nearErr
  by_cases h : 6 < v.length
  · rw [if_pos h]; constructor
    · intro h2; omega
    · intro h2; omega
  · rw [if_neg h, Ph.soundErr_zero]
    constructor
    · intro h2; exact ⟨by omega, h2.2⟩
    · intro h2; exact ⟨by omega, h2.2⟩
theorem ncheck_any (A : Option Addr) (n c : Nat) (v : List Int) (w : World) (B : Nat) (h : RdI w B A n v) (hB : B ≤ w.heap.size) (hn : n ≤ 100000000000000) :
    Calls Tryz.prog 68 #[.slice A n c] w fun e w' => e = .returned (errV (nearErr v)) ∧ Below w.heap.size w w' := by
  have hl := h.len
  unfold nearErr
  by_cases h6 : 6 < n
  · rw [if_pos (by omega), errV_ne (by decide)]
    clear h hl
    go_enter Tryz.func68, Tryz.ntmps68
    go_wp2
    go_ret
    exact ⟨rfl, Below.refl _ _⟩
  · rw [if_neg (by omega)]
    have HC := Lib.hid (check_any A n c v w B h hB hn)
    obtain ⟨E, hE⟩ : ∃ E, E = Ph.soundErr v := ⟨_, rfl⟩
    rw [← hE] at HC ⊢
    clear h hl hE
    go_enter Tryz.func68, Tryz.ntmps68
    go_wp2_with fail
    refine HC.out.mono ?_
    rintro e w1 ⟨rfl, hb⟩
    go_wp2_with fail
    go_ret
    exact ⟨rfl, hb⟩
/-- What is wrong with numbers, and so many pulses. -/
def nearOfErr (v : List Int) (k : Int) : Int := if nearErr v ≠ 0 then nearErr v else if k < 0 ∨ 8 < k then 1 else if 0 < k ∧ Ph.loud v = 0 then 5 else 0
theorem nearOfErr_zero {v : List Int} {k : Int} : nearOfErr v k = 0 ↔ nearErr v = 0 ∧ (0 ≤ k ∧ k ≤ 8) ∧ (k = 0 ∨ 0 < Ph.loud v) := by
  have h0 := Ph.loud_nonneg v
  unfold nearOfErr
  by_cases h1 : nearErr v = 0
  · rw [if_neg (by omega)]
    by_cases h2 : k < 0 ∨ 8 < k
    · rw [if_pos h2]; constructor
      · intro h; omega
      · intro h; omega
    · rw [if_neg h2]
      by_cases h3 : 0 < k ∧ Ph.loud v = 0
      · rw [if_pos h3]; constructor
        · intro h; omega
        · intro h; omega
      · rw [if_neg h3]; constructor
        · intro _; exact ⟨h1, by omega, by omega⟩
        · intro _; rfl
  · rw [if_pos h1]; constructor
    · intro h; exact absurd h h1
    · intro h; exact absurd h.1 h1
theorem nearOf_ok (A : Option Addr) (n c : Nat) (v : List Int) (k : Int) (w : World) (B : Nat) (h : RdI w B A n v) (hB : B ≤ w.heap.size) (h0 : nearOfErr v k = 0) :
    Calls Tryz.prog 48 #[.slice A n c, .int .i64 k] w (FreshI 3 (Ph.near v k) w) := by
  obtain ⟨hv, hk, hL⟩ := nearOfErr_zero.1 h0
  have hv2 := nearErr_zero.1 hv
  have hl := h.len
  have HC := Lib.hid (ncheck_any A n c v w B h hB (by omega))
  rw [hv, errV_zero] at HC
  have HP := Lib.hid fun W => pulses_any k W
  have hP1 : (decide (0 ≤ k) && decide (k ≤ 8)) = true := by simp; omega
  rw [hP1] at HP
  have HS := Lib.hid fun W hW => sum_any A n c v W B hW (Ph.allIn_mono hv2.2 (by omega)) (by omega)
  have HN := Lib.hid fun W hW hBW => npulses_ok A n c v k W B hW hBW (Ph.allIn_mono hv2.2 (by omega)) (by omega) hk hL
  have hL0 := Ph.loud_nonneg v
  obtain ⟨L, hLe⟩ : ∃ L, L = Ph.loud v := ⟨_, rfl⟩
  rw [← hLe] at HS hL hL0
  obtain ⟨V, hV⟩ : ∃ V, V = Ph.near v k := ⟨_, rfl⟩
  rw [← hV] at HN ⊢
  have H := Lib.hid h
  clear h h0 hv hv2 hl hLe hV hP1
  by_cases hk0 : 0 < k
  · have hLn : (L == 0) = false := by simp; omega
    go_enter Tryz.func48, Tryz.ntmps48
    go_wp2_with fail
    refine HC.out.mono ?_
    rintro e w1 ⟨rfl, hb⟩
    have K := Lib.hid (H.out.below (hb.mono hB))
    have KB := Lib.hid hb
    have hB1 := Nat.le_trans hB hb.size
    clear hb HC
    go_wp2_with fail
    refine (HP.out _).mono ?_
    rintro e wk ⟨rfl, rfl⟩
    go_wp2_with fail
    refine (HS.out _ K.out).mono ?_
    rintro e wk ⟨rfl, rfl⟩
    go_wp2_with fail
    refine (HN.out _ K.out hB1).mono ?_
    rintro e w2 ⟨A2, c2, rfl, ho, hb⟩
    have HO := Lib.hid ho
    have LB := Lib.hid (below_on KB.out hb)
    have KS := Lib.hid KB.out.size
    clear ho hb HN
    go_wp2_with fail
    go_ret2
    exact ⟨A2, c2, rfl, own_more HO.out KS.out, LB.out⟩
  · have hk0' : ¬ (0 < k) := hk0
    go_enter Tryz.func48, Tryz.ntmps48
    go_wp2_with fail
    refine HC.out.mono ?_
    rintro e w1 ⟨rfl, hb⟩
    have K := Lib.hid (H.out.below (hb.mono hB))
    have KB := Lib.hid hb
    have hB1 := Nat.le_trans hB hb.size
    clear hb HC
    go_wp2_with fail
    refine (HP.out _).mono ?_
    rintro e wk ⟨rfl, rfl⟩
    go_wp2_with fail
    refine (HN.out _ K.out hB1).mono ?_
    rintro e w2 ⟨A2, c2, rfl, ho, hb⟩
    have HO := Lib.hid ho
    have LB := Lib.hid (below_on KB.out hb)
    have KS := Lib.hid KB.out.size
    clear ho hb HN
    go_wp2_with fail
    go_ret2
    exact ⟨A2, c2, rfl, own_more HO.out KS.out, LB.out⟩
theorem nearOf_no (A : Option Addr) (n c : Nat) (v : List Int) (k : Int) (w : World) (B : Nat) (h : RdI w B A n v) (hB : B ≤ w.heap.size) (hn : n ≤ 100000000000000) (h0 : nearOfErr v k ≠ 0) :
    Calls Tryz.prog 48 #[.slice A n c, .int .i64 k] w fun e w' => e = .returned (.tuple #[.slice none 0 0, errV (nearOfErr v k)]) ∧ Below w.heap.size w w' := by
  have HC := Lib.hid (ncheck_any A n c v w B h hB hn)
  have H := Lib.hid h
  have hl := h.len
  unfold nearOfErr at h0 ⊢
  by_cases hv : nearErr v = 0
  · rw [if_neg (by omega)] at h0 ⊢
    rw [hv, errV_zero] at HC
    have hv2 := nearErr_zero.1 hv
    have HP := Lib.hid fun W => pulses_any k W
    by_cases hk : k < 0 ∨ 8 < k
    · rw [if_pos hk, errV_ne (by decide)]
      have hP1 : (decide (0 ≤ k) && decide (k ≤ 8)) = false := by simp; omega
      rw [hP1] at HP
      clear h h0 hv hv2 hl hk hP1
      go_enter Tryz.func48, Tryz.ntmps48
      go_wp2_with fail
      refine HC.out.mono ?_
      rintro e w1 ⟨rfl, hb⟩
      go_wp2_with fail
      refine (HP.out _).mono ?_
      rintro e wk ⟨rfl, rfl⟩
      go_wp2_with fail
      go_ret2
      exact ⟨rfl, hb⟩
    · rw [if_neg hk] at h0 ⊢
      have hP1 : (decide (0 ≤ k) && decide (k ≤ 8)) = true := by simp; omega
      rw [hP1] at HP
      by_cases h3 : 0 < k ∧ Ph.loud v = 0
      · rw [if_pos h3, errV_ne (by decide)]
        have hk0 := h3.1
        have HS := Lib.hid fun W hW => sum_any A n c v W B hW (Ph.allIn_mono hv2.2 (by omega)) (by omega)
        rw [h3.2] at HS
        clear h h0 hv hv2 hl hk hP1 h3
        go_enter Tryz.func48, Tryz.ntmps48
        go_wp2_with fail
        refine HC.out.mono ?_
        rintro e w1 ⟨rfl, hb⟩
        have K := Lib.hid (H.out.below (hb.mono hB))
        go_wp2_with fail
        refine (HP.out _).mono ?_
        rintro e wk ⟨rfl, rfl⟩
        go_wp2_with fail
        refine (HS.out _ K.out).mono ?_
        rintro e wk ⟨rfl, rfl⟩
        go_wp2_with fail
        go_ret2
        exact ⟨rfl, hb⟩
      · rw [if_neg h3] at h0; exact absurd rfl h0
  · rw [if_pos hv] at h0 ⊢
    have hev := errV_ne hv
    obtain ⟨E, hE⟩ : ∃ E, E = nearErr v := ⟨_, rfl⟩
    rw [← hE] at HC hev ⊢
    clear h h0 hv hl hE
    go_enter Tryz.func48, Tryz.ntmps48
    go_wp2_with fail
    refine HC.out.mono ?_
    rintro e w1 ⟨rfl, hb⟩
    go_wp2_with fail
    go_ret2
    exact ⟨ret_two rfl hev.symm, hb⟩
end Go.Proofs.YtjdpgakkphdjlaaGreatDoor
