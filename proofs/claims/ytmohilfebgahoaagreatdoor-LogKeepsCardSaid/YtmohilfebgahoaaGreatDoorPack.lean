/- Walks: a frame as bytes, and how many these are at most (chapter 17: Pack, Long). -/
import Derived.Test.YtmohilfebgahoaaGreatDoorFrameC
import Derived.Test.YtmohilfebgahoaaGreatDoorWidth3
namespace Go.Proofs.YtmohilfebgahoaaGreatDoor
open Go.RowKit

theorem take_snoc {l : List Int} {k : Nat} (h : k < l.length) : l.take (k + 1) = l.take k ++ [l.getD k 0] := by
  rw [List.take_add_one, List.getElem?_eq_getElem h, List.getD_eq_getElem?_getD, List.getElem?_eq_getElem h]
  rfl
theorem nums_len (ps : List Ph.Part) : (Ph.packNums ps).length = ps.length + ps.length := by unfold Ph.packNums; simp
theorem wide_len (ps : List Ph.Part) : (Ph.packWide ps).length = ps.length + ps.length := by unfold Ph.packWide; simp
theorem nums_get1 (ps : List Ph.Part) (k : Nat) (h : k < ps.length) : (Ph.packNums ps).getD k 0 = (ps.getD k ⟨0, []⟩).gain := by
  unfold Ph.packNums
  rw [List.getD_eq_getElem?_getD, List.getElem?_append_left (by simpa using h), List.getElem?_map, List.getD_eq_getElem?_getD, List.getElem?_eq_getElem h]
  rfl
theorem nums_get2 (ps : List Ph.Part) (k : Nat) (h : k < ps.length) : (Ph.packNums ps).getD (ps.length + k) 0 = ((Ph.rank (ps.getD k ⟨0, []⟩).pulses : Nat) : Int) := by
  unfold Ph.packNums
  rw [List.getD_eq_getElem?_getD, List.getElem?_append_right (by simp), List.getElem?_map, List.length_map, Nat.add_sub_cancel_left, List.getD_eq_getElem?_getD, List.getElem?_eq_getElem h]
  rfl
theorem wide_get1 (ps : List Ph.Part) (k : Nat) (h : k < ps.length) : (Ph.packWide ps).getD k 0 = 6 := by
  unfold Ph.packWide
  rw [List.getD_eq_getElem?_getD, List.getElem?_append_left (by simpa using h), List.getElem?_map, List.getElem?_eq_getElem h]
  rfl
theorem wide_get2 (ps : List Ph.Part) (k : Nat) (h : k < ps.length) : (Ph.packWide ps).getD (ps.length + k) 0 = Ph.wid (ps.getD k ⟨0, []⟩).pulses.length (Ph.loud (ps.getD k ⟨0, []⟩).pulses) := by
  unfold Ph.packWide
  rw [List.getD_eq_getElem?_getD, List.getElem?_append_right (by simp), List.getElem?_map, List.length_map, Nat.add_sub_cancel_left, List.getD_eq_getElem?_getD, List.getElem?_eq_getElem h]
  rfl
theorem goes_maps {α : Type} (f g : α → Int) : ∀ p : List α, (∀ x ∈ p, Ph.goes (f x) (g x) = true) → (List.zipWith Ph.goes (p.map f) (p.map g)).all id = true
  | [], _ => rfl
  | x :: p, h => by
    have h1 := h x (by simp)
    have h2 := goes_maps f g p fun y hy => h y (by simp [hy])
    simp only [List.map_cons, List.zipWith_cons_cons, List.all_cons, h1, id, Bool.true_and]
    exact h2
theorem pack_puts {p : List Ph.Part} {s : List Int} {bits : Int} (h : Ph.frameErr p s bits = 0) : Ph.putErr (Ph.packNums p) (Ph.packWide p) = if 400 < (Ph.packBits p).length then 4 else 0 := by
  have hz := Ph.frameErr_zero.1 h
  unfold Ph.putErr
  rw [if_neg (by rw [nums_len, wide_len]; simp), if_pos]
  · rfl
  · unfold Ph.packNums Ph.packWide
    rw [List.zipWith_append (by simp), List.all_append, goes_maps, goes_maps]
    · rfl
    · intro x hx
      have h1 := (hz.2.2.1 x hx).2
      have h2 := Ph.pulsesErr_zero.1 h1
      have h3 := Ph.rank_fits (v := x.pulses) h2.1 h2.2.2
      have h4 := Ph.wid_nonneg x.pulses.length (Ph.loud x.pulses)
      unfold Ph.goes
      have : (((Ph.rank x.pulses : Nat) : Int) < 2 ^ (Ph.wid x.pulses.length (Ph.loud x.pulses)).toNat) := by exact_mod_cast h3.1
      simp [this]
      omega
    · intro x hx
      have h1 := Ph.gainOk_le (hz.2.2.1 x hx).1
      unfold Ph.goes
      simp
      omega
/-- The bytes of a frame. -/
def packS (p : List Ph.Part) (s : List Int) (bits : Int) : ByteArray := if Ph.packErr p s bits = 0 then strB (Ph.packed (Ph.packBits p)) else ByteArray.empty
theorem packS_zero {p : List Ph.Part} {s : List Int} {bits : Int} (h : Ph.packErr p s bits = 0) : packS p s bits = strB (Ph.packed (Ph.packBits p)) := if_pos h
theorem packS_ne {p : List Ph.Part} {s : List Int} {bits : Int} (h : Ph.packErr p s bits ≠ 0) : packS p s bits = ByteArray.empty := if_neg h
/-- What is wrong where one asks how many bytes there are at most. -/
def longErr (s : List Int) (bits : Int) : Int := if Ph.bandErr s ≠ 0 then Ph.bandErr s else if bits < 0 ∨ 400 < bits then 1 else if 400 < 6 * (s.length : Int) + bits then 4 else 0
def longN (s : List Int) (bits : Int) : Int := if longErr s bits = 0 then (6 * (s.length : Int) + bits + 7) / 8 else 0
theorem long_any (A : Option Addr) (n c : Nat) (s : List Int) (bits : Int) (w : World) (B : Nat) (h : RdI w B A n s) (hn : n ≤ 100000000000000) :
    Calls Tryz.prog 19 #[.slice A n c, .int .i64 bits] w fun e w' => e = .returned (.tuple #[.int .i64 (longN s bits), errV (longErr s bits)]) ∧ w = w' := by
  have hl := h.len
  by_cases hb : Ph.bandErr s = 0
  · have HBC := Lib.hid (bandCheck_ok A n c s w B h hb)
    have HSB := Lib.hid fun W => shbits_any bits W
    have h8 := (Ph.bandErr_zero.1 hb).2.1
    by_cases hbi : 0 ≤ bits ∧ bits ≤ 400
    · rw [show bitsOk bits = true from bitsOk_iff.2 hbi] at HSB
      have e : longErr s bits = if 400 < 6 * (n : Int) + bits then 4 else 0 := by unfold longErr; rw [if_neg (by omega), if_neg (by omega), hl]
      have e2 : longN s bits = if longErr s bits = 0 then (6 * (n : Int) + bits + 7) / 8 else 0 := by unfold longN; rw [hl]
      have k0 : IntKind.i64.wrap (6 * (n : Int)) = 6 * (n : Int) := IntWalk.i64_in _ (by omega)
      obtain ⟨X, hX⟩ : ∃ X, X = 6 * (n : Int) + bits := ⟨_, rfl⟩
      have k1 : IntKind.i64.wrap (6 * (n : Int) + bits) = X := by rw [hX]; exact IntWalk.i64_in _ (by omega)
      have hX0 : 0 ≤ X ∧ X ≤ 1000 := by omega
      rw [← hX] at e e2
      by_cases h4 : 400 < X
      · rw [if_pos h4] at e
        rw [e, if_neg (by omega)] at e2
        rw [e, e2]
        clear e e2 h hb hbi hl h8 hX
        go_enter Tryz.func19, Tryz.ntmps19
        go_wp2_with fail
        refine HBC.out.mono ?_
        rintro e w' ⟨rfl, rfl⟩
        go_wp2_with fail
        refine (HSB.out _).mono ?_
        rintro e w' ⟨rfl, rfl⟩
        go_wp2_with fail
        go_ret2
        exact ⟨by rw [errV_ne (by omega)]; rfl, rfl⟩
      · rw [if_neg h4] at e
        rw [e, if_pos rfl] at e2
        rw [e, e2]
        have k2 : IntKind.i64.wrap (X + 8) = X + 8 := IntWalk.i64_in _ (by omega)
        have k3 : IntKind.i64.wrap (X + 8 - 1) = X + 7 := by rw [IntWalk.i64_in _ (by omega)]; omega
        have k4 : (X + 7).tdiv 8 = (X + 7) / 8 := Int.tdiv_eq_ediv_of_nonneg (by omega)
        obtain ⟨Y, hY⟩ : ∃ Y, Y = (X + 7) / 8 := ⟨_, rfl⟩
        have k5 : IntKind.i64.wrap Y = Y := IntWalk.i64_in _ (by omega)
        rw [← hY] at k4 ⊢
        clear e e2 h hb hbi hl h8 hX hY
        go_enter Tryz.func19, Tryz.ntmps19
        go_wp2_with fail
        refine HBC.out.mono ?_
        rintro e w' ⟨rfl, rfl⟩
        go_wp2_with fail
        refine (HSB.out _).mono ?_
        rintro e w' ⟨rfl, rfl⟩
        go_wp2_with fail
        go_ret2
        exact ⟨rfl, rfl⟩
    · rw [show bitsOk bits = false by unfold bitsOk; simp; omega] at HSB
      have e : longErr s bits = 1 := by unfold longErr; rw [if_neg (by omega), if_pos (by omega)]
      have e2 : longN s bits = 0 := by unfold longN; rw [e, if_neg (by omega)]
      rw [e, e2]
      clear e e2 h hb hbi hl h8
      go_enter Tryz.func19, Tryz.ntmps19
      go_wp2_with fail
      refine HBC.out.mono ?_
      rintro e w' ⟨rfl, rfl⟩
      go_wp2_with fail
      refine (HSB.out _).mono ?_
      rintro e w' ⟨rfl, rfl⟩
      go_wp2_with fail
      go_ret2
      exact ⟨by rw [errV_ne (by omega)]; rfl, rfl⟩
  · have HBC := Lib.hid (bandCheck_no A n c s w B h hn hb)
    have e : longErr s bits = Ph.bandErr s := by unfold longErr; rw [if_pos hb]
    have e2 : longN s bits = 0 := by unfold longN; rw [if_neg (by omega)]
    rw [e, e2]
    obtain ⟨E, hE⟩ : ∃ E, E = Ph.bandErr s := ⟨_, rfl⟩
    rw [← hE] at HBC hb ⊢
    rw [errV_ne hb] at HBC
    clear e e2 h hE hl
    go_enter Tryz.func19, Tryz.ntmps19
    go_wp2_with fail
    refine HBC.out.mono ?_
    rintro e w' ⟨rfl, rfl⟩
    go_wp2_with fail
    go_ret2
    exact ⟨by rw [errV_ne hb]; rfl, rfl⟩
theorem TwoS.below {n₁ k1 k2 : Nat} {v1 v2 : Value} {l1 l2 : List Int} {W W' : World} (h : TwoS n₁ k1 k2 v1 v2 l1 l2 W) (hb : Below W.heap.size W W') : TwoS n₁ k1 k2 v1 v2 l1 l2 W' :=
  ⟨own_below' h.1 hb, own_below' h.2.1 hb, h.2.2.1, Nat.le_trans h.2.2.2 hb.size⟩
theorem wid_eq (n k : Nat) : Ph.wid (n : Int) (k : Int) = (Ph.bitsOf (Ph.cnt n k) : Nat) := by unfold Ph.wid; rw [Int.toNat_natCast, Int.toNat_natCast]
theorem wpList_twoS1g {ops : Array Oper} {rest : List Oper} {o : Oper} {a : Act} {Q : Exit → Act → World → Prop} (w : World) (hgd : o.guard = none) (s x : Operand)
    (ho : o.op = .call { callee := .builtin .append, args := #[s, x], argTypes := #[22, 22] })
    (W0 : World) {n₁ k1 k2 : Nat} {v1 v2 : Value} {l1 l2 : List Int} (y : Int) (ht : TwoS n₁ k1 k2 v1 v2 l1 l2 w) (hbel : Below n₁ W0 w)
    (hk : k1 + 1 ≤ 17592186044415) (hs : a.eval s = v1) (hx : a.eval x = .slice (some ⟨w.heap.size, 0, none⟩) 1 1)
    (h : ∀ g cap w', TwoS n₁ (k1 + 1) k2 (.slice (some ⟨g, 0, none⟩) (k1 + 1) cap) v2 (l1 ++ [y]) l2 w' → Below n₁ W0 w' → (w.alloc (.cells #[.int .i64 y] 3)).grownBy w' v1.ownBlock → wpList Tryz.prog ops Q rest (a.put o.dst (.slice (some ⟨g, 0, none⟩) (k1 + 1) cap)) w') :
    wpList Tryz.prog ops Q (o :: rest) a (w.alloc (.cells #[.int .i64 y] 3)) := by
  obtain ⟨i0, hi, hz0, hz1, hz2⟩ := info_parts int_info
  have hbase := ht.2.2.2
  refine wpList_append_lies _ hgd s x 22 ho n₁ 3 i0 (.int .i64 0) 1 8 Tryz.underlying22 hi hz0 hz1 hz2 rfl (by omega) _ _ _ hs (ht.1.alloc _) ⟨w.heap.size, 0, none⟩ 1 1 [.int .i64 y] hx rfl ?_ ?_ (by omega) ?_ ?_ ?_ (w.heap.size + 1) (by simp) ?_
  · intro j u hj
    match j, hj with
    | 0, hj => simp at hj; subst hj; simp [Addr.add]
  · intro u hu
    simp at hu
    subst hu
    rfl
  · unfold maxLen; omega
  · omega
  · simp; omega
  · intro g cap w' ho' hg hat _
    refine h g cap w' ((ht.alloc _).left (by rw [ivals_append]; exact ho') hg (hat.imp id fun e => by rw [e]; simp)) ?_ hg
    exact (hbel.alloc hbase _).grown hg (by simp; omega) fun q hq => (ht.1.lt q hq).1
theorem part_far {w : World} {base n s X : Nat} {v : Value} {xs : List Value} {cur : Array Value} {fr : Nat × Nat} (hr : w.ownsRow base 3 s v n xs) (hX : w.heap[X]? = some (.cells cur 78 fr)) : v.ownBlock ≠ some X := by
  intro h
  rcases hr.2 with h0 | ⟨g, cap, cur2, hw, hb, hh, _⟩
  · rw [h0.1] at h; simp [Value.ownBlock] at h
  · rw [hw] at h
    have e : g = X := by simpa [Value.ownBlock] using h
    subst e
    rw [hh] at hX
    injection hX with hX
    injection hX with h1 h2 h3
    exact absurd h2 (by decide)
theorem keepAlloc {a : Addr} {v : Value} {w0 W : World} (o : Obj) (h : W.cell? a = some v ∧ Below w0.heap.size w0 W) (ha : a.block < w0.heap.size) : (W.alloc o).cell? a = some v ∧ Below w0.heap.size w0 (W.alloc o) :=
  keepAt (below_alloc0 W o) h ha
theorem step_twoS2g {ops : Array Oper} {o : Oper} {a : Act} {K : Act → World → Prop} {Q : Exit → Act → World → Prop} {E : Prop} (W : World) (hgd : o.guard = none) (s x : Operand)
    (ho : o.op = .call { callee := .builtin .append, args := #[s, x], argTypes := #[22, 22] })
    (W0 : World) (n₁ k1 k2 : Nat) (v1 v2 : Value) (l1 l2 : List Int) (y : Int) (g0 : Nat) (ht : TwoS n₁ k1 k2 v1 v2 l1 l2 W) (hbel : Below n₁ W0 W)
    (hcell : W.cell? ⟨g0, 0, none⟩ = some (.int .i64 y)) (hk : k2 + 1 ≤ 17592186044415) (hs : a.eval s = v2) (hx : a.eval x = .slice (some ⟨g0, 0, none⟩) 1 1)
    (h : ∀ g cap w', TwoS n₁ k1 (k2 + 1) v1 (.slice (some ⟨g, 0, none⟩) (k2 + 1) cap) l1 (l2 ++ [y]) w' → Below n₁ W0 w' → W.grownBy w' v2.ownBlock → K (a.put o.dst (.slice (some ⟨g, 0, none⟩) (k2 + 1) cap)) w') :
    if Region.wanted o (yielded ops a.tmps) = true then Oper.wp Tryz.prog o a W K Q else E := by
  obtain ⟨i0, hi, hz0, hz1, hz2⟩ := info_parts int_info
  refine step_append_lies _ hgd s x 22 ho n₁ 3 i0 (.int .i64 0) 1 8 Tryz.underlying22 hi hz0 hz1 hz2 rfl (by omega) _ _ _ hs ht.2.1 ⟨g0, 0, none⟩ 1 1 [.int .i64 y] hx rfl ?_ ?_ (by omega) ?_ ?_ ht.2.2.2 _ rfl ?_
  · intro j u hj
    match j, hj with
    | 0, hj => simp at hj; subst hj; simpa [Addr.add] using hcell
  · intro u hu
    simp at hu
    subst hu
    rfl
  · unfold maxLen; omega
  · omega
  · intro g cap w' ho' hg hat _
    exact h g cap w' (ht.right (by rw [ivals_append]; exact ho') hg hat) (hbel.grown hg ht.2.2.2 fun q hq => (ht.2.1.lt q hq).1) hg
theorem part_blk {w w' : World} {n₁ k1 X : Nat} {v1 : Value} {xs : List Value} {cur : Array Value} {fr : Nat × Nat} (y : Int) (hr : w.ownsRow n₁ 3 1 v1 k1 xs) (hX : w.heap[X]? = some (.cells cur 78 fr))
    (hg : (w.alloc (.cells #[.int .i64 y] 3)).grownBy w' v1.ownBlock) : w'.heap[X]? = some (.cells cur 78 fr) := by
  have hlt : X < w.heap.size := (Array.getElem?_eq_some_iff.1 hX).1
  rw [hg.block X (by simp; omega) (fun e => part_far hr hX e.symm), heap_alloc_old w _ hlt]
  exact hX
/-- A cell of a block of another type stays as it is where a slice of ints grows. -/
theorem part_cell {w w' : World} {n₁ k1 X j : Nat} {v1 u : Value} {xs : List Value} {cur : Array Value} {fr : Nat × Nat} (y : Int) (hr : w.ownsRow n₁ 3 1 v1 k1 xs) (hX : w.heap[X]? = some (.cells cur 78 fr)) (hc : w.cell? ⟨X, j, none⟩ = some u)
    (hg : (w.alloc (.cells #[.int .i64 y] 3)).grownBy w' v1.ownBlock) : w'.cell? ⟨X, j, none⟩ = some u := by
  have hlt : X < w.heap.size := (Array.getElem?_eq_some_iff.1 hX).1
  rw [World.grownBy.cell_far hg ⟨X, j, none⟩ (by simp; omega) (fun e => part_far hr hX e.symm)]
  exact (World.cell?_alloc_lt w _ ⟨X, j, none⟩ hlt).trans hc
set_option maxHeartbeats 4000000 in
set_option maxRecDepth 100000 in
theorem pack_any (A1 : Option Addr) (n1 c1 : Nat) (ps : List Ph.Part) (A2 : Option Addr) (n2 c2 : Nat) (s : List Int) (bits : Int) (w : World) (B : Nat) (h1 : RdP w B A1 n1 ps) (h2 : RdI w B A2 n2 s) (hB : B ≤ w.heap.size) (hn1 : n1 ≤ 100000000000000) (hn2 : n2 ≤ 100000000000000) (hp : ∀ p ∈ ps, p.pulses.length ≤ 100000000000000) :
    Calls Tryz.prog 21 #[.slice A1 n1 c1, .slice A2 n2 c2, .int .i64 bits] w fun e w' => e = .returned (.tuple #[.string (packS ps s bits), errV (Ph.packErr ps s bits)]) ∧ Below w.heap.size w w' := by
  have HFC := Lib.hid (frcheck_any A1 n1 c1 ps A2 n2 c2 s bits w B h1 h2 hB hn1 hn2 hp)
  by_cases h0 : Ph.frameErr ps s bits = 0
  · have hz := Ph.frameErr_zero.1 h0
    have hpu := pack_puts h0
    have hpe : Ph.packErr ps s bits = if 400 < (Ph.packBits ps).length then 4 else 0 := by unfold Ph.packErr; rw [if_neg (by omega)]
    have hL := h1.len
    have h8 := (Ph.bandErr_zero.1 hz.1).2.1
    have hn8 : n1 ≤ 8 := by have := congrArg List.length hz.2.1; rw [List.length_map] at this; omega
    have HPZ : Hid (∀ p ∈ ps, p.pulses.length ≤ 6 ∧ 0 ≤ Ph.loud p.pulses ∧ Ph.loud p.pulses ≤ 8 ∧ Ph.pulsesErr p.pulses = 0 ∧ Ph.allIn p.pulses 8000 = true) := Lib.hid fun p hp => by
      have h1 := (hz.2.2.1 p hp).2
      have h2 := Ph.pulsesErr_zero.1 h1
      exact ⟨h2.1, Ph.loud_nonneg _, h2.2.2, h1, Ph.allIn_mono h2.2.1 (by omega)⟩
    rw [h0, errV_zero] at HFC
    have HPUT := Lib.hid fun A c A' c' W (hW1 : RdI W W.heap.size A (n1 + n1) (Ph.packNums ps)) (hW2 : RdI W W.heap.size A' (n1 + n1) (Ph.packWide ps)) => put_any A A' (n1 + n1) (n1 + n1) c c' (Ph.packNums ps) (Ph.packWide ps) W W.heap.size hW1 hW2 (Nat.le_refl _) (by omega) (by omega)
    rw [hpu, ← hpe] at HPUT
    rw [show Ph.spread (Ph.packNums ps) (Ph.packWide ps) = Ph.packBits ps from rfl] at HPUT
    have HPA := Lib.hid fun A n c W (hl : (Ph.packBits ps).length = n) (hn : n ≤ 400) (hc : n ≤ c ∧ c ≤ 9223372036854775807) (hW : RdI W W.heap.size A n (Ph.packBits ps)) => packed_any A n c (Ph.packBits ps) W W.heap.size hW (Nat.le_refl _) (Ph.packBits_bits ps) hn hc
    have HPS0 := Lib.hid fun h => packS_zero (p := ps) (s := s) (bits := bits) h
    have HPSN := Lib.hid fun h => packS_ne (p := ps) (s := s) (bits := bits) h
    have HE4 : Hid (Ph.packErr ps s bits = 0 → (Ph.packBits ps).length ≤ 400) := Lib.hid fun h => by
      rw [hpe] at h
      split at h
      · omega
      · omega
    have HE9 : Hid (Ph.packErr ps s bits ≠ 0 → Ph.packErr ps s bits = 4) := Lib.hid fun h => by
      rw [hpe] at h ⊢
      split at h
      · rw [if_pos (by assumption)]
      · omega
    have HL := Lib.hid hL
    have HNL := Lib.hid (nums_len ps)
    have HWL := Lib.hid (wide_len ps)
    have HNG1 := Lib.hid (nums_get1 ps)
    have HNG2 := Lib.hid (nums_get2 ps)
    have HWG1 := Lib.hid (wide_get1 ps)
    have HWG2 := Lib.hid (wide_get2 ps)
    rw [hL] at HNL HWL HNG1 HNG2 HWG1 HWG2
    obtain ⟨NS, hNS⟩ : ∃ NS, NS = Ph.packNums ps := ⟨_, rfl⟩
    obtain ⟨WS, hWS⟩ : ∃ WS, WS = Ph.packWide ps := ⟨_, rfl⟩
    obtain ⟨PB, hPB⟩ : ∃ PB, PB = Ph.packBits ps := ⟨_, rfl⟩
    obtain ⟨E, hE⟩ : ∃ E, E = Ph.packErr ps s bits := ⟨_, rfl⟩
    obtain ⟨PS, hPS⟩ : ∃ PS, PS = packS ps s bits := ⟨_, rfl⟩
    rw [← hNS] at HPUT HNL HNG1 HNG2
    rw [← hWS] at HPUT HWL HWG1 HWG2
    rw [← hPB] at HPUT HPA HPS0 HE4
    rw [← hE] at HPUT HPS0 HPSN HE4 HE9 ⊢
    rw [← hPS] at HPS0 HPSN ⊢
    have H1 := Lib.hid h1
    clear h1 h2 h0 hz hpu hpe hL h8 hNS hWS hPB hE hPS hp hn1 hn2
    go_enter Tryz.func21, Tryz.ntmps21
    go_wp2_with fail
    refine HFC.out.mono ?_
    rintro e w2 ⟨rfl, hb⟩
    have HB2 := Lib.hid hb
    have HP2 := Lib.hid (H1.out.below (hb.mono hB))
    have hB2 := Nat.le_trans hB hb.size
    clear hb HFC
    go_wp2_with fail
    go_loopw [9, 10, 12, 26] (fun sn sw _ i wr => ∃ (k : Nat) (v1 v2 : Value), k ≤ n1 ∧ i = .int .i64 k ∧ sn = v1 ∧ sw = v2 ∧ Hid (TwoS w2.heap.size k k v1 v2 (NS.take k) (WS.take k) wr) ∧ Hid (Below w2.heap.size w2 wr)) (fun _ _ _ i _ => n1 - (intOf i).toNat)
    case atStart => exact ⟨0, .slice none 0 0, .slice none 0 0, Nat.zero_le _, rfl, rfl, rfl, Lib.hid ⟨own_nil _ _ _, own_nil _ _ _, fun q hq => by simp [Value.ownBlock] at hq, Nat.le_refl _⟩, Lib.hid (Below.refl _ _)⟩
    case round =>
      obtain ⟨k, v1, v2, hk, rfl, rfl, rfl, HT, HBW⟩ := hrel
      obtain ⟨A11, k11, rfl⟩ := own_slice HT.out.1
      obtain ⟨A12, k12, rfl⟩ := own_slice HT.out.2.1
      by_cases hlt : k < n1
      · obtain ⟨b0, o0, A4, c4, rfl, hb0, d1, d2, hcc, hrd⟩ := (HP2.out.below (HBW.out.mono hB2)).at_ hlt
        have ht1 := take_snoc (l := NS) (k := k) (by rw [HNL.out]; omega)
        have ht2 := take_snoc (l := WS) (k := k) (by rw [HWL.out]; omega)
        rw [HNG1.out k hlt] at ht1
        rw [HWG1.out k hlt] at ht2
        obtain ⟨p, hpe⟩ : ∃ p, p = ps.getD k ⟨0, []⟩ := ⟨_, rfl⟩
        rw [← hpe] at d1 d2 hcc hrd ht1
        obtain ⟨g, v⟩ := p
        simp only at d1 d2 hcc hrd ht1
        have HT1 := Lib.hid ht1
        have HT2 := Lib.hid ht2
        obtain ⟨P, hP⟩ : ∃ P, P = v.length := ⟨_, rfl⟩
        rw [← hP] at d2
        have hlt' : (k : Int) < (n1 : Int) := by omega
        obtain ⟨W1, hW1⟩ : ∃ W1, W1 = wr.alloc (.cells #[.int .i64 g, .slice A4 P c4] 78) := ⟨_, rfl⟩
        have HTW : Hid (TwoS w2.heap.size k k (.slice A11 k k11) (.slice A12 k k12) (NS.take k) (WS.take k) W1) := Lib.hid (by rw [hW1]; exact HT.out.alloc _)
        have HBW1 : Hid (Below w2.heap.size w2 W1) := Lib.hid (by rw [hW1]; exact HBW.out.alloc HBW.out.size _)
        have HW1 := Lib.hid hW1
        obtain ⟨B4, hB4⟩ : ∃ q, q = wr.heap.size := ⟨_, rfl⟩
        have z0 : W1.cell? ⟨B4, 0, none⟩ = some (.int .i64 g) := by rw [hW1, hB4]; simp
        have HB4 := Lib.hid hB4
        clear ht1 ht2 hpe hrd hcc hP hW1 hB4
        go_upto_region 8 with (fail)
        rw [← HW1.out, ← HB4.out]
        clear d1 d2
        go_wp2_with (first
          | (at_builtin; refine wpList_twoS1 _ (by rfl) _ _ (by rfl) w2 g HTW.out HBW1.out (by omega) (by rfl) (by rfl) ?_; intro g1 cp1 wa hta hba; have HTA := Lib.hid hta; have HBA1 := Lib.hid hba; clear hta hba)
          | (at_builtin; refine wpList_twoS2 _ (by rfl) _ _ (by rfl) w2 6 HTA.out HBA1.out (by omega) (by rfl) (by rfl) ?_; intro g2 cp2 wb htb hbb; have HTB := Lib.hid htb; have HBB := Lib.hid hbb; clear htb hbb))
        go_roundw
        case rel => exact ⟨k + 1, _, _, by omega, by go_num, rfl, rfl, Lib.hid (by rw [HT1.out, HT2.out]; exact HTB.out), HBB⟩
        case measure => simp [intOf]; omega
      · obtain rfl : k = n1 := by omega
        go_wp2_with fail
        rename World => wa
        have HBA := HBW
        go_loopw [9, 10, 14, 41] (fun sn sw _ i wr => ∃ (j : Nat) (v1 v2 : Value), j ≤ k ∧ i = .int .i64 j ∧ sn = v1 ∧ sw = v2 ∧ Hid (TwoS w2.heap.size (k + j) (k + j) v1 v2 (NS.take (k + j)) (WS.take (k + j)) wr) ∧ Hid (Below w2.heap.size w2 wr)) (fun _ _ _ i _ => k - (intOf i).toNat)
        case atStart => exact ⟨0, _, _, Nat.zero_le _, rfl, rfl, rfl, HT, HBW⟩
        case round =>
          obtain ⟨j, v1, v2, hj, rfl, rfl, rfl, HT, HBW⟩ := hrel
          obtain ⟨A21, k21, rfl⟩ := own_slice HT.out.1
          obtain ⟨A22, k22, rfl⟩ := own_slice HT.out.2.1
          by_cases hlt : j < k
          · obtain ⟨b0, o0, A4, c4, rfl, hb0, d1', d2', hcc, hrd⟩ := HP2.out.at_ hlt
            have d1 := (HBW.out.cell (p := ⟨b0, o0 + j * 2, none⟩) (Nat.lt_of_lt_of_le hb0 hB2)).trans d1'
            have d2 := (HBW.out.cell (p := ⟨b0, o0 + j * 2 + 1, none⟩) (Nat.lt_of_lt_of_le hb0 hB2)).trans d2'
            clear d1' d2'
            have ht1 := take_snoc (l := NS) (k := k + j) (by rw [HNL.out]; omega)
            have ht2 := take_snoc (l := WS) (k := k + j) (by rw [HWL.out]; omega)
            rw [HNG2.out j hlt] at ht1
            rw [HWG2.out j hlt] at ht2
            have hpz := HPZ.out _ (partD_mem (by rw [HL.out]; exact hlt))
            obtain ⟨p, hpe⟩ : ∃ p, p = ps.getD j ⟨0, []⟩ := ⟨_, rfl⟩
            rw [← hpe] at d1 d2 hcc hrd ht1 ht2 hpz
            obtain ⟨g, v⟩ := p
            simp only at d1 d2 hcc hrd ht1 ht2 hpz
            obtain ⟨K, hK⟩ := Int.eq_ofNat_of_zero_le hpz.2.1
            obtain ⟨P, hP⟩ : ∃ P, P = v.length := ⟨_, rfl⟩
            rw [hK, ← hP, wid_eq] at ht2
            rw [← hP] at d2 hrd hcc
            have HPL := Lib.hid fun W (hW : RdI W W.heap.size A4 P v) => place_any A4 P c4 v W W.heap.size hW (Nat.le_refl _) hpz.2.2.2.1
            have HSU := Lib.hid fun W (hW : RdI W W.heap.size A4 P v) => sum_any A4 P c4 v W W.heap.size hW hpz.2.2.2.2 (by omega)
            have HWI := Lib.hid fun W => width_any P K W (by omega) (by omega)
            rw [hK] at HSU
            obtain ⟨X, hX⟩ : ∃ X, X = Ph.bitsOf (Ph.cnt P K) := ⟨_, rfl⟩
            rw [← hX] at HWI ht2
            obtain ⟨R, hR⟩ : ∃ R, R = Ph.rank v := ⟨_, rfl⟩
            rw [← hR] at HPL ht1
            have HT1 := Lib.hid ht1
            have HT2 := Lib.hid ht2
            have hlt' : (j : Int) < (k : Int) := by omega
            obtain ⟨W1, hW1⟩ : ∃ W1, W1 = wr.alloc (.cells #[.int .i64 g, .slice A4 P c4] 78) := ⟨_, rfl⟩
            obtain ⟨B4, hB4⟩ : ∃ q, q = wr.heap.size := ⟨_, rfl⟩
            have HTW : Hid (TwoS w2.heap.size (k + j) (k + j) (.slice A21 (k + j) k21) (.slice A22 (k + j) k22) (NS.take (k + j)) (WS.take (k + j)) W1) := Lib.hid (by rw [hW1]; exact HT.out.alloc _)
            have HBW1 : Hid (Below w2.heap.size w2 W1) := Lib.hid (by rw [hW1]; exact HBW.out.alloc HBW.out.size _)
            have HR2 : Hid (RdI w2 w2.heap.size A4 P v) := Lib.hid (hrd.more hB2)
            have HH1 : Hid (W1.heap[B4]? = some (.cells #[.int .i64 g, .slice A4 P c4] 78)) := Lib.hid (by rw [hW1, hB4]; exact heap_alloc_new wr _)
            have z1 : W1.cell? ⟨B4, 1, none⟩ = some (.slice A4 P c4) := by rw [hW1, hB4]; simp
            have HW1 := Lib.hid hW1
            have HB4 := Lib.hid hB4
            clear ht1 ht2 hpe hrd hcc hP hW1 hK hpz hX hR hB4
            go_wp2_with fail
            rw [← HW1.out, ← HB4.out]
            refine (HPL.out _ ((HR2.out.below HBW1.out).more HBW1.out.size)).mono ?_
            rintro e w3 ⟨rfl, hb⟩
            have HT3 := Lib.hid (HTW.out.below hb)
            have HB3 := Lib.hid (below_on HBW1.out hb)
            have HH3 := Lib.hid ((hb.block B4 (Array.getElem?_eq_some_iff.1 HH1.out).1).trans HH1.out)
            have z3 := (hb.cell (World.block_lt_of_cell? W1 _ z1)).trans z1
            clear hb z1 d1 d2 HTW HBW1 HH1 HPL
            go_wp2_with (at_builtin; refine wpList_twoS1g _ (by rfl) _ _ (by rfl) w2 (R : Int) HT3.out HB3.out (by omega) (by rfl) (by rfl) ?_; intro g1 cp1 wb htb hbb hgb; have HTB := Lib.hid htb; have HBB := Lib.hid hbb; have z4 := part_cell _ HT3.out.1 HH3.out z3 hgb; have HFAR := Lib.hid (part_far htb.2.1 (part_blk _ HT3.out.1 HH3.out hgb)); clear htb hbb hgb)
            clear z3 HH3 HT3 HB3
            have HZ4 := Lib.hid (World.block_lt_of_cell? wb _ z4)
            go_region_held3 (fun w' => w'.cell? ⟨B4, 1, none⟩ = some (.slice A4 P c4)) (first | exact z4 | exact (hb3.cell (p := ⟨B4, 1, none⟩) HZ4.out).trans (by assumption) | exact (World.cell?_alloc_lt _ _ ⟨B4, 1, none⟩ (Nat.lt_of_lt_of_le HZ4.out hb3.size)).trans (by assumption) | exact (hg4.cell_far ⟨B4, 1, none⟩ (by simp; exact Nat.lt_succ_of_lt (Nat.lt_of_lt_of_le HZ4.out hb3.size)) (fun e => HFAR.out e.symm)).trans (by assumption)) (first
              | (go_at_call 48; refine (HSU.out _ (by exact (HR2.out.below HBB.out).more HBB.out.size)).mono ?_; rintro e w' ⟨rfl, rfl⟩)
              | (go_at_call 54; refine (HWI.out _).mono ?_; rintro e w5 ⟨rfl, hb3⟩)
              | (refine step_twoS2g _ (by rfl) _ _ (by rfl) w2 w2.heap.size (k + j + 1) (k + j) (.slice (some ⟨g1, 0, none⟩) (k + j + 1) cp1) (.slice A22 (k + j) k22) (NS.take (k + j) ++ [(R : Int)]) (WS.take (k + j)) (X : Int) w5.heap.size (by exact ((HTB.out.drewN _).below hb3).alloc _) (by exact (below_on (below_drewN' HBB.out _) hb3).alloc (Nat.le_trans HBB.out.size hb3.size) _) (by exact cell_of_alloc w5 _ 3) (by omega) (by rfl) (by rfl) ?_; intro g4 cap4 w4 ht4 hb4 hg4))
            have HT4 := Lib.hid ht4
            have HB4' := Lib.hid hb4
            clear ht4 hb4
            go_wp2_with fail
            go_roundw
            case rel => exact ⟨j + 1, _, _, by omega, by go_num, rfl, rfl, Lib.hid (by rw [show k + (j + 1) = k + j + 1 by omega, HT1.out, HT2.out]; exact HT4.out), HB4'⟩
            case measure => simp [intOf]; omega
          · obtain rfl : j = k := by omega
            have ht := HT.out
            rw [List.take_of_length_le (by rw [HNL.out]; omega), List.take_of_length_le (by rw [HWL.out]; omega)] at ht
            have HB5 := Lib.hid (below_on HB2.out (HBW.out.mono (Nat.le_refl _)))
            have HPT := Lib.hid (HPUT.out _ k21 _ k22 wr (RdI.own ht.1) (RdI.own ht.2.1))
            clear ht HPUT HT HBW HNG1 HNG2 HWG1 HWG2
            by_cases hE : E = 0
            · have hl4 := HE4.out hE
              have hps := HPS0.out hE
              subst hE
              subst hps
              rw [got_zero] at HPT
              clear HPSN HE9 HPS0 HE4
              go_wp2_with fail
              refine HPT.out.mono ?_
              rintro e w6 ⟨A6, c6, he, ho, hb⟩
              rw [errV_zero] at he
              subst he
              have hc6 := own_cap ho
              have hc7 := own_len ho
              have hR := RdI.own ho
              have hcm := own_capM ho
              have HPK := Lib.hid (HPA.out A6 PB.length c6 w6 rfl hl4 ⟨hc6, hcm⟩ hR)
              have HB6 := Lib.hid (below_on HB5.out hb)
              clear ho hb hc6 hc7 hR
              go_wp2_with fail
              refine HPK.out.mono ?_
              rintro e w7 ⟨rfl, hb⟩
              have HB7 := Lib.hid (below_on HB6.out hb)
              clear hb
              go_wp2_with fail
              go_ret2
              exact ⟨by first | rfl | (rw [errV_zero]; rfl), HB7.out⟩
            · have hps := HPSN.out hE
              subst hps
              rw [got_ne hE] at HPT
              clear HPSN HE9 HPS0 HE4
              go_wp2_with fail
              refine HPT.out.mono ?_
              rintro e w6 ⟨A6, c6, he, ho, hb⟩
              rw [errV_ne hE] at he
              subst he
              have HB6 := Lib.hid (below_on HB5.out hb)
              clear ho hb
              go_wp2_with fail
              go_ret2
              exact ⟨by first | rfl | (rw [errV_ne hE]; rfl), HB6.out⟩
  · have hpe : Ph.packErr ps s bits = Ph.frameErr ps s bits := by unfold Ph.packErr; rw [if_pos h0]
    have hps : packS ps s bits = ByteArray.empty := packS_ne (by omega)
    rw [hpe, hps]
    obtain ⟨E, hE⟩ : ∃ E, E = Ph.frameErr ps s bits := ⟨_, rfl⟩
    rw [← hE] at HFC h0 ⊢
    rw [errV_ne h0] at HFC ⊢
    clear h1 h2 hE hpe hps hp
    go_enter Tryz.func21, Tryz.ntmps21
    go_wp2_with fail
    refine HFC.out.mono ?_
    rintro e w' ⟨rfl, hb⟩
    have HB1 := Lib.hid hb
    clear hb
    go_wp2_with fail
    go_ret2
    exact ⟨rfl, HB1.out⟩
end Go.Proofs.YtmohilfebgahoaaGreatDoor
