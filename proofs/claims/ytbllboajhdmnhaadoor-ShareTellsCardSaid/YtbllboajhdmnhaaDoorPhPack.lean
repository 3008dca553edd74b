/- Plain law: a frame as bytes (chapter 17). No program in sight. -/
import Derived.Test.YtbllboajhdmnhaaDoorPhFrame
namespace Ph
def packNums (p : List Part) : List Int := p.map (fun x => x.gain) ++ p.map (fun x => ((rank x.pulses : Nat) : Int))
def packWide (p : List Part) : List Int := p.map (fun _ => (6 : Int)) ++ p.map (fun x => wid x.pulses.length (loud x.pulses))
def packBits (p : List Part) : List Int := spread (packNums p) (packWide p)
def gainBits (p : List Part) : List Int := p.flatMap fun x => bitsW 6 x.gain.toNat
def rankBits (p : List Part) : List Int := p.flatMap fun x => bitsW (wid x.pulses.length (loud x.pulses)).toNat (rank x.pulses)
theorem spread_append : ∀ (a b c d : List Int), a.length = c.length → spread (a ++ b) (c ++ d) = spread a c ++ spread b d
  | [], b, [], d, _ => rfl
  | [], _, _ :: _, _, h => by simp at h
  | _ :: _, _, [], _, h => by simp at h
  | x :: a, b, y :: c, d, h => by
    have := spread_append a b c d (by simpa using h)
    simp only [List.cons_append, spread, this, List.append_assoc]
theorem spread_map {α : Type} (f g : α → Int) : ∀ p : List α, spread (p.map f) (p.map g) = p.flatMap fun x => bitsW (g x).toNat (f x).toNat
  | [] => rfl
  | x :: p => by simp only [List.map_cons, spread, spread_map f g p, List.flatMap_cons]
theorem packBits_eq (p : List Part) : packBits p = gainBits p ++ rankBits p := by
  unfold packBits packNums packWide gainBits rankBits
  rw [spread_append _ _ _ _ (by simp), spread_map, spread_map]
  simp only [Int.toNat_natCast]
  rfl
/-- The fault of packing. -/
def packErr (p : List Part) (sizes : List Int) (bits : Int) : Int := if frameErr p sizes bits ≠ 0 then frameErr p sizes bits else if 400 < (packBits p).length then 4 else 0

/-! ### Read. -/
def unGains : Nat → List Int → Option (List Int × List Int)
  | 0, all => some ([], all)
  | n + 1, all =>
    if all.length < 6 then none
    else if valued (number (all.take 6)) = true then
      match unGains n (all.drop 6) with
      | none => none
      | some (g, r) => some ((number (all.take 6) : Int) :: g, r)
    else none
def unRows : List Int → List Int → List Int → Option (List (List Int) × List Int)
  | s :: sizes, k :: ks, all =>
    if (all.length : Int) < wid s k then none
    else if number (all.take (wid s k).toNat) < cnt s.toNat k.toNat then
      match unRows sizes ks (all.drop (wid s k).toNat) with
      | none => none
      | some (l, r) => some (rowOf s.toNat k.toNat (number (all.take (wid s k).toNat)) :: l, r)
    else none
  | _, _, all => some ([], all)
def gainParts (g : List Int) : List Part := g.map fun x => ⟨x, []⟩
def parse (all sizes : List Int) (bits : Int) : Option (List Part × List Int) :=
  match unGains sizes.length all with
  | none => none
  | some (g, r) => match unRows sizes (shared (gainParts g) sizes bits) r with
    | none => none
    | some (l, r) => some (List.zipWith Part.mk g l, r)
def noOne (r : List Int) : Bool := r.all fun b => !decide (b = 1)
def unpack (b : List Nat) (sizes : List Int) (bits : Int) : Option (List Part) :=
  match parse (opened b) sizes bits with
  | none => none
  | some (p, r) => if r.length < 8 ∧ noOne r = true then some p else none
theorem unGains_append : ∀ {n : Nat} {x g r : List Int} (y : List Int), unGains n x = some (g, r) → unGains n (x ++ y) = some (g, r ++ y)
  | 0, x, g, r, y, h => by simp only [unGains, Option.some.injEq, Prod.mk.injEq] at h ⊢; exact ⟨h.1, by rw [h.2]⟩
  | n + 1, x, g, r, y, h => by
    unfold unGains at h ⊢
    split at h
    · cases h
    · rename_i h6
      rw [if_neg (by rw [List.length_append]; omega), List.take_append_of_le_length (by omega), List.drop_append_of_le_length (by omega)]
      split at h
      · rename_i hv
        rw [if_pos hv]
        cases hg : unGains n (x.drop 6) with
        | none => rw [hg] at h; cases h
        | some q =>
          obtain ⟨g', r'⟩ := q
          rw [hg] at h
          rw [unGains_append y hg]
          simp only [Option.some.injEq, Prod.mk.injEq] at h ⊢
          exact ⟨h.1, by rw [h.2]⟩
      · cases h
theorem unRows_append : ∀ {s k x : List Int} {l : List (List Int)} {r : List Int} (y : List Int), unRows s k x = some (l, r) → unRows s k (x ++ y) = some (l, r ++ y)
  | [], k, x, l, r, y, h => by simp only [unRows, Option.some.injEq, Prod.mk.injEq] at h ⊢; exact ⟨h.1, by rw [h.2]⟩
  | s :: sizes, [], x, l, r, y, h => by simp only [unRows, Option.some.injEq, Prod.mk.injEq] at h ⊢; exact ⟨h.1, by rw [h.2]⟩
  | s :: sizes, k :: ks, x, l, r, y, h => by
    unfold unRows at h ⊢
    have hw := wid_nonneg s k
    split at h
    · cases h
    · rename_i h6
      rw [if_neg (by rw [List.length_append]; omega), List.take_append_of_le_length (by omega), List.drop_append_of_le_length (by omega)]
      split at h
      · rename_i hv
        rw [if_pos hv]
        cases hg : unRows sizes ks (x.drop (wid s k).toNat) with
        | none => rw [hg] at h; cases h
        | some q =>
          obtain ⟨g', r'⟩ := q
          rw [hg] at h
          rw [unRows_append y hg]
          simp only [Option.some.injEq, Prod.mk.injEq] at h ⊢
          exact ⟨h.1, by rw [h.2]⟩
      · cases h
theorem parse_append {x sizes : List Int} {bits : Int} {p : List Part} {r : List Int} (y : List Int) (h : parse x sizes bits = some (p, r)) : parse (x ++ y) sizes bits = some (p, r ++ y) := by
  unfold parse at h ⊢
  cases hg : unGains sizes.length x with
  | none => rw [hg] at h; cases h
  | some q =>
    obtain ⟨g, r1⟩ := q
    rw [hg] at h
    rw [unGains_append y hg]
    simp only at h ⊢
    cases hr : unRows sizes (shared (gainParts g) sizes bits) r1 with
    | none => rw [hr] at h; cases h
    | some q2 =>
      obtain ⟨l, r2⟩ := q2
      rw [hr] at h
      rw [unRows_append y hr]
      simp only [Option.some.injEq, Prod.mk.injEq] at h ⊢
      exact ⟨h.1, by rw [h.2]⟩

/-! ### What was packed is read. -/
theorem unGains_gainBits : ∀ (p : List Part) (y : List Int), (∀ x ∈ p, gainOk x.gain = true) → unGains p.length (gainBits p ++ y) = some (p.map (fun x => x.gain), y)
  | [], y, _ => rfl
  | x :: p, y, h => by
    have hx := h x (by simp)
    have ih := unGains_gainBits p y (fun z hz => h z (by simp [hz]))
    unfold gainOk at hx
    rw [Bool.and_eq_true, decide_eq_true_eq] at hx
    have hv := hx.2
    simp only [valued, Bool.and_eq_true, decide_eq_true_eq] at hv
    have e : gainBits (x :: p) ++ y = bitsW 6 x.gain.toNat ++ (gainBits p ++ y) := by simp [gainBits]
    have hl := bitsW_length 6 x.gain.toNat
    have ht : (gainBits (x :: p) ++ y).take 6 = bitsW 6 x.gain.toNat := by rw [e, List.take_append_of_le_length (by omega), List.take_of_length_le (by omega)]
    have hd : (gainBits (x :: p) ++ y).drop 6 = gainBits p ++ y := by rw [e, List.drop_append_of_le_length (by omega), List.drop_of_length_le (by omega), List.nil_append]
    have hn : number (bitsW 6 x.gain.toNat) = x.gain.toNat := by rw [number_bits]; omega
    simp only [List.length_cons, unGains, ht, hd, hn, ih, hx.2]
    rw [if_neg (by rw [e, List.length_append, hl]; omega)]
    simp only [if_true, List.map_cons, Option.some.injEq, Prod.mk.injEq, and_true]
    congr 1; omega
theorem rank_fits {v : List Int} (hl : v.length ≤ 6) (hk : loud v ≤ 8) : rank v < 2 ^ (wid v.length (loud v)).toNat ∧ (wid v.length (loud v)).toNat ≤ 20 := by
  have h1 := rank_lt v
  have h2 := bits_enough v.length (loudN v) hl (by have := loudN_int v; omega)
  have e : (wid v.length (loud v)).toNat = bitsOf (cnt v.length (loudN v)) := by
    unfold wid; rw [Int.toNat_natCast, Int.toNat_natCast]; rfl
  rw [e]; omega
theorem unRows_rankBits : ∀ (p : List Part) (y : List Int), (∀ x ∈ p, pulsesErr x.pulses = 0) →
    unRows (p.map (fun x => (x.pulses.length : Int))) (p.map (fun x => loud x.pulses)) (rankBits p ++ y) = some (p.map (fun x => x.pulses), y)
  | [], y, _ => rfl
  | x :: p, y, h => by
    have hx := pulsesErr_zero.1 (h x (by simp))
    have ih := unRows_rankBits p y (fun z hz => h z (by simp [hz]))
    have hf := rank_fits hx.1 hx.2.2
    have e : rankBits (x :: p) ++ y = bitsW (wid x.pulses.length (loud x.pulses)).toNat (rank x.pulses) ++ (rankBits p ++ y) := by simp [rankBits]
    have hl := bitsW_length (wid x.pulses.length (loud x.pulses)).toNat (rank x.pulses)
    have ht : (rankBits (x :: p) ++ y).take (wid x.pulses.length (loud x.pulses)).toNat = bitsW (wid x.pulses.length (loud x.pulses)).toNat (rank x.pulses) := by
      rw [e, List.take_append_of_le_length (by omega), List.take_of_length_le (by omega)]
    have hd : (rankBits (x :: p) ++ y).drop (wid x.pulses.length (loud x.pulses)).toNat = rankBits p ++ y := by
      rw [e, List.drop_append_of_le_length (by omega), List.drop_of_length_le (by omega), List.nil_append]
    have hn : number (bitsW (wid x.pulses.length (loud x.pulses)).toNat (rank x.pulses)) = rank x.pulses := by rw [number_bits]; exact Nat.mod_eq_of_lt hf.1
    have hlN : (loud x.pulses).toNat = loudN x.pulses := rfl
    have hw := wid_nonneg x.pulses.length (loud x.pulses)
    simp only [List.map_cons, unRows, ht, hd, hn, ih, Int.toNat_natCast, hlN]
    rw [if_neg (by rw [e, List.length_append, hl]; omega), if_pos (rank_lt _), rowOf_rank]
theorem zip_parts : ∀ p : List Part, List.zipWith Part.mk (p.map (fun x => x.gain)) (p.map (fun x => x.pulses)) = p
  | [] => rfl
  | x :: p => by simp only [List.map_cons, List.zipWith_cons_cons, zip_parts p]
theorem shared_gains (p : List Part) (sizes : List Int) (bits : Int) : shared (gainParts (p.map (fun x => x.gain))) sizes bits = shared p sizes bits := by
  unfold shared vals gainParts; simp only [List.map_map]; rfl
theorem parse_packBits {p : List Part} {sizes : List Int} {bits : Int} (h : frameErr p sizes bits = 0) (y : List Int) : parse (packBits p ++ y) sizes bits = some (p, y) := by
  obtain ⟨_, h2, h3, _, _, h6⟩ := frameErr_zero.1 h
  have hl : p.length = sizes.length := by rw [← h2, List.length_map]
  unfold parse
  rw [packBits_eq, List.append_assoc, ← hl, unGains_gainBits p _ (fun x hx => (h3 x hx).1)]
  simp only
  have hr := unRows_rankBits p y (fun x hx => (h3 x hx).2)
  rw [shared_gains, ← h6, ← h2, hr]
  simp only [zip_parts]
theorem packBits_bits (p : List Part) : isBits (packBits p) := spread_isBits _ _
theorem unpack_packed {p : List Part} {sizes : List Int} {bits : Int} (h : frameErr p sizes bits = 0) : unpack (packed (packBits p)) sizes bits = some p := by
  unfold unpack
  rw [opened_packed _ _ (Nat.le_refl _) (packBits_bits p), parse_packBits h]
  simp only
  rw [if_pos]
  refine ⟨by rw [List.length_replicate]; omega, ?_⟩
  unfold noOne
  rw [List.all_eq_true]
  intro b hb
  rw [List.eq_of_mem_replicate hb]; rfl

/-! ### What is read is packed again. -/
theorem unGains_back : ∀ {n : Nat} {x g r : List Int}, isBits x → unGains n x = some (g, r) → g.length = n ∧ (∀ y ∈ g, gainOk y = true) ∧ x = (g.flatMap fun y => bitsW 6 y.toNat) ++ r
  | 0, x, g, r, _, h => by simp only [unGains, Option.some.injEq, Prod.mk.injEq] at h; rw [← h.1, h.2]; simp
  | n + 1, x, g, r, hb, h => by
    unfold unGains at h
    split at h
    · cases h
    · rename_i h6
      split at h
      · rename_i hv
        cases hg : unGains n (x.drop 6) with
        | none => rw [hg] at h; cases h
        | some q =>
          obtain ⟨g', r'⟩ := q
          rw [hg] at h
          simp only [Option.some.injEq, Prod.mk.injEq] at h
          obtain ⟨h1, rfl⟩ := h
          have ih := unGains_back (fun y hy => hb y (List.mem_of_mem_drop hy)) hg
          have hbt : isBits (x.take 6) := fun y hy => hb y (List.mem_of_mem_take hy)
          have hn := bits_number hbt
          rw [List.length_take, Nat.min_eq_left (by omega)] at hn
          rw [← h1]
          refine ⟨by rw [List.length_cons, ih.1], fun y hy => ?_, ?_⟩
          · rcases List.mem_cons.1 hy with rfl | hy
            · unfold gainOk; rw [Bool.and_eq_true, decide_eq_true_eq, Int.toNat_natCast]; exact ⟨by omega, hv⟩
            · exact ih.2.1 y hy
          · rw [List.flatMap_cons, Int.toNat_natCast, hn, List.append_assoc, ← ih.2.2, List.take_append_drop]
      · cases h
theorem unRows_back : ∀ {s k x : List Int} {l : List (List Int)} {r : List Int}, s.length = k.length → (∀ y ∈ s, 0 ≤ y ∧ y ≤ 6) → (∀ y ∈ k, 0 ≤ y ∧ y ≤ 8) → isBits x → unRows s k x = some (l, r) →
    l.map (fun v => (v.length : Int)) = s ∧ l.map loud = k ∧ x = (l.flatMap fun v => bitsW (wid v.length (loud v)).toNat (rank v)) ++ r
  | [], [], x, l, r, _, _, _, _, h => by simp only [unRows, Option.some.injEq, Prod.mk.injEq] at h; rw [← h.1, h.2]; simp
  | [], _ :: _, _, _, _, hl, _, _, _, _ => by simp at hl
  | _ :: _, [], _, _, _, hl, _, _, _, _ => by simp at hl
  | s :: sizes, k :: ks, x, l, r, hl, hs, hk, hb, h => by
    unfold unRows at h
    have hw := wid_nonneg s k
    split at h
    · cases h
    · rename_i h6
      split at h
      · rename_i hv
        cases hg : unRows sizes ks (x.drop (wid s k).toNat) with
        | none => rw [hg] at h; cases h
        | some q =>
          obtain ⟨l', r'⟩ := q
          rw [hg] at h
          simp only [Option.some.injEq, Prod.mk.injEq] at h
          obtain ⟨h1, rfl⟩ := h
          have ih := unRows_back (by simpa using hl) (fun y hy => hs y (by simp [hy])) (fun y hy => hk y (by simp [hy])) (fun y hy => hb y (List.mem_of_mem_drop hy)) hg
          have hbt : isBits (x.take (wid s k).toNat) := fun y hy => hb y (List.mem_of_mem_take hy)
          have hn := bits_number hbt
          rw [List.length_take, Nat.min_eq_left (by omega)] at hn
          have hr := rank_rowOf s.toNat k.toNat _ hv
          have hrl := rowOf_length s.toNat k.toNat (number (x.take (wid s k).toNat))
          have hs0 := hs s (by simp)
          have hk0 := hk k (by simp)
          have hloud : loud (rowOf s.toNat k.toNat (number (x.take (wid s k).toNat))) = k := by rw [← loudN_int, hr.2]; omega
          have hlen : ((rowOf s.toNat k.toNat (number (x.take (wid s k).toNat))).length : Int) = s := by rw [hrl]; omega
          rw [← h1]
          refine ⟨by rw [List.map_cons, hlen, ih.1], by rw [List.map_cons, hloud, ih.2.1], ?_⟩
          rw [List.flatMap_cons, hlen, hloud, hr.1, hn, List.append_assoc, ← ih.2.2, List.take_append_drop]
      · cases h
theorem zip_maps : ∀ (g : List Int) (l : List (List Int)), g.length = l.length → (List.zipWith Part.mk g l).map (fun x => x.gain) = g ∧ (List.zipWith Part.mk g l).map (fun x => x.pulses) = l
  | [], [], _ => ⟨rfl, rfl⟩
  | [], _ :: _, h => by simp at h
  | _ :: _, [], h => by simp at h
  | x :: g, y :: l, h => by
    have := zip_maps g l (by simpa using h)
    simp only [List.zipWith_cons_cons, List.map_cons, this.1, this.2, and_self]
theorem row_pulses {n k r : Nat} (hn : n ≤ 6) (hk : k ≤ 8) (h : r < cnt n k) : pulsesErr (rowOf n k r) = 0 := by
  have h1 := rank_rowOf n k r h
  have h2 := rowOf_length n k r
  have hl : loud (rowOf n k r) = k := by rw [← loudN_int, h1.2]
  refine pulsesErr_zero.2 ⟨by omega, ?_, by omega⟩
  rw [allIn_iff]
  intro x hx
  have key : ∀ q : List Int, x ∈ q → far x ≤ loud q := by
    intro q
    induction q with
    | nil => simp
    | cons y q ih =>
      intro hx
      have := loud_nonneg q; have := far_nonneg y
      simp only [loud]
      rcases List.mem_cons.1 hx with rfl | hx
      · omega
      · have := ih hx; omega
  have := key _ hx
  exact far_le.1 (by omega)
theorem unRows_pulses : ∀ {s k x : List Int} {l : List (List Int)} {r : List Int}, (∀ y ∈ s, 0 ≤ y ∧ y ≤ 6) → (∀ y ∈ k, 0 ≤ y ∧ y ≤ 8) → unRows s k x = some (l, r) → ∀ v ∈ l, pulsesErr v = 0
  | [], k, x, l, r, _, _, h => by simp only [unRows, Option.some.injEq, Prod.mk.injEq] at h; rw [← h.1]; simp
  | _ :: _, [], x, l, r, _, _, h => by simp only [unRows, Option.some.injEq, Prod.mk.injEq] at h; rw [← h.1]; simp
  | s :: sizes, k :: ks, x, l, r, hs, hk, h => by
    unfold unRows at h
    split at h
    · cases h
    · split at h
      · rename_i hv
        cases hg : unRows sizes ks (x.drop (wid s k).toNat) with
        | none => rw [hg] at h; cases h
        | some q =>
          obtain ⟨l', r'⟩ := q
          rw [hg] at h
          simp only [Option.some.injEq, Prod.mk.injEq] at h
          rw [← h.1]
          intro v hvm
          have h1 := hs s (by simp)
          have h2 := hk k (by simp)
          rcases List.mem_cons.1 hvm with rfl | hvm
          · exact row_pulses (by omega) (by omega) hv
          · exact unRows_pulses (fun y hy => hs y (by simp [hy])) (fun y hy => hk y (by simp [hy])) hg v hvm
      · cases h
theorem parse_back {x sizes : List Int} {bits : Int} {p : List Part} {r : List Int} (hb : bandErr sizes = 0) (h0 : 0 ≤ bits) (h4 : bits ≤ 400) (hx : isBits x) (h : parse x sizes bits = some (p, r)) :
    frameErr p sizes bits = 0 ∧ x = packBits p ++ r := by
  have hsz := (bandErr_zero.1 hb).2.2.1
  unfold parse at h
  cases hg : unGains sizes.length x with
  | none => rw [hg] at h; cases h
  | some q =>
    obtain ⟨g, r1⟩ := q
    rw [hg] at h
    simp only at h
    have hgb := unGains_back hx hg
    have hsh := share_ok (s := sizes) (loud := vals (gainParts g)) h0
    have hx1 : isBits r1 := fun y hy => hx y (by rw [hgb.2.2]; simp [hy])
    cases hr : unRows sizes (shared (gainParts g) sizes bits) r1 with
    | none => rw [hr] at h; cases h
    | some q2 =>
      obtain ⟨l, r2⟩ := q2
      rw [hr] at h
      simp only [Option.some.injEq, Prod.mk.injEq] at h
      obtain ⟨h1, rfl⟩ := h
      have hk : ∀ y ∈ shared (gainParts g) sizes bits, 0 ≤ y ∧ y ≤ 8 := hsh.2.1
      have hs6 : ∀ y ∈ sizes, 0 ≤ y ∧ y ≤ 6 := fun y hy => by have := hsz y hy; omega
      have hsl : sizes.length = (shared (gainParts g) sizes bits).length := hsh.1.symm
      have hrb := unRows_back hsl hs6 hk hx1 hr
      have hrp := unRows_pulses hs6 hk hr
      have hll : l.length = sizes.length := by have := congrArg List.length hrb.1; simpa using this
      have hz := zip_maps g l (by rw [hgb.1, hll])
      rw [h1] at hz
      have hm1 : p.map (fun x => (x.pulses.length : Int)) = sizes := by rw [← hrb.1, ← hz.2, List.map_map]; rfl
      have hm2 : p.map (fun x => loud x.pulses) = shared (gainParts g) sizes bits := by rw [← hrb.2.1, ← hz.2, List.map_map]; rfl
      refine ⟨frameErr_zero.2 ⟨hb, hm1, fun y hy => ⟨?_, ?_⟩, h0, h4, ?_⟩, ?_⟩
      · exact hgb.2.1 _ (by rw [← hz.1]; exact List.mem_map_of_mem hy)
      · exact hrp _ (by rw [← hz.2]; exact List.mem_map_of_mem hy)
      · rw [hm2, ← hz.1, shared_gains]
      · rw [packBits_eq]
        have e1 : gainBits p = g.flatMap fun y => bitsW 6 y.toNat := by rw [← hz.1, List.flatMap_map]; rfl
        have e2 : rankBits p = l.flatMap fun v => bitsW (wid v.length (loud v)).toNat (rank v) := by rw [← hz.2, List.flatMap_map]; rfl
        rw [e1, e2, List.append_assoc, ← hrb.2.2]; exact hgb.2.2
theorem opened_bits (b : List Nat) : isBits (opened b) := by
  intro x hx
  unfold opened at hx
  obtain ⟨y, _, hy⟩ := List.mem_flatMap.1 hx
  exact bitsW_bit _ _ x hy
theorem unpack_back {b : List Nat} {sizes : List Int} {bits : Int} {p : List Part} (hb : bandErr sizes = 0) (h0 : 0 ≤ bits) (h4 : bits ≤ 400) (hlt : ∀ x ∈ b, x < 256) (h : unpack b sizes bits = some p) :
    frameErr p sizes bits = 0 ∧ packed (packBits p) = b ∧ (packBits p).length ≤ 8 * b.length := by
  unfold unpack at h
  cases hp : parse (opened b) sizes bits with
  | none => rw [hp] at h; cases h
  | some q =>
    obtain ⟨p', r⟩ := q
    rw [hp] at h
    simp only at h
    split at h
    · rename_i hr
      simp only [Option.some.injEq] at h
      subst h
      have hpb := parse_back hb h0 h4 (opened_bits b) hp
      have hol := opened_length b
      have hlen := congrArg List.length hpb.2
      rw [hol, List.length_append] at hlen
      refine ⟨hpb.1, ?_, by omega⟩
      have := packed_opened b (packBits p').length hlt (by omega) (by
        intro x hx
        rw [hpb.2, List.drop_left] at hx
        have h1 := hr.2
        unfold noOne at h1
        rw [List.all_eq_true] at h1
        have h2 := h1 x hx
        have h3 := opened_bits b x (by rw [hpb.2]; simp [hx])
        rcases h3 with h3 | h3
        · exact h3
        · rw [h3] at h2; simp at h2)
      rw [hpb.2, List.take_left] at this
      exact this
    · cases h
/-- Whatever is left: a frame is one of its bytes just where its own bytes are these. -/
theorem unpack_iff {b : List Nat} {sizes : List Int} {bits : Int} {p : List Part} (hb : bandErr sizes = 0) (h0 : 0 ≤ bits) (h4 : bits ≤ 400) (hlt : ∀ x ∈ b, x < 256) {r : List Int}
    (h : parse (opened b) sizes bits = some (p, r)) : unpack b sizes bits = some p ↔ packed (packBits p) = b := by
  refine ⟨fun h1 => (unpack_back hb h0 h4 hlt h1).2.1, fun h1 => ?_⟩
  have hpb := parse_back hb h0 h4 (opened_bits b) h
  rw [← h1]; exact unpack_packed hpb.1
/-- Cut off it is none. -/
theorem unpack_cut {p : List Part} {sizes : List Int} {bits : Int} (h : frameErr p sizes bits = 0) {c : Nat} (hc : c < (packed (packBits p)).length) : unpack ((packed (packBits p)).take c) sizes bits = none := by
  have hol := opened_packed _ _ (Nat.le_refl _) (packBits_bits p)
  have hpl := packed_length (packBits p)
  generalize hB : packed (packBits p) = B at *
  have hsplit : opened (B.take c) ++ opened (B.drop c) = opened B := by
    unfold opened; rw [← List.flatMap_append, List.take_append_drop]
  unfold unpack
  cases hp : parse (opened (B.take c)) sizes bits with
  | none => rfl
  | some q =>
    obtain ⟨q, r⟩ := q
    exfalso
    have h1 := parse_append (opened (B.drop c)) hp
    rw [hsplit, hol, parse_packBits h] at h1
    simp only [Option.some.injEq, Prod.mk.injEq] at h1
    have h2 := congrArg List.length h1.2
    rw [List.length_replicate, List.length_append, opened_length, List.length_drop] at h2
    omega
theorem rankBits_length : ∀ p : List Part, ((rankBits p).length : Int) = cost (p.map (fun x => (x.pulses.length : Int))) (p.map (fun x => loud x.pulses))
  | [] => rfl
  | x :: p => by
    have ih := rankBits_length p
    have hw := wid_nonneg x.pulses.length (loud x.pulses)
    have e : rankBits (x :: p) = bitsW (wid x.pulses.length (loud x.pulses)).toNat (rank x.pulses) ++ rankBits p := rfl
    rw [e, List.length_append, bitsW_length]
    simp only [List.map_cons, cost]; omega
theorem gainBits_length : ∀ p : List Part, (gainBits p).length = 6 * p.length
  | [] => rfl
  | x :: p => by
    have ih := gainBits_length p
    have e : gainBits (x :: p) = bitsW 6 x.gain.toNat ++ gainBits p := rfl
    rw [e, List.length_append, bitsW_length, ih, List.length_cons]; omega
/-- Never longer than told. -/
theorem packBits_le {p : List Part} {sizes : List Int} {bits : Int} (h : frameErr p sizes bits = 0) : ((packBits p).length : Int) ≤ 6 * sizes.length + bits := by
  obtain ⟨_, h2, _, h4, _, h6⟩ := frameErr_zero.1 h
  have hs := share_ok (s := sizes) (loud := vals p) h4
  have hl : p.length = sizes.length := by rw [← h2, List.length_map]
  have e : cost sizes (shared p sizes bits) ≤ bits := hs.2.2.1
  rw [packBits_eq, List.length_append, gainBits_length, Int.natCast_add, rankBits_length, h2, h6, hl]
  omega
end Ph
