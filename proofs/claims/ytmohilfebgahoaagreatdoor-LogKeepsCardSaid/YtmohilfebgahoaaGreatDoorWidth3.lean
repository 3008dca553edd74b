/- Walks: bits as bytes (chapter 13). -/
import Derived.Test.YtmohilfebgahoaaGreatDoorWidth
import Derived.Test.YtmohilfebgahoaaGreatDoorChunk
import Derived.Test.YtmohilfebgahoaaGreatDoorOff
import Derived.Test.YtmohilfebgahoaaGreatDoorPushK
import Derived.Test.YtmohilfebgahoaaGreatDoorTree
namespace Go.Proofs.YtmohilfebgahoaaGreatDoor
open Go.RowKit

attribute [local go_sem] Oper.semAt_some
/-- The bytes that have come. -/
def packs {m : Nat} (l : List Int) (pre : List (Fin m)) : List Nat := pre.map fun x => Ph.pack1 (Ph.chunk8 l x.1)
theorem packs_snoc {m : Nat} (l : List Int) (pre : List (Fin m)) (x : Fin m) : packs l (pre ++ [x]) = packs l pre ++ [Ph.pack1 (Ph.chunk8 l x.1)] := by simp [packs]
theorem packs_all (l : List Int) : packs l (List.finRange (pieces l.length 8)) = Ph.packed l := by
  unfold packs Ph.packed
  have e : pieces l.length 8 = (l.length + 7) / 8 := by unfold pieces; rfl
  rw [← e]
  apply List.ext_getElem
  · simp
  · intro i h1 h2; simp
theorem step_pushOff {ops : Array Oper} {oo : Oper} {a : Act} {K : Act → World → Prop} {Q : Exit → Act → World → Prop} {E : Prop} {n₀ n₁ BX BO x : Nat} {u v : Value} {l : List Nat} (W : World) (h : OffS n₁ BX BO x u v l W) (h0 : n₀ ≤ n₁) (hl : l.length ≤ 1000000) (y g0 : Nat)
    (hgd : oo.guard = none) (s z : Operand) (ho : oo.op = .call { callee := .builtin .append, args := #[s, z], argTypes := #[103, 103] }) (hcell : W.cell? ⟨g0, 0, none⟩ = some (.int .u8 (y : Int))) (hs : a.eval s = v) (hx : a.eval z = .slice (some ⟨g0, 0, none⟩) 1 1)
    (hc : ∀ g cap w', OffS n₁ BX BO x u (.slice (some ⟨g, 0, none⟩) (l.length + 1) cap) (l ++ [y]) w' → Keeps3 n₀ n₁ BX BO W w' → K (a.put oo.dst (.slice (some ⟨g, 0, none⟩) (l.length + 1) cap)) w') :
    if Region.wanted oo (yielded ops a.tmps) = true then Oper.wp Tryz.prog oo a W K Q else E := by
  obtain ⟨i0, hi, hz0, hz1, hz2⟩ := info_parts byte_info
  refine step_append_lies _ hgd s z 103 ho n₁ 5 i0 (.int .u8 0) 1 1 Tryz.underlying103 hi hz0 hz1 hz2 rfl (by omega) v l.length (bvals l) hs h.2.2.1 ⟨g0, 0, none⟩ 1 1 [.int .u8 (y : Int)] hx rfl ?_ ?_ (by omega) ?_ ?_ h.2.2.2.1 _ rfl ?_
  · intro j u hj
    match j, hj with
    | 0, hj => simp at hj; subst hj; simpa [Addr.add] using hcell
  · intro u hu
    simp at hu
    subst hu
    rfl
  · unfold maxLen; omega
  · omega
  · intro g cap w' ho' hg _ _
    have e : l.length + 1 = (l ++ [y]).length := by simp
    exact hc g cap w' (h.grown (by rw [← e, bvals_append]; exact ho') hg) (Keeps3.grown h.2.2.1 h0 h.2.2.2.1 hg)
theorem piece_rd {w : World} {B n g o : Nat} {l : List Int} (h : RdI w B (some ⟨g, o, none⟩) n l) {q : Nat} (hq : 8 * q < n) : RdI w B (some ⟨g, o + 8 * q, none⟩) (pieceLen n 8 q) (Ph.chunk8 l q) := by
  have hl := h.len
  have h1 := Rd.drop (k := 8 * q) h (by omega)
  have h2 : RdI w B (some ⟨g, o + 8 * q, none⟩) (n - 8 * q) (l.drop (8 * q)) := by
    unfold RdI
    have e : ivals (l.drop (8 * q)) = (ivals l).drop (8 * q) := by unfold ivals; rw [List.map_drop]
    rw [e]
    have e2 : (some (⟨g, o, none⟩ : Addr)).map (·.add (8 * q)) = some ⟨g, o + 8 * q, none⟩ := by
      show some (Addr.add ⟨g, o, none⟩ (8 * q)) = _
      unfold Addr.add
      split
      · rename_i h0; rw [h0]; rfl
      · rfl
    rw [e2] at h1
    exact h1
  have h3 := h2.take (k := pieceLen n 8 q) (by unfold pieceLen; omega)
  have e3 : (l.drop (8 * q)).take (pieceLen n 8 q) = Ph.chunk8 l q := by
    unfold Ph.chunk8 pieceLen
    rcases Nat.lt_or_ge (n - 8 * q) 8 with h0 | h0
    · rw [Nat.min_eq_right (by omega), List.take_of_length_le (by rw [List.length_drop]; omega), List.take_of_length_le (by rw [List.length_drop]; omega)]
    · rw [Nat.min_eq_left h0]
  rwa [e3] at h3
theorem chunk1_zero (n l Bs Bn cap k : Nat) (A : Option Addr) (hk : 1 ≤ k ∧ k ≤ 64) (J Jx : List (Fin (pieces 0 k)) → World → Prop) (W : World) (hBs : W.cell? ⟨Bs, 0, none⟩ = some (.slice A 0 cap)) (h0 : J [] W) :
    CallsIn Fence.wide n Tryz.prog 125 #[.func (.yield l) #[] #[], .pointer (some ⟨Bs, 0, none⟩), .pointer (some ⟨Bn, 0, none⟩)] W fun e W' => (∃ v, e = .returned v) ∧
      ((∃ ys, ys = List.finRange (pieces 0 k) ∧ J ys W') ∨ (∃ pre, pre <+: List.finRange (pieces 0 k) ∧ Jx pre W')) := by
  have he : List.finRange (pieces 0 k) = [] := by
    have : pieces 0 k = 0 := by unfold pieces; exact Nat.div_eq_of_lt (by omega)
    apply List.length_eq_zero_iff.1; simp [this]
  rw [he]
  refine callsIn_of_wp Tryz.func125 rfl trivial ?_ rfl
  simp only [Tryz.ntmps125, List.size_toArray, List.length_cons, List.length_nil, Nat.reduceAdd, Nat.reduceSub, Array.replicate_succ, Array.replicate_zero, List.push_toArray, List.append_toArray, List.nil_append, List.cons_append]
  gi_wp2
  gi_loopw [4] (fun i wr => i = .int .i64 0 ∧ wr.cell? ⟨Bs, 0, none⟩ = some (.slice A 0 cap) ∧ J [] wr) (fun _ _ => 0)
  case atStart => exact ⟨rfl, hBs, h0⟩
  case round =>
    obtain ⟨rfl, c1, hJs⟩ := hrel
    gi_wp2
    go_end0
    exact ⟨⟨_, rfl⟩, .inl ⟨_, rfl, hJs⟩⟩
/-- slices.Chunk's value parts a slice, wherever it lies. -/
theorem chunk_parts (n : Nat) (hn : 1 ≤ n) (Bs Bn b off len cap k : Nat) (A : Option Addr) (hA : A = some ⟨b, off, none⟩ ∨ len = 0) (hk : 1 ≤ k ∧ k ≤ 64) (hlen : len ≤ cap ∧ cap ≤ 9223372036854775807 ∧ len ≤ 17592186044415) (w : World)
    (h1 : Bs < w.heap.size) (h2 : Bn < w.heap.size) (hBs : w.cell? ⟨Bs, 0, none⟩ = some (.slice A len cap)) (hBn : w.cell? ⟨Bn, 0, none⟩ = some (.int .i64 k)) :
    SeqStopsK Fence.wide n Tryz.prog 125 #[.pointer (some ⟨Bs, 0, none⟩), .pointer (some ⟨Bn, 0, none⟩)] (fun x : Fin (pieces len k) => #[pieceV b off len k x.1]) (KeepTwo Bs Bn)
      (fun ys => ys = List.finRange (pieces len k)) (fun pre => pre <+: List.finRange (pieces len k)) (pieces len k) w := fun l J Jx W hW hJ _ hY h0 => by
  have c1 := (hW.cell (p := ⟨Bs, 0, none⟩) h1).trans hBs
  have c2 := (hW.cell (p := ⟨Bn, 0, none⟩) h2).trans hBn
  rcases hA with rfl | rfl
  · exact chunk1_in n hn l Bs Bn b off len cap k hk hlen J Jx hY W c1 c2 h0 (fun xs W' q hj => hJ xs W' _ none hj ⟨rfl, rfl, rfl, Nat.le_refl _, fun _ _ _ => rfl⟩ (fun r e => by cases e))
  · exact chunk1_zero n l Bs Bn cap k A hk J Jx W c1 h0
set_option maxRecDepth 1000000 in
set_option maxHeartbeats 8000000 in
theorem packed_any (A : Option Addr) (n c : Nat) (l : List Int) (w : World) (B : Nat) (h : RdI w B A n l) (hB : B ≤ w.heap.size) (hb : Ph.isBits l) (hn : n ≤ 400) (hc : n ≤ c ∧ c ≤ 9223372036854775807) :
    Calls Tryz.prog 56 #[.slice A n c] w fun e w' => e = .returned (.string (strB (Ph.packed l))) ∧ Below w.heap.size w w' := by
  have HL := Lib.hid h.len
  have H := Lib.hid h
  have HBT := Lib.hid hb
  obtain ⟨g, o, hA⟩ : ∃ g o, A = some ⟨g, o, none⟩ ∨ n = 0 := by
    rcases Nat.eq_zero_or_pos n with h0 | h0
    · exact ⟨0, 0, .inr h0⟩
    · obtain ⟨b, off, e, _⟩ := h.at_ h0
      exact ⟨b, off, .inl e⟩
  have hpc : pieces n 8 ≤ 50 := by unfold pieces; omega
  clear h hb
  refine (callsIn_wide (n := 9)).1 ?_
  refine callsIn_of_wp_marks Tryz.func56 rfl trivial ?_ rfl
  refine wpIn_wide.2 ?_
  simp only [Tryz.ntmps56, List.size_toArray, List.length_cons, List.length_nil, Nat.reduceAdd, Nat.reduceSub, Array.replicate_succ, Array.replicate_zero, List.push_toArray, List.append_toArray, List.nil_append, List.cons_append]
  go_wp2_with (go_at_call 99; refine (chunk_any A n c 8 (by omega) _).mono ?_; rintro e w' ⟨rfl, rfl⟩)
  obtain ⟨W0, hW0⟩ : ∃ W0, W0 = ((w.alloc (.cells #[.slice none 0 0] 103)).alloc (.cells #[.slice A n c] 22)).alloc (.cells #[.int .i64 8] 3) := ⟨_, rfl⟩
  rw [← hW0]
  have hsz : W0.heap.size = w.heap.size + 3 := by rw [hW0]; simp
  have b0 : Boxed W0 w.heap.size 103 (.slice none 0 0) := by rw [hW0]; exact ((Boxed.new w _ _).alloc _).alloc _
  have b1 : Boxed W0 (w.heap.size + 1) 22 (.slice A n c) := by
    rw [hW0]
    have := Boxed.new (w.alloc (.cells #[.slice none 0 0] 103)) 22 (.slice A n c)
    rw [World.size_alloc] at this
    exact this.alloc _
  have b2 : Boxed W0 (w.heap.size + 1 + 1) 3 (.int .i64 8) := by
    rw [hW0]
    have := Boxed.new ((w.alloc (.cells #[.slice none 0 0] 103)).alloc (.cells #[.slice A n c] 22)) 3 (.int .i64 8)
    rw [World.size_alloc, World.size_alloc] at this
    exact this
  have hbel : Below w.heap.size w W0 := by rw [hW0]; exact (((Below.refl _ w).alloc (Nat.le_refl _) _).alloc (by simp) _).alloc (by simp; omega) _
  have r1 : RdI W0 B A n l := H.out.below (hbel.mono hB)
  clear hW0
  refine (wpIn_wide (n := 9)).1 ?_
  refine wpIn_rangeFunc_ownG rfl (by omega) (gf := 125) (lb := #[.pointer (some ⟨w.heap.size + 1, 0, none⟩), .pointer (some ⟨w.heap.size + 1 + 1, 0, none⟩)]) rfl trivial (enters_of Tryz.func125 (by kernel_rfl) rfl)
    (chunk_parts 8 (by omega) (w.heap.size + 1) (w.heap.size + 1 + 1) g o n c 8 A hA (by omega) ⟨hc.1, hc.2, by omega⟩ W0 (by omega) (by omega) b1.cell b2.cell) KeepTwo.t (KeepTwo.b (by omega) (by omega)) (Below.refl _ _) (fun _ => rfl)
    (fun pre W => (∃ v, OffS W0.heap.size (w.heap.size + 1 + 1) w.heap.size 8 v v (packs l pre) W) ∧ Keeps3 w.heap.size W0.heap.size (w.heap.size + 1 + 1) w.heap.size W0 W)
    (fun _ _ _ => False)
    (OwnFrom.and (Own.from (offS_own _ _ _ (fun (_ : List (Fin (pieces n 8))) => 8) (fun pre => packs l pre)) _) (keeps3_own _ _ _ _ _ _ (by omega) (Nat.le_refl _) (Nat.le_refl _)))
    (fun _ _ _ _ _ hs _ _ => hs)
    ⟨⟨.slice none 0 0, b2, b0, own_nil _ _ _, Nat.le_refl _, by omega, by omega, by omega⟩, Keeps3.refl _⟩
    (fun x => { tmps := #[.slice A n c, undef, .string ByteArray.empty, .pointer (some ⟨w.heap.size, 0, none⟩), pieceV g o n 8 x.1, .slice A n c, .func (.func 125) #[] #[.pointer (some ⟨w.heap.size + 1, 0, none⟩), .pointer (some ⟨w.heap.size + 1 + 1, 0, none⟩)], pieceV g o n 8 x.1, undef, undef, undef, undef, undef, undef, undef, undef, undef, undef, undef, undef], defers := [] }) ?assign ?body ?done ?stop
  case assign =>
    intro r x W K hK
    gi_wp2
    exact hK
  case body =>
    rintro r pre x W ⟨⟨V, hT⟩, hKp⟩ hlen
    have hxq := (piece_lt (len := n) (k := 8) (q := x.1) (by omega)).1 x.2
    have hAg : A = some ⟨g, o, none⟩ := hA.resolve_right (by omega)
    subst hAg
    have hrd := piece_rd (r1.below (hKp.1.mono hB)) hxq
    have hL8 : pieceLen n 8 x.1 ≤ 8 := by unfold pieceLen; omega
    have hpv : pieceV g o n 8 x.1 = .slice (some ⟨g, o + 8 * x.1, none⟩) (pieceLen n 8 x.1) (pieceLen n 8 x.1) := rfl
    rw [hpv]
    have hbc : Ph.isBits (Ph.chunk8 l x.1) := fun b hb => HBT.out b (List.mem_of_mem_drop (List.mem_of_mem_take hb))
    have hnl := Ph.number_lt hbc
    have hcl := hrd.len
    have HG := Lib.hid fun W' (hW' : RdI W' B (some ⟨g, o + 8 * x.1, none⟩) (pieceLen n 8 x.1) (Ph.chunk8 l x.1)) => gather_any (some ⟨g, o + 8 * x.1, none⟩) (pieceLen n 8 x.1) (pieceLen n 8 x.1) (Ph.chunk8 l x.1) W' B hW' hbc (by omega)
    have hsn := packs_snoc l pre x
    have hp1 : Ph.pack1 (Ph.chunk8 l x.1) = Ph.number (Ph.chunk8 l x.1) * 2 ^ (8 - pieceLen n 8 x.1) := by unfold Ph.pack1; rw [hcl]
    have hplt := Ph.pack1_lt hbc (by rw [hcl]; exact hL8)
    obtain ⟨y, hy⟩ : ∃ y, y = Ph.pack1 (Ph.chunk8 l x.1) := ⟨_, rfl⟩
    rw [← hy] at hsn hp1 hplt
    obtain ⟨N, hN⟩ : ∃ N, N = Ph.number (Ph.chunk8 l x.1) := ⟨_, rfl⟩
    rw [← hN] at HG hp1 hnl
    have HRD := Lib.hid hrd
    obtain ⟨C, hC⟩ : ∃ C, C = Ph.chunk8 l x.1 := ⟨_, rfl⟩
    rw [← hC] at HG HRD
    obtain ⟨L, hL⟩ : ∃ L, L = pieceLen n 8 x.1 := ⟨_, rfl⟩
    rw [← hL] at hL8 HG hp1 HRD ⊢
    obtain ⟨D, hD⟩ : ∃ D, D = 8 - L := ⟨_, rfl⟩
    rw [← hD] at hp1
    have HSN := Lib.hid hsn
    have HT := Lib.hid hT
    have HKP := Lib.hid hKp
    have hc1 := hT.2.1.cell
    have hps : (packs l pre).length ≤ 100 := by unfold packs; rw [List.length_map]; omega
    have hDi : (8 : Int) - (L : Int) = (D : Int) := by omega
    have hD8 : D ≤ 8 := by omega
    have hPn : ((N : Int) * 2 ^ D) = (y : Int) := by rw [hp1]; simp
    have hsh : IntKind.i64.wrap ((N : Int) * 2 ^ D) = (y : Int) := by rw [hPn]; exact IntWalk.i64_in _ (by omega)
    have hcv : IntKind.u8.wrap (y : Int) = (y : Int) := by rw [u8_wrap, Nat.mod_eq_of_lt hplt]
    have hDw : IntKind.i64.wrap (D : Int) = (D : Int) := IntWalk.i64_in _ (by omega)
    have HPN := Lib.hid hPn
    clear hPn hp1
    clear hA hrd hpv hbc hnl hcl hsn hT hKp hlen hy hN hC hL hD b0 b1 b2 hbel r1
    gi_wp2_with fail
    refine region_inR_till (fun L w' => w'.cell? ⟨w.heap.size, 0, none⟩ = some V ∨ L.getD 10 false = true) (by kernel_rfl) (by kernel_rfl) (fun _ _ h => h) ?_
    refine wpTill_take (d := 10) (i := 0) (v := V) (S := fun w' => w'.cell? ⟨w.heap.size, 0, none⟩ = some V) rfl (by kernel_rfl) (by kernel_rfl) (by kernel_rfl) (by kernel_rfl) (fun _ _ _ h => h) (fun L w' hd hc => hc.resolve_right (by rw [hd]; simp)) (fun L w' hc => hc.imp id (fun h => by rwa [getD_set_ne false (by decide)] at h)) (.inl hc1) (Or.inl ⟨by rfl, fun w hSw => by go_simp⟩) ?_
    try simp only [Act.put, List.getElem_toArray, List.getElem_cons_zero, List.setIfInBounds_toArray, List.set_cons_zero, List.set_cons_succ]
    refine wpTill_take (d := 10) (i := 1) (v := .slice (some ⟨g, o + 8 * x.1, none⟩) L L) (S := fun _ => True) rfl (by kernel_rfl) (by kernel_rfl) (by kernel_rfl) (by kernel_rfl) (fun _ _ _ h => h) (fun _ _ _ _ => trivial) (fun L w' hc => hc.imp id (fun h => by rwa [getD_set_ne false (by decide)] at h)) (.inl hc1) (Or.inl ⟨by rfl, fun w _ => by go_simp⟩) ?_
    try simp only [Act.put, List.getElem_toArray, List.getElem_cons_zero, List.getElem_cons_succ, List.setIfInBounds_toArray, List.set_cons_zero, List.set_cons_succ]
    refine wpTill_take (d := 10) (i := 3) (v := .slice (some ⟨g, o + 8 * x.1, none⟩) L L) (S := fun _ => True) rfl (by kernel_rfl) (by kernel_rfl) (by kernel_rfl) (by kernel_rfl) (fun _ _ _ h => h) (fun _ _ _ _ => trivial) (fun L w' hc => hc.imp id (fun h => by rwa [getD_set_ne false (by decide)] at h)) (.inl hc1) (Or.inl ⟨by rfl, fun w _ => by go_simp⟩) ?_
    try simp only [Act.put, List.getElem_toArray, List.getElem_cons_zero, List.getElem_cons_succ, List.setIfInBounds_toArray, List.set_cons_zero, List.set_cons_succ]
    refine wpTill_take (d := 10) (i := 4) (v := .int .i64 (L : Int)) (S := fun _ => True) rfl (by kernel_rfl) (by kernel_rfl) (by kernel_rfl) (by kernel_rfl) (fun _ _ _ h => h) (fun _ _ _ _ => trivial) (fun L w' hc => hc.imp id (fun h => by rwa [getD_set_ne false (by decide)] at h)) (.inl hc1) (Or.inl ⟨by rfl, fun w _ => by go_simp⟩) ?_
    try simp only [Act.put, List.getElem_toArray, List.getElem_cons_zero, List.getElem_cons_succ, List.setIfInBounds_toArray, List.set_cons_zero, List.set_cons_succ]
    refine wpTill_take (d := 10) (i := 5) (v := .int .i64 (D : Int)) (S := fun _ => True) rfl (by kernel_rfl) (by kernel_rfl) (by kernel_rfl) (by kernel_rfl) (fun _ _ _ h => h) (fun _ _ _ _ => trivial) (fun L w' hc => hc.imp id (fun h => by rwa [getD_set_ne false (by decide)] at h)) (.inl hc1) (Or.inl ⟨by rfl, fun w _ => by go_simp⟩) ?_
    try simp only [Act.put, List.getElem_toArray, List.getElem_cons_zero, List.getElem_cons_succ, List.setIfInBounds_toArray, List.set_cons_zero, List.set_cons_succ]
    refine wpTill_ready (rs := [2]) (by kernel_rfl) (by simp) ?_
    refine TillAll.cons rfl (fun K hK => ?_) TillAll.nil
    go_simp
    refine (HG.out _ (HRD.out.drewN 1)).mono ?_
    rintro e wk ⟨rfl, rfl⟩
    dsimp only
    refine hK.out _ _ (.inl hc1) ?_
    try simp only [Act.put, List.getElem_toArray, List.getElem_cons_zero, List.getElem_cons_succ, List.setIfInBounds_toArray, List.set_cons_zero, List.set_cons_succ]
    clear hK K
    refine wpTill_take (d := 10) (i := 6) (v := .int .i64 (y : Int)) (S := fun _ => True) rfl (by kernel_rfl) (by kernel_rfl) (by kernel_rfl) (by kernel_rfl) (fun _ _ _ h => h) (fun _ _ _ _ => trivial) (fun L w' hc => hc.imp id (fun h => by rwa [getD_set_ne false (by decide)] at h)) (.inl hc1) (Or.inl ⟨by rfl, fun w _ => by go_simp⟩) ?_
    try simp only [Act.put, List.getElem_toArray, List.getElem_cons_zero, List.getElem_cons_succ, List.setIfInBounds_toArray, List.set_cons_zero, List.set_cons_succ]
    refine wpTill_take (d := 10) (i := 7) (v := .int .u8 (y : Int)) (S := fun _ => True) rfl (by kernel_rfl) (by kernel_rfl) (by kernel_rfl) (by kernel_rfl) (fun _ _ _ h => h) (fun _ _ _ _ => trivial) (fun L w' hc => hc.imp id (fun h => by rwa [getD_set_ne false (by decide)] at h)) (.inl hc1) (Or.inl ⟨by rfl, fun w _ => by go_simp⟩) ?_
    try simp only [Act.put, List.getElem_toArray, List.getElem_cons_zero, List.getElem_cons_succ, List.setIfInBounds_toArray, List.set_cons_zero, List.set_cons_succ]
    obtain ⟨W1, hW1⟩ : ∃ W1, W1 = W.drewN 1 := ⟨_, rfl⟩
    have HT1 : Hid (OffS W0.heap.size (w.heap.size + 1 + 1) w.heap.size 8 V V (packs l pre) W1) := Lib.hid (by rw [hW1]; exact HT.out.drewN 1)
    have HK1 : Hid (Keeps3 w.heap.size W0.heap.size (w.heap.size + 1 + 1) w.heap.size W W1) := Lib.hid (by rw [hW1]; exact Keeps3.drewN _ _)
    rw [← hW1]
    clear hW1
    refine wpTill_ready (rs := [8]) (by kernel_rfl) (by simp) ?_
    refine TillAll.cons rfl (fun K hK => ?_) TillAll.nil
    go_simp
    obtain ⟨G1, hG1⟩ : ∃ q, q = W1.heap.size := ⟨_, rfl⟩
    obtain ⟨W2, hN⟩ : ∃ q, q = W1.alloc (.cells #[.int .u8 (y : Int)] 5) := ⟨_, rfl⟩
    rw [← hG1, ← hN]
    have HT2 : Hid (OffS W0.heap.size (w.heap.size + 1 + 1) w.heap.size 8 V V (packs l pre) W2) := Lib.hid (by rw [hN]; exact HT1.out.alloc _)
    have HK2 : Hid (Keeps3 w.heap.size W0.heap.size (w.heap.size + 1 + 1) w.heap.size W W2) := Lib.hid (by rw [hN]; exact HK1.out.trans (Keeps3.alloc _ _ (by have := HT1.out.2.2.2.1; omega) HT1.out.2.2.2.1))
    have tG1 : W2.cell? ⟨G1, 0, none⟩ = some (.int .u8 (y : Int)) := by rw [hN, hG1]; exact cell_of_alloc _ _ _
    have c2 := HT2.out.2.1.cell
    refine hK.out _ _ (.inl c2) ?_
    try simp only [Act.put, List.getElem_toArray, List.getElem_cons_zero, List.getElem_cons_succ, List.setIfInBounds_toArray, List.set_cons_zero, List.set_cons_succ]
    clear hK K hN hG1 c2 hc1
    refine wpTill_ready (rs := [9]) (by kernel_rfl) (by simp) ?_
    refine TillAll.cons rfl (fun K hK => ?_) TillAll.nil
    refine step_pushOff (n₀ := w.heap.size) W2 HT2.out (by omega) (by omega) y G1 (by rfl) _ _ (by rfl) tG1 (by rfl) (by rfl) ?_
    intro ga ca W3 hT3 hK3
    have HT3 := Lib.hid hT3
    have HK3 := Lib.hid (HK2.out.trans hK3)
    have c3 := HT3.out.2.1.cell
    refine hK.out _ _ (.inl c3) ?_
    try simp only [Act.put, List.getElem_toArray, List.getElem_cons_zero, List.getElem_cons_succ, List.setIfInBounds_toArray, List.set_cons_zero, List.set_cons_succ]
    clear hK K c3 hT3 hK3 tG1
    refine wpTill_ready (rs := [10]) (by kernel_rfl) (by simp) ?_
    refine TillAll.cons rfl (fun K hK => ?_) TillAll.nil
    have c4 := HT3.out.2.1.cell
    have f4 := HT3.out.2.1.frozen
    go_simp
    obtain ⟨W4, hN⟩ : ∃ q, q = W3.setCell ⟨w.heap.size, 0, none⟩ (.slice (some ⟨ga, 0, none⟩) ((packs l pre).length + 1) ca) := ⟨_, rfl⟩
    rw [← hN]
    have HT4 : Hid (OffS W0.heap.size (w.heap.size + 1 + 1) w.heap.size 8 (.slice (some ⟨ga, 0, none⟩) ((packs l pre).length + 1) ca) (.slice (some ⟨ga, 0, none⟩) ((packs l pre).length + 1) ca) (packs l pre ++ [y]) W4) := Lib.hid (by rw [hN]; exact HT3.out.storeO _)
    have HK4 : Hid (Keeps3 w.heap.size W0.heap.size (w.heap.size + 1 + 1) w.heap.size W W4) := Lib.hid (by rw [hN]; exact HK3.out.trans (Keeps3.store _ _ (by omega) (.inr rfl)))
    refine hK.out _ _ (.inr (by kernel_rfl)) ?_
    try simp only [Act.put, List.getElem_toArray, List.getElem_cons_zero, List.getElem_cons_succ, List.setIfInBounds_toArray, List.set_cons_zero, List.set_cons_succ]
    clear hK K hN c4 f4
    refine wpTill_done (by kernel_rfl) ?_ _
    refine ⟨HK4.out.2.1.from _, ⟨World.cell?_of_block (HK4.out.2.2 (w.heap.size + 1) (by omega) (by omega) (by omega)), ?_⟩, ⟨_, by rw [HSN.out]; exact HT4.out⟩, HKP.out.trans HK4.out⟩
    exact HT4.out.1.cell.trans HT.out.1.cell.symm
  case done =>
    rintro D xs W hD rfl ⟨⟨v, hT⟩, hKp⟩ hK
    have hpa : packs l (List.finRange (pieces n 8)) = Ph.packed l := by
      have e := HL.out
      subst e
      exact packs_all l
    rw [hpa] at hT
    have hcv := fun A' k' (e : v = .slice A' (Ph.packed l).length k') => conv_str (RdB.own (e ▸ hT.2.2.1)) k'
    obtain ⟨A6, k6, hv⟩ := own_slice hT.2.2.1
    have hcv2 := hcv A6 k6 hv
    subst hv
    have hd7 := hT.2.1.cell
    have HB9 := Lib.hid (hbel.trans hKp.1)
    have HM : Hid (Marked w.heap.size W [{ target := .collected D, args := #[] }]) := Lib.hid ⟨D, rfl, by omega, hK, fun r' hr => (by cases hr), trivial⟩
    clear hcv hpa hT hKp hbel hK b0 b1 b2 r1
    go_wp2_with fail
    refine leaves_marked HB9.out.size HM.out fun w' hk => ?_
    exact ⟨_, results_tmp rfl _ _ _, rfl, HB9.out.trans hk.1⟩
  case stop =>
    rintro D c pre W _ _ h _
    exact h.elim
end Go.Proofs.YtmohilfebgahoaaGreatDoor
/- Walks: bits as bytes, whatever comes; bytes as bits (chapter 13). -/
namespace Go.Proofs.YtmohilfebgahoaaGreatDoor
open Go.RowKit

/-- What is told of bits. -/
def octS (l : List Int) : ByteArray := if bitsErr l = 0 then strB (Ph.packed l) else ByteArray.empty
theorem wpList_twoS2 {ops : Array Oper} {rest : List Oper} {o : Oper} {a : Act} {Q : Exit → Act → World → Prop} (w : World) (hgd : o.guard = none) (s x : Operand)
    (ho : o.op = .call { callee := .builtin .append, args := #[s, x], argTypes := #[22, 22] })
    (W0 : World) {n₁ k1 k2 : Nat} {v1 v2 : Value} {l1 l2 : List Int} (y : Int) (ht : TwoS n₁ k1 k2 v1 v2 l1 l2 w) (hbel : Below n₁ W0 w)
    (hk : k2 + 1 ≤ 17592186044415) (hs : a.eval s = v2) (hx : a.eval x = .slice (some ⟨w.heap.size, 0, none⟩) 1 1)
    (h : ∀ g cap w', TwoS n₁ k1 (k2 + 1) v1 (.slice (some ⟨g, 0, none⟩) (k2 + 1) cap) l1 (l2 ++ [y]) w' → Below n₁ W0 w' → wpList Tryz.prog ops Q rest (a.put o.dst (.slice (some ⟨g, 0, none⟩) (k2 + 1) cap)) w') :
    wpList Tryz.prog ops Q (o :: rest) a (w.alloc (.cells #[.int .i64 y] 3)) := by
  obtain ⟨i0, hi, hz0, hz1, hz2⟩ := info_parts int_info
  have hbase := ht.2.2.2
  have htA := ht.alloc (.cells #[.int .i64 y] 3)
  refine wpList_append_lies _ hgd s x 22 ho n₁ 3 i0 (.int .i64 0) 1 8 Tryz.underlying22 hi hz0 hz1 hz2 rfl (by omega) _ _ _ hs (ht.2.1.alloc _) ⟨w.heap.size, 0, none⟩ 1 1 [.int .i64 y] hx rfl ?_ ?_ (by omega) ?_ ?_ ?_ (w.heap.size + 1) (by simp) ?_
  · intro j u hj
    match j, hj with
    | 0, hj => simp at hj; subst hj; simp [Addr.add]
  · intro u hu
    simp at hu
    subst hu
    rfl
  · unfold maxLen; omega
  · omega
  · simp; omega
  · intro g cap w' ho' hg hat _
    refine h g cap w' (htA.right (by rw [ivals_append]; exact ho') hg (hat.imp id (fun e => by first | exact e | (rw [e]; simp)))) ?_
    refine (hbel.alloc hbase _).grown hg (by simp; omega) ?_
    intro q hq
    exact (htA.2.1.lt q hq).1
theorem opened_spread (bs : List Nat) : Ph.spread (bs.map fun (x : Nat) => (x : Int)) (List.replicate bs.length 8) = Ph.opened bs := by
  induction bs with
  | nil => rfl
  | cons x bs ih =>
    rw [List.map_cons, List.length_cons, List.replicate_succ, Ph.spread, ih, Ph.opened_cons]
    rfl
theorem nmap_take (bs : List Nat) (k : Nat) (h : k < bs.length) : (bs.take (k + 1)).map (fun (x : Nat) => (x : Int)) = (bs.take k).map (fun (x : Nat) => (x : Int)) ++ [(bs.getD k 0 : Int)] := by
  rw [List.take_add_one, List.getElem?_eq_getElem h, List.map_append, List.getD_eq_getElem?_getD, List.getElem?_eq_getElem h]
  rfl
set_option maxRecDepth 100000 in
set_option maxHeartbeats 4000000 in
theorem open_any (s : ByteArray) (w : World) (hs : s.size ≤ 1000) :
    Calls Tryz.prog 102 #[.string s] w (OwnI 3 (Ph.opened (bytesOf s)) w) := by
  obtain ⟨cc, oo, hcv, hcc, hrd⟩ := conv_bytes s w
  have HBL := Lib.hid (bytesOf_length s)
  have HLT := Lib.hid (bytesOf_lt s)
  have HBA : Hid (Below w.heap.size w (w.drew.alloc oo)) := Lib.hid ((Below.refl _ _).drew.alloc (Nat.le_refl _) oo)
  have hsz0 : (w.drew.alloc oo).heap.size = w.heap.size + 1 := by simp
  obtain ⟨W1, hW1⟩ : ∃ W1, W1 = w.drew.alloc oo := ⟨_, rfl⟩
  rw [← hW1] at hcv hrd HBA hsz0
  obtain ⟨bs, hbs⟩ : ∃ bs, bs = bytesOf s := ⟨_, rfl⟩
  rw [← hbs] at hrd HBL HLT ⊢
  have HRD := Lib.hid hrd
  have HSZ := Lib.hid hsz0
  have hn : s.size ≤ 1000 := hs
  obtain ⟨N, hN⟩ : ∃ N, N = s.size := ⟨_, rfl⟩
  rw [← hN] at hcv hcc HRD HBL hn
  clear hrd hW1 hbs hsz0 hs hN
  go_enter Tryz.func102, Tryz.ntmps102
  go_wp2_with fail
  go_loopw [3, 4, 6, 10] (fun sl sw _ i wr => ∃ (k : Nat) (v1 v2 : Value), k ≤ N ∧ i = .int .i64 k ∧ sl = v1 ∧ sw = v2 ∧ Hid (TwoS W1.heap.size k k v1 v2 ((bs.take k).map fun (x : Nat) => (x : Int)) (List.replicate k 8) wr) ∧ Hid (Below W1.heap.size W1 wr)) (fun _ _ _ i _ => N - (intOf i).toNat)
  case atStart => exact ⟨0, .slice none 0 0, .slice none 0 0, Nat.zero_le _, rfl, rfl, rfl, Lib.hid ⟨own_nil _ _ _, own_nil _ _ _, fun q hq => by simp [Value.ownBlock] at hq, Nat.le_refl _⟩, Lib.hid (Below.refl _ _)⟩
  case round =>
    obtain ⟨k, v1, v2, hk, rfl, rfl, rfl, HT, HBW⟩ := hrel
    obtain ⟨A1, k1, rfl⟩ := own_slice HT.out.1
    obtain ⟨A2, k2, rfl⟩ := own_slice HT.out.2.1
    by_cases hlt : k < N
    · have hbl : k < bs.length := by rw [HBL.out]; exact hlt
      obtain ⟨b0, o0, hA0, hb0, c0'⟩ := HRD.out.at_ hlt
      have c0 := (HBW.out.cell (p := ⟨b0, o0 + k, none⟩) (by rw [HSZ.out]; exact hb0)).trans c0'
      have hx := HLT.out (bs.getD k 0) (by rw [List.getD_eq_getElem?_getD, List.getElem?_eq_getElem hbl]; simp)
      have hnt := nmap_take bs k hbl
      have hw := HBW.out.size
      obtain ⟨rfl, rfl⟩ : w.heap.size = b0 ∧ 0 = o0 := by simpa using hA0
      rw [Nat.zero_add] at c0
      obtain ⟨x, hxe⟩ : ∃ x, x = bs.getD k 0 := ⟨_, rfl⟩
      rw [← hxe] at c0 hx hnt
      have HNT := Lib.hid hnt
      have hcx : IntKind.i64.wrap (x : Int) = (x : Int) := IntWalk.i64_in _ (by omega)
      have hlt' : (k : Int) < (N : Int) := by omega
      clear hnt hxe hbl c0' hA0
      go_wp2_with (first
        | (at_builtin; refine wpList_twoS1 _ (by rfl) _ _ (by rfl) W1 (x : Int) HT.out HBW.out (by omega) (by rfl) (by rfl) ?_; intro g1 cp1 wa hta hba; have HTA := Lib.hid hta; have HBA1 := Lib.hid hba; clear hta hba)
        | (at_builtin; refine wpList_twoS2 _ (by rfl) _ _ (by rfl) W1 8 HTA.out HBA1.out (by omega) (by rfl) (by rfl) ?_; intro g2 cp2 wb htb hbb; have HTB := Lib.hid htb; have HBB := Lib.hid hbb; clear htb hbb))
      exact ⟨⟨k + 1, _, _, by omega, by go_num, rfl, rfl, Lib.hid (by rw [HNT.out, List.replicate_succ']; exact HTB.out), HBB⟩, by simp [intOf]; omega⟩
    · obtain rfl : k = N := by omega
      have hall : bs.take k = bs := List.take_of_length_le (by rw [HBL.out]; omega)
      have ht := HT.out
      rw [hall] at ht
      have hsp := opened_spread bs
      rw [HBL.out] at hsp
      have hbd : (Ph.spread (bs.map fun (x : Nat) => (x : Int)) (List.replicate k 8)).length ≤ 8000 := by
        rw [hsp, Ph.opened_length, HBL.out]; omega
      have HSP := Lib.hid (spread_any A1 A2 k k1 k2 (bs.map fun (x : Nat) => (x : Int)) (List.replicate k 8) wr wr.heap.size (RdI.own ht.1) (RdI.own ht.2.1) (Nat.le_refl _) (by omega) (fun x hx => by
        obtain ⟨y, hy, rfl⟩ := List.mem_map.1 hx
        have := HLT.out y hy
        omega) (fun x hx => by rw [List.eq_of_mem_replicate hx]; omega) (by omega))
      rw [hsp] at HSP
      have HBX := Lib.hid (HBA.out.trans (HBW.out.mono (by have := HSZ.out; omega)))
      clear hall ht hsp hbd
      go_wp2_with fail
      refine HSP.out.mono ?_
      rintro e w9 ⟨A9, c9, rfl, ho, hb⟩
      have HO9 := Lib.hid (own_more ho HBX.out.size)
      have HB9 := Lib.hid (below_on HBX.out hb)
      clear ho hb
      go_wp2_with fail
      go_ret
      exact ⟨A9, c9, rfl, HO9.out, HB9.out⟩
theorem contains_any (A : Option Addr) (n c : Nat) (l : List Int) (x : Int) (w : World) (B : Nat) (h : RdI w B A n l) (hn : n ≤ 100000000000000) :
    Calls Tryz.prog 105 #[.slice A n c, .int .i64 x] w fun e w' => e = .returned (.bool (l.contains x)) ∧ w = w' := by
  have hl := h.len
  rcases Nat.eq_zero_or_pos n with h0 | h0
  · subst h0
    have : l = [] := List.length_eq_zero_iff.1 hl
    subst this
    refine (Tryz.slices_Contains_int_empty A c x w).mono ?_
    rintro e w' ⟨rfl, rfl⟩
    exact ⟨rfl, rfl⟩
  · obtain ⟨b, off, rfl, _, _⟩ := h.at_ h0
    refine (Tryz.slices_Contains_int b off n c l x w (by omega) (by omega) (fun j hj => ?_)).mono ?_
    · obtain ⟨b', off', hA, _, hc⟩ := h.at_ (k := j) (by omega)
      obtain ⟨rfl, rfl⟩ : b = b' ∧ off = off' := by simpa using hA
      exact hc
    · rintro e w' ⟨rfl, rfl⟩
      exact ⟨by rw [List.take_of_length_le (by omega)], rfl⟩
/-- What is wrong with bytes as so many bits. -/
def wbitsErr (b : List Nat) (m : Int) : Int := if m < 0 ∨ 400 < m then 1 else if (b.length : Int) ≠ (m + 7) / 8 then 3 else if ((Ph.opened b).drop m.toNat).contains 1 = true then 2 else 0
def wbitsL (b : List Nat) (m : Int) : List Int := if wbitsErr b m = 0 then (Ph.opened b).take m.toNat else []
end Go.Proofs.YtmohilfebgahoaaGreatDoor
/- The package width there and back: plain facts about what it tells. -/
namespace Go.Proofs.YtmohilfebgahoaaGreatDoor
open Go.RowKit

theorem putErr_zero {l ws : List Int} (h : Ph.putErr l ws = 0) : l.length = ws.length ∧ (List.zipWith Ph.goes l ws).all id = true ∧ (Ph.spread l ws).length ≤ 400 := by
  unfold Ph.putErr at h
  by_cases h1 : l.length = ws.length
  · rw [if_neg (by omega)] at h
    by_cases h2 : (List.zipWith Ph.goes l ws).all id = true
    · rw [if_pos h2] at h
      by_cases h3 : 400 < (Ph.spread l ws).length
      · rw [if_pos h3] at h; omega
      · exact ⟨h1, h2, by omega⟩
    · rw [if_neg h2] at h; omega
  · rw [if_pos h1] at h; omega
theorem putErr_of {l ws : List Int} (h1 : l.length = ws.length) (h2 : (List.zipWith Ph.goes l ws).all id = true) (h3 : (Ph.spread l ws).length ≤ 400) : Ph.putErr l ws = 0 := by
  unfold Ph.putErr
  rw [if_neg (by omega), if_pos h2, if_neg (by omega)]
theorem goes_wide : ∀ {l ws : List Int}, l.length = ws.length → (List.zipWith Ph.goes l ws).all id = true → ∀ x ∈ ws, 0 ≤ x ∧ x ≤ 20
  | [], [], _, _ => fun x hx => by cases hx
  | [], _ :: _, h, _ => by simp at h
  | _ :: _, [], h, _ => by simp at h
  | n :: l, w :: ws, h, ha => by
    rw [List.zipWith_cons_cons, List.all_cons, Bool.and_eq_true] at ha
    intro x hx
    rcases List.mem_cons.1 hx with e | e
    · subst e
      have := ha.1
      unfold Ph.goes at this
      simp at this
      omega
    · exact goes_wide (by simpa using h) ha.2 x e
/-- Put, then Get. -/
theorem get_put {l ws : List Int} (h : Ph.putErr l ws = 0) : getErr (Ph.spread l ws) ws = 0 ∧ Ph.gather (Ph.spread l ws) ws = l := by
  obtain ⟨h1, h2, h3⟩ := putErr_zero h
  have hw := goes_wide h1 h2
  refine ⟨getErr_zero.2 ⟨bitsErr_zero.2 ⟨h3, Ph.spread_isBits _ _⟩, hw, ?_⟩, Ph.gather_spread _ _ h1 h2⟩
  exact (Ph.spread_length l ws h1 fun x hx => (hw x hx).1).symm
/-- Get, then Put. -/
theorem put_get {b ws : List Int} (h : getErr b ws = 0) : Ph.putErr (Ph.gather b ws) ws = 0 ∧ Ph.spread (Ph.gather b ws) ws = b := by
  obtain ⟨h1, h2, h3⟩ := getErr_zero.1 h
  have hb := bitsErr_zero.1 h1
  obtain ⟨e, ha⟩ := Ph.spread_gather ws b hb.2 h2 h3
  exact ⟨putErr_of (Ph.gather_length ws b) ha (by rw [e]; exact hb.1), e⟩
/-- Octets, then Bits. -/
theorem bits_octets {b : List Int} (h : bitsErr b = 0) : wbitsErr (bytesOf (octS b)) b.length = 0 ∧ wbitsL (bytesOf (octS b)) b.length = b ∧ (octS b).size ≤ 1000 := by
  have hb := bitsErr_zero.1 h
  have ho : bytesOf (octS b) = Ph.packed b := by unfold octS; rw [if_pos h, bytesOf_strB (Ph.packed_lt hb.2)]
  have hs : (octS b).size ≤ 1000 := by rw [← bytesOf_length, ho, Ph.packed_length]; omega
  have hop := Ph.opened_packed b.length b (Nat.le_refl _) hb.2
  have hE : wbitsErr (bytesOf (octS b)) b.length = 0 := by
    unfold wbitsErr
    rw [if_neg (by omega), ho, if_neg (by rw [Ph.packed_length]; omega), hop, Int.toNat_natCast, List.drop_left, if_neg]
    intro hc
    have := List.eq_of_mem_replicate (List.contains_iff_mem.1 hc)
    omega
  refine ⟨hE, ?_, hs⟩
  unfold wbitsL
  rw [if_pos hE, ho, hop, Int.toNat_natCast, List.take_left]
theorem opened_isBits (b : List Nat) : Ph.isBits (Ph.opened b) := fun x hx => by
  unfold Ph.opened at hx
  obtain ⟨y, _, hy⟩ := List.mem_flatMap.1 hx
  exact Ph.bitsW_bit _ _ _ hy
/-- Bits, then Octets. -/
theorem octets_bits {s : ByteArray} {m : Int} (h : wbitsErr (bytesOf s) m = 0) : bitsErr (wbitsL (bytesOf s) m) = 0 ∧ octS (wbitsL (bytesOf s) m) = s ∧ ((wbitsL (bytesOf s) m).length : Int) = m := by
  have h' := h
  unfold wbitsErr at h
  by_cases h1 : m < 0 ∨ 400 < m
  · rw [if_pos h1] at h; omega
  · rw [if_neg h1] at h
    by_cases h2 : ((bytesOf s).length : Int) ≠ (m + 7) / 8
    · rw [if_pos h2] at h; omega
    · rw [if_neg h2] at h
      by_cases h3 : ((Ph.opened (bytesOf s)).drop m.toNat).contains 1 = true
      · rw [if_pos h3] at h; omega
      · have hL : wbitsL (bytesOf s) m = (Ph.opened (bytesOf s)).take m.toNat := by unfold wbitsL; rw [if_pos h']
        have hol := Ph.opened_length (bytesOf s)
        have hlen : ((wbitsL (bytesOf s) m).length : Int) = m := by rw [hL, List.length_take]; omega
        have hib := opened_isBits (bytesOf s)
        have hE : bitsErr (wbitsL (bytesOf s) m) = 0 := bitsErr_zero.2 ⟨by omega, by rw [hL]; exact fun x hx => hib x (List.mem_of_mem_take hx)⟩
        refine ⟨hE, ?_, hlen⟩
        unfold octS
        rw [if_pos hE, hL, Ph.packed_opened (bytesOf s) m.toNat (bytesOf_lt s) (by omega) (fun x hx => ?_), strB_bytesOf]
        rcases hib x (List.mem_of_mem_drop hx) with e | e
        · exact e
        · subst e; exact absurd (List.contains_iff_mem.2 hx) h3
theorem own_capM {w : World} {base : Nat} {e : TypeId} {A : Option Addr} {n c : Nat} {xs : List Value} (h : w.ownsRow base e 1 (.slice A n c) n xs) : c ≤ 9223372036854775807 := by
  rcases h.2 with ⟨hv, _⟩ | ⟨g, cap, cur, hv, _, _, _, hm, _⟩
  · injection hv with _ _ h3; omega
  · injection hv with _ _ h3
    unfold maxLen at hm
    omega
/-- What is told, opened. -/
theorem ToldL.any {E : Int} {l : List Int} {w w' : World} {e : Ending} (h : ToldL 3 E l w e w') : ∃ A n c, e = .returned (.tuple #[.slice A n c, errV E]) ∧ n = l.length ∧ (n ≤ c ∧ c ≤ 9223372036854775807) ∧ RdI w' w'.heap.size A n l ∧ Below w.heap.size w w' := by
  obtain ⟨A, c, he, ho, hb⟩ := h
  exact ⟨A, l.length, c, he, rfl, ⟨own_cap ho, own_capM ho⟩, RdI.own ho, hb⟩
end Go.Proofs.YtmohilfebgahoaaGreatDoor
