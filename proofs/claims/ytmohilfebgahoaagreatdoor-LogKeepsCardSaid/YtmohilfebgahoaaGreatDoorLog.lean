/- Walks: frames kept (chapter 19): a record of bytes. -/
import Derived.Test.YtmohilfebgahoaaGreatDoorHide
import Derived.Test.YtmohilfebgahoaaGreatDoorBytes
import Derived.Test.YtmohilfebgahoaaGreatDoorStrs
import Derived.Test.YtmohilfebgahoaaGreatDoorShelf
import Derived.Lib.ItoaNum
import Derived.Lib.ItoaMem
import Derived.Lib.AppendIntMem
import Derived.Lib.QuietBelow
import Derived.Lib.Builder
import Derived.Laws.Externs
import Derived.Shelf.Strings.BuilderK
namespace Go.Proofs.YtmohilfebgahoaaGreatDoor
open Go.RowKit

/-- A record of bytes: each as a number, behind a dot. -/
def recN (b : List Nat) : List UInt8 := b.flatMap fun c => 46 :: Lib.decDigits c
def recL (b : List Nat) : List UInt8 := recN b ++ [46, 10]
theorem digit_ne : ∀ d : Fin 10, UInt8.ofNat (48 + d.1) ≠ 10 := by decide
theorem decDigits_ne : ∀ u : Nat, ∀ x ∈ Lib.decDigits u, x ≠ 10
  | u, x, hx => by
    rw [Lib.decDigits] at hx
    split at hx
    · rename_i h
      rw [List.mem_singleton] at hx
      subst hx
      exact digit_ne ⟨u, h⟩
    · rename_i h
      rcases List.mem_append.1 hx with h1 | h1
      · exact decDigits_ne (u / 10) x h1
      · rw [List.mem_singleton] at h1
        subst h1
        exact digit_ne ⟨u % 10, Nat.mod_lt _ (by omega)⟩
termination_by u => u
decreasing_by omega
theorem decDigits_few {u : Nat} (h : u < 256) : (Lib.decDigits u).length ≤ 3 := by
  rw [Lib.decDigits]
  split
  · simp
  · rw [List.length_append, Lib.decDigits]
    split
    · simp
    · rw [List.length_append, Lib.decDigits, dif_pos (by omega)]
      simp
theorem recN_snoc (b : List Nat) (c : Nat) : recN (b ++ [c]) = recN b ++ (46 :: Lib.decDigits c) := by unfold recN; rw [List.flatMap_append]; simp
theorem recN_ne (b : List Nat) : ∀ x ∈ recN b, x ≠ 10 := by
  intro x hx
  unfold recN at hx
  obtain ⟨c, _, h⟩ := List.mem_flatMap.1 hx
  rcases List.mem_cons.1 h with rfl | h
  · decide
  · exact decDigits_ne c x h
theorem recL_isRec (b : List Nat) : Ph.isRec (recL b) := by
  refine ⟨recN b ++ [46], by unfold recL; simp, fun x hx => ?_⟩
  rcases List.mem_append.1 hx with h | h
  · exact recN_ne b x h
  · rw [List.mem_singleton] at h; subst h; decide
theorem recN_few : ∀ {b : List Nat}, (∀ x ∈ b, x < 256) → (recN b).length ≤ 4 * b.length
  | [], _ => by simp [recN]
  | c :: b, h => by
    have h1 := recN_few (b := b) fun x hx => h x (by simp [hx])
    have h2 := decDigits_few (h c (by simp))
    have e : recN (c :: b) = (46 :: Lib.decDigits c) ++ recN b := rfl
    rw [e, List.length_append, List.length_cons, List.length_cons]
    omega
theorem recL_few {b : List Nat} (h : ∀ x ∈ b, x < 256) : (recL b).length ≤ 4 * b.length + 2 := by
  have := recN_few h
  unfold recL
  rw [List.length_append]
  simp
  omega
theorem recL_two (b : List Nat) : 2 ≤ (recL b).length := by unfold recL; simp
/-- A string of bytes. -/
def strL (l : List UInt8) : ByteArray := ⟨l.toArray⟩
theorem strL_append (a b : List UInt8) : strL a ++ strL b = strL (a ++ b) := by
  unfold strL
  apply ByteArray.ext
  simp
theorem strL_size (l : List UInt8) : (strL l).size = l.length := by unfold strL; simp [ByteArray.size]
/-- A builder at block b whose bytes lie from Bx on. -/
def BuildX (w : World) (b Bx : Nat) (l : List UInt8) : Prop :=
  ∃ p v, (p = .pointer none ∨ p = .pointer (some ⟨b, 0, none⟩)) ∧ w.heap[b]? = some (.cells #[p, v] 105 (0, 0)) ∧ w.ownsRowF Bx 5 1 v l.length (Lib.byteCells l)
theorem tab_below {n : String} {g : Nat} {k : IntKind} {zs : List Int} {w w' : World} (hg : Tryz.prog.globalNamed n = some g) (h : Lib.TabIs Tryz.prog w n k zs) (hb : Below w.heap.size w w') : Lib.TabIs Tryz.prog w' n k zs := by
  unfold Lib.TabIs World.var? at h ⊢
  rw [hg] at h ⊢
  simp only [Option.bind_some] at h ⊢
  have hlt : g < w.heap.size := by
    rcases Nat.lt_or_ge g w.heap.size with h' | h'
    · exact h'
    · rw [Array.getElem?_eq_none h'] at h; cases h
  rw [hb.block g hlt]
  exact h
theorem rowF_kept {w w' : World} {base n s : Nat} {e : TypeId} {v : Value} {xs : List Value} (hr : w.ownsRowF base e s v n xs) (hk : ∀ k, v.ownBlock = some k → w'.heap[k]? = w.heap[k]?) : w'.ownsRowF base e s v n xs := by
  refine ⟨hr.1, ?_⟩
  rcases hr.2 with h0 | ⟨g, cap, cur, fz, hv, hb, hh, r⟩
  · exact .inl h0
  · exact .inr ⟨g, cap, cur, fz, hv, hb, by rw [hk g (by rw [hv]; rfl)]; exact hh, r⟩
theorem rowF_lt {w : World} {base n s : Nat} {e : TypeId} {v : Value} {xs : List Value} (hr : w.ownsRowF base e s v n xs) : ∀ k, v.ownBlock = some k → base ≤ k ∧ k < w.heap.size := by
  rcases hr.2 with ⟨h0, _⟩ | ⟨g, cap, cur, fz, hv, hb, hh, r⟩
  · intro k hk; rw [h0] at hk; simp [Value.ownBlock] at hk
  · intro k hk
    rw [hv] at hk
    obtain rfl : g = k := by simpa [Value.ownBlock] using hk
    exact ⟨hb, (Array.getElem?_eq_some_iff.1 hh).1⟩
theorem builder_size : (Tryz.prog.info? 105).map (·.size) = some 2 := by kernel_rfl
theorem builder_lies : liesAt Tryz.prog Tryz.prog.depth 105 (2 / Tryz.prog.cellsOf 105) 0 105 1 = true := by kernel_rfl
set_option maxRecDepth 100000 in
theorem copyCheck_used (b : Nat) (w : World) (h0 : w.cell? ⟨b, 0, none⟩ = some (.pointer (some ⟨b, 0, none⟩))) :
    Calls Tryz.prog 106 #[.pointer (some ⟨b, 0, none⟩)] w fun e w' => e = .returned (.tuple #[]) ∧ w' = w := by
  obtain ⟨j, hj, _⟩ := Option.map_eq_some_iff.1 builder_size
  go_enter Tryz.func106, Tryz.ntmps106
  go_wp2
  rw [Lib.run_neq_ptr_same w _ Tryz.underlying102 hj]
  go_wp2
  go_end0
  exact ⟨rfl, rfl⟩
set_option maxRecDepth 100000 in
theorem copyCheck_fresh (b : Nat) (w : World) (h0 : w.cell? ⟨b, 0, none⟩ = some (.pointer none)) (hsh : w.shape? b = some (105, 2)) (hf : w.frozen? ⟨b, 0, none⟩ = false) :
    Calls Tryz.prog 106 #[.pointer (some ⟨b, 0, none⟩)] w fun e w' => e = .returned (.tuple #[]) ∧ w' = w.setCell ⟨b, 0, none⟩ (.pointer (some ⟨b, 0, none⟩)) := by
  obtain ⟨j, hj, hjs⟩ := Option.map_eq_some_iff.1 builder_size
  go_enter Tryz.func106, Tryz.ntmps106
  go_wp2
  rw [Lib.run_to_unsafe w ⟨b, 0, none⟩ Tryz.underlying102 Tryz.underlying136 hj (by rw [hjs]; decide) hsh (Nat.zero_lt_succ 1)]
  simp only [Result.andThen]
  rw [Oper.upon_value]
  go_wp2
  rw [run_callFunc_extern Tryz.func130 (by kernel_rfl) (by kernel_rfl) (by kernel_rfl) (e := Extern.AbiNoEscape.same) (by kernel_rfl)]
  rw [Lib.run_noEscape]
  simp only [Result.andThen]
  rw [Oper.upon_value]
  go_wp2
  rw [Lib.run_from_unsafe w ⟨b, 0, none⟩ Tryz.underlying136 Tryz.underlying102 hj hsh builder_lies]
  simp only [Result.andThen]
  rw [Oper.upon_value]
  go_wp2
  go_end0
  exact ⟨rfl, rfl⟩
theorem rowF_slice {w : World} {base n s : Nat} {e : TypeId} {v : Value} {xs : List Value} (hr : w.ownsRowF base e s v n xs) : ∃ ao n' cap, v = .slice ao n' cap := by
  rcases hr.2 with ⟨hv, _⟩ | ⟨g, cap, cur, fz, hv, _⟩
  · exact ⟨_, _, _, hv⟩
  · exact ⟨_, _, _, hv⟩
theorem copyCheck_any (b Bx n : Nat) (p v : Value) (xs : List Value) (w : World) (hp : p = .pointer none ∨ p = .pointer (some ⟨b, 0, none⟩)) (hbk : w.heap[b]? = some (.cells #[p, v] 105 (0, 0))) (hown : w.ownsRowF Bx 5 1 v n xs) (hb : b < Bx) :
    Calls Tryz.prog 106 #[.pointer (some ⟨b, 0, none⟩)] w fun e w' => e = .returned (.tuple #[]) ∧ w'.heap[b]? = some (.cells #[.pointer (some ⟨b, 0, none⟩), v] 105 (0, 0)) ∧ w'.ownsRowF Bx 5 1 v n xs ∧ KeptBut (fun k => k = b ∨ Bx ≤ k) w w' ∧ w'.heap.size = w.heap.size := by
  rcases hp with rfl | rfl
  · refine (copyCheck_fresh b w (cell_of_row w b 0 _ _ (0, 0) hbk) (by unfold World.shape?; rw [hbk]; rfl) (frozen_of_row w b 0 _ _ hbk)).mono ?_
    rintro e w' ⟨rfl, rfl⟩
    refine ⟨rfl, ?_, rowF_kept hown fun k hk => heap_setCell_other w ⟨b, 0, none⟩ k _ (fun e => by have := (rowF_lt hown k hk).1; have e' : k = b := e; omega), KeptBut.setCell (S := fun k => k = b ∨ Bx ≤ k) (KeptBut.refl _ w) (p := ⟨b, 0, none⟩) (.inl rfl) _, World.size_setCell _ _ _⟩
    rw [heap_setCell_same w b 0 _ _ _ hbk]; rfl
  · refine (copyCheck_used b w (cell_of_row w b 0 _ _ (0, 0) hbk)).mono ?_
    rintro e w' ⟨rfl, rfl⟩
    exact ⟨rfl, hbk, hown, KeptBut.refl _ _, rfl⟩
theorem byte_info2 : (Tryz.prog.info? 5).map (fun i => (i.zero, i.size, i.bytes)) = some (some (.int .u8 0), 1, 1) := by kernel_rfl
theorem keep_b {w1 w2 : World} {b : Nat} {v : Value} {o : Obj} (hb : w1.heap[b]? = some o) (hg : w1.grownBy w2 v.ownBlock) (hv : ∀ q, v.ownBlock = some q → b < q) : w2.heap[b]? = some o := by
  rw [hg.block b (Array.getElem?_eq_some_iff.1 hb).1 (fun e => by have := hv b e.symm; omega)]
  exact hb
set_option maxHeartbeats 2000000 in
set_option maxRecDepth 100000 in
theorem writeS_any (b Bx : Nat) (l : List UInt8) (s : ByteArray) (w : World) (h : BuildX w b Bx l) (hb : b < Bx) (hB : Bx ≤ w.heap.size) (hlen : l.length + s.size ≤ 100000) :
    Calls Tryz.prog 64 #[.pointer (some ⟨b, 0, none⟩), .string s] w fun e w' => e = .returned (.tuple #[.int .i64 s.size, .nilIface]) ∧ BuildX w' b Bx (l ++ s.data.toList) ∧ KeptBut (fun k => k = b ∨ Bx ≤ k) w w' := by
  obtain ⟨p, v, hp, hbk, hown⟩ := h
  have HCC := Lib.hid (copyCheck_any b Bx l.length p v _ w hp hbk hown hb)
  obtain ⟨i0, hi, hz0, hz1, hz2⟩ := info_parts byte_info2
  clear hp hbk hown
  go_enter Tryz.func64, Tryz.ntmps64
  go_wp2_with fail
  refine HCC.out.mono ?_
  rintro e w1 ⟨rfl, hbk, hown, hk, hsz⟩
  have c1 : w1.cell? ⟨b, 1, none⟩ = some v := cell_of_row w1 b 1 _ _ (0, 0) hbk
  have HOW := Lib.hid hown
  have HBK := Lib.hid hbk
  have HKK := Lib.hid hk
  have HSZ := Lib.hid hsz
  clear hown hbk hk hsz HCC
  go_wp2_with (at_builtin; refine Lib.wpList_append_own_stringF _ (by rfl) _ _ 103 9 (by rfl) Bx 5 i0 Tryz.underlying103 Tryz.underlying9 hi hz0 hz1 hz2 _ _ _ (by rfl) HOW.out s (by rfl) (by unfold maxLen; omega) (by omega) (by have := HSZ.out; omega) ?_; intro v' w2 hown' hgrow _; obtain ⟨ao, n', cap, rfl⟩ := rowF_slice hown'; have hb2 := keep_b HBK.out hgrow (fun q hq => Nat.lt_of_lt_of_le hb (rowF_lt HOW.out q hq).1); have d1 := cell_of_row w2 b 1 _ _ (0, 0) hb2; have f1 := frozen_of_row w2 b 1 _ _ hb2; have HB2 := Lib.hid hb2; have HG := Lib.hid hgrow; have HO2 := Lib.hid hown'; clear hb2 hgrow hown' c1)
  have HK2 : Hid (KeptBut (fun k => k = b ∨ Bx ≤ k) w w2) := Lib.hid ⟨HG.out.os.trans HKK.out.os, HG.out.tape.trans HKK.out.tape, HG.out.output.trans HKK.out.output, Nat.le_trans HKK.out.size HG.out.size, fun k hk hs => by
    rw [HG.out.block k (Nat.lt_of_lt_of_le hk HKK.out.size) (fun e => hs (.inr (rowF_lt HOW.out k e.symm).1))]
    exact HKK.out.block k hk hs⟩
  go_ret2
  refine ⟨rfl, ⟨.pointer (some ⟨b, 0, none⟩), .slice ao n' cap, .inr rfl, ?_, ?_⟩, KeptBut.setCell (S := fun k => k = b ∨ Bx ≤ k) HK2.out (p := ⟨b, 1, none⟩) (.inl rfl) _⟩
  · rw [heap_setCell_same w2 b 1 _ _ _ HB2.out]; rfl
  · have h1 := rowF_kept (w' := w2.setCell ⟨b, 1, none⟩ (.slice ao n' cap)) HO2.out fun k hk => heap_setCell_other w2 ⟨b, 1, none⟩ k _ (fun e => by have := (rowF_lt HO2.out k hk).1; have e' : k = b := e; omega)
    rw [List.length_append, Lib.byteCells_append, ← Lib.strCells_eq]
    exact h1
theorem KeptBut.cell {S : Nat → Prop} {W w1 : World} (h : KeptBut S W w1) {p : Addr} (hp : p.block < W.heap.size) (hs : ¬ S p.block) : w1.cell? p = W.cell? p := World.cell?_of_block (h.block p.block hp hs)
set_option maxHeartbeats 4000000 in
set_option maxRecDepth 100000 in
theorem record_any (b : ByteArray) (w : World) (hs : b.size ≤ 1000) (htab : Lib.TabIs Tryz.prog w "internal/strconv.uint64pow10" .u64 Lib.pow10Tab) :
    Calls Tryz.prog 28 #[.string b] w fun e w' => e = .returned (.string (strL (recL (bytesOf b)))) ∧ Below w.heap.size w w' := by
  obtain ⟨W1, hW1⟩ : ∃ W1, W1 = w.alloc (.cells #[.pointer none, .slice none 0 0] 105) := ⟨_, rfl⟩
  obtain ⟨cc, oo, hcv, hcc, hrd⟩ := conv_bytes b W1
  have HBL := Lib.hid (bytesOf_length b)
  have HLT := Lib.hid (bytesOf_lt b)
  have hs1 : W1.heap.size = w.heap.size + 1 := by rw [hW1]; simp
  have hbk1 : W1.heap[w.heap.size]? = some (.cells #[.pointer none, .slice none 0 0] 105 (0, 0)) := by rw [hW1]; exact heap_alloc_new w _
  obtain ⟨W2, hW2⟩ : ∃ W2, W2 = W1.drew.alloc oo := ⟨_, rfl⟩
  have hs2 : W2.heap.size = w.heap.size + 2 := by rw [hW2]; simp [hs1]
  have hbel : Below W1.heap.size W1 W2 := by rw [hW2]; exact (Below.refl _ _).drew.alloc (Nat.le_refl _) oo
  have HB2 : Hid (Below w.heap.size w W2) := Lib.hid (by
    have h1 : Below w.heap.size w W1 := by rw [hW1]; exact below_alloc0 _ _
    exact below_on h1 hbel)
  rw [← hW2] at hcv hrd
  obtain ⟨B0, hB0⟩ : ∃ q, q = w.heap.size := ⟨_, rfl⟩
  have HX2 : Hid (BuildX W2 B0 (B0 + 2) []) := Lib.hid ⟨_, _, .inl rfl, (by rw [hB0, hbel.block w.heap.size (by omega)]; exact hbk1), rfl, .inl ⟨rfl, rfl⟩⟩
  rw [hs1, ← hB0] at hcv hrd
  have hsz2 : W2.heap.size = B0 + 2 := by omega
  have HTAB := Lib.hid htab
  obtain ⟨gn, hgn⟩ : ∃ g, Tryz.prog.globalNamed "internal/strconv.uint64pow10" = some g := by
    cases hg : Tryz.prog.globalNamed "internal/strconv.uint64pow10" with
    | none => unfold Lib.TabIs World.var? at htab; rw [hg] at htab; cases htab
    | some g => exact ⟨g, rfl⟩
  have HTB : Hid (∀ W, Below w.heap.size w W → Lib.TabIs Tryz.prog W "internal/strconv.uint64pow10" .u64 Lib.pow10Tab) := Lib.hid fun W h => tab_below hgn HTAB.out h
  have HIT := Lib.hid fun (x : Nat) W (h : Below w.heap.size w W) (hx : x < 256) => Tryz.strconv_Itoa (x : Int) (by omega) (by omega) W (HTB.out W h)
  have HBW0 : Hid (B0 = w.heap.size) := Lib.hid hB0
  have HRD := Lib.hid hrd
  obtain ⟨bs, hbs⟩ : ∃ bs, bs = bytesOf b := ⟨_, rfl⟩
  rw [← hbs] at HRD HBL HLT ⊢
  obtain ⟨N, hN⟩ : ∃ N, N = b.size := ⟨_, rfl⟩
  rw [← hN] at hcv hcc HRD HBL hs
  have HW1 := Lib.hid hW1
  have HSZ2 := Lib.hid hsz2
  clear hrd hbs hs1 hbk1 hW2 hs2 hbel htab hgn hN hW1 hB0 hsz2
  go_enter Tryz.func28, Tryz.ntmps28
  go_wp2_with fail
  rw [← HW1.out, ← HBW0.out, hcv]
  simp only [Result.andThen]
  rw [Oper.upon_value]
  go_wp2_with fail
  clear hcv
  go_loopw [5, 9] (fun _ i wr => ∃ k : Nat, k ≤ N ∧ i = .int .i64 k ∧ Hid (BuildX wr B0 (B0 + 2) (recN (bs.take k))) ∧ Hid (KeptBut (fun j => j = B0 ∨ B0 + 2 ≤ j) W2 wr)) (fun _ i _ => N - (intOf i).toNat)
  case atStart => exact ⟨0, Nat.zero_le _, rfl, by simpa [recN] using HX2, Lib.hid (KeptBut.refl _ _)⟩
  case round =>
    obtain ⟨k, hk, rfl, HX, HK⟩ := hrel
    have HBW : Hid (Below w.heap.size w wr) := Lib.hid (HB2.out.trans (HK.out.below (by have := HBW0.out; have := HSZ2.out; omega) (by have := HBW0.out; rintro j (rfl | h) <;> omega)))
    by_cases hlt : k < N
    · have hbl : k < bs.length := by rw [HBL.out]; exact hlt
      obtain ⟨b0, o0, hA0, hb0, c0'⟩ := HRD.out.at_ hlt
      obtain ⟨rfl, rfl⟩ : B0 + 1 = b0 ∧ 0 = o0 := by simpa using hA0
      have c0 := (HK.out.cell (p := ⟨B0 + 1, 0 + k, none⟩) (by show B0 + 1 < _; have := HSZ2.out; omega) (by
        rintro (h | h)
        · have h' : B0 + 1 = B0 := h
          omega
        · have h' : B0 + 2 ≤ B0 + 1 := h
          omega)).trans c0'
      rw [Nat.zero_add] at c0
      have hx := HLT.out (bs.getD k 0) (by rw [List.getD_eq_getElem?_getD, List.getElem?_eq_getElem hbl]; simp)
      have hst : recN (bs.take (k + 1)) = recN (bs.take k) ++ (46 :: Lib.decDigits (bs.getD k 0)) := by
        rw [List.take_succ_eq_append_getElem hbl, recN_snoc, List.getD_eq_getElem?_getD, List.getElem?_eq_getElem hbl]; rfl
      have hfew := recN_few (b := bs.take k) fun x hx => HLT.out x (List.mem_of_mem_take hx)
      rw [List.length_take] at hfew
      obtain ⟨x, hxe⟩ : ∃ x, x = bs.getD k 0 := ⟨_, rfl⟩
      rw [← hxe] at c0 hx hst
      have hd3 := decDigits_few hx
      have HST := Lib.hid hst
      have HI := Lib.hid (HIT.out x wr HBW.out hx)
      rw [Lib.itoa_nonneg] at HI
      obtain ⟨ds, hds⟩ : ∃ ds, ds = Lib.decDigits x := ⟨_, rfl⟩
      rw [← hds] at HI HST hd3
      obtain ⟨R, hR⟩ : ∃ R, R = recN (bs.take k) := ⟨_, rfl⟩
      rw [← hR] at HX HST hfew
      have hcx : IntKind.i64.wrap (x : Int) = (x : Int) := IntWalk.i64_in _ (by omega)
      have hlt' : (k : Int) < (N : Int) := by omega
      have hzs : (⟨ds.toArray⟩ : ByteArray).size ≤ 3 := by rw [show (⟨ds.toArray⟩ : ByteArray).size = ds.length from strL_size ds]; exact hd3
      obtain ⟨DS, hDS⟩ : ∃ D, D = (⟨ds.toArray⟩ : ByteArray) := ⟨_, rfl⟩
      rw [← hDS] at HI hzs
      have HDS := Lib.hid hDS
      have HSX := Lib.hid HK.out.size
      clear hst hxe hds hR hDS hbl c0' hA0
      go_wp2_with fail
      refine HI.out.mono ?_
      rintro e w3 ⟨rfl, kk, os, hw3⟩
      have hb3 : Below wr.heap.size wr w3 := by rw [hw3]; exact Lib.below_grow _ _ (Nat.le_refl _) _ _
      have HX3 : Hid (BuildX w3 B0 (B0 + 2) R) := Lib.hid (by
        obtain ⟨p, v, hp, hh, ho⟩ := HX.out
        exact ⟨p, v, hp, (hb3.block B0 (by have := HSX.out; have := HSZ2.out; omega)).trans hh, rowF_kept ho fun j hj => hb3.block j (rowF_lt ho j hj).2⟩)
      have HK3 := Lib.hid (HK.out.on hb3)
      have HW := Lib.hid (writeS_any B0 (B0 + 2) R (⟨#[46]⟩ ++ DS) w3 HX3.out (by omega) (by have := hb3.size; have := HSX.out; have := HSZ2.out; omega) (by have h1 : (⟨#[46]⟩ : ByteArray).size = 1 := rfl; rw [ByteArray.size_append]; omega))
      have HCAT : Hid ((⟨#[46]⟩ ++ DS : ByteArray).data.toList = 46 :: ds) := Lib.hid (by rw [HDS.out]; simp)
      clear hw3 hb3 HI c0
      go_wp2_with fail
      refine HW.out.mono ?_
      rintro e w4 ⟨rfl, hx4, hk4⟩
      rw [HCAT.out] at hx4
      have HX4 := Lib.hid hx4
      have HK4 := Lib.hid (HK3.out.trans hk4)
      clear hx4 hk4 HW HX3 HK3
      go_wp2_with fail
      go_roundw
      case rel => exact ⟨k + 1, by omega, by go_num, Lib.hid (by rw [HST.out]; exact HX4.out), HK4⟩
      case measure => simp [intOf]; omega
    · obtain rfl : k = N := by omega
      rw [List.take_of_length_le (by rw [HBL.out]; omega)] at HX
      have HS := Lib.hid (Tryz.Builder_String_any_k B0 B0 (recN bs) wr (by
        obtain ⟨p, v, hp, hh, ho⟩ := HX.out
        have ho2 : wr.ownsRowF B0 5 1 v (Lib.byteCells (recN bs)).length (Lib.byteCells (recN bs)) := by
          rw [Lib.byteCells_length]
          refine ⟨ho.1, ?_⟩
          rcases ho.2 with h0 | ⟨g, cap, cur, fz, hv, hb, r⟩
          · exact .inl h0
          · exact .inr ⟨g, cap, cur, fz, hv, by omega, r⟩
        have hne : v.ownBlock ≠ some B0 := fun e => by have := (rowF_lt ho B0 e).1; omega
        rcases hp with rfl | rfl
        · exact .inl ⟨Nat.le_refl _, v, hh, ho2, hne⟩
        · exact .inr ⟨Nat.le_refl _, v, hh, ho2, hne⟩) (by have := HK.out.size; have := HSZ2.out; omega))
      have hcat : (⟨(recN bs).toArray⟩ ++ ⟨#[46, 10]⟩ : ByteArray) = strL (recL bs) := strL_append (recN bs) [46, 10]
      have HCAT := Lib.hid hcat
      obtain ⟨RS, hRS⟩ : ∃ R, R = (⟨(recN bs).toArray⟩ : ByteArray) := ⟨_, rfl⟩
      have hfew := recN_few HLT.out
      have hrs : RS.size ≤ 4000 := by rw [hRS, show (⟨(recN bs).toArray⟩ : ByteArray).size = (recN bs).length from strL_size _]; have := HBL.out; omega
      rw [← hRS] at HS HCAT
      clear hcat hRS hfew
      go_wp2_with fail
      refine HS.out.mono ?_
      rintro e w5 ⟨rfl, _, hb5, _⟩
      have HB5 : Hid (Below w.heap.size w w5) := Lib.hid (HBW.out.trans (hb5.mono (by rw [HBW0.out]; exact Nat.le_refl _)))
      clear hb5 HS
      go_wp2_with fail
      go_ret
      exact ⟨by rw [HCAT.out]; rfl, HB5.out⟩
end Go.Proofs.YtmohilfebgahoaaGreatDoor
