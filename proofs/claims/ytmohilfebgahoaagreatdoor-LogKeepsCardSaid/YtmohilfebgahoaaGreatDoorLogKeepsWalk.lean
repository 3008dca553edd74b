/- The walk of the law LogKeeps; first: a log whose bytes are its frames' records; a log beside what was put into it. -/
import Derived.Test.YtmohilfebgahoaaGreatDoorLog3
import Derived.Deep.QuietTactic
import Derived.Test.YtmohilfebgahoaaGreatDoorTold
import Derived.Test.YtmohilfebgahoaaGreatDoorRefPack
import Derived.Test.YtmohilfebgahoaaGreatDoorRefHide
import Derived.Test.YtmohilfebgahoaaGreatDoorOpenS
import Derived.Deep.RegionHeld3
import Derived.Deep.DeepCutAuto
import Derived.Deep.CutBlock
import Derived.Deep.Cut
namespace Go.Proofs.YtmohilfebgahoaaGreatDoor
open Go.RowKit

/-- The records of a log's frames. -/
def recsOf (l : List ByteArray) : List (List UInt8) := l.map fun b => recL (bytesOf b)
theorem recsOf_rec (l : List ByteArray) : ∀ r ∈ recsOf l, Ph.isRec r := fun r hr => by
  obtain ⟨b, _, rfl⟩ := List.mem_map.1 hr
  exact recL_isRec _
theorem recsOf_len (l : List ByteArray) : (recsOf l).length = l.length := by simp [recsOf]
/-- A log's bytes are its frames' records, and what was begun when it stopped. -/
def LogOk (S : LogS) : Prop := (∃ tail, S.bytes = (recsOf S.all).flatten ++ tail ∧ Ph.noNl tail ∧ (S.st = false → tail = [])) ∧ 0 ≤ S.safe ∧ S.safe ≤ S.bytes.length
theorem ok_new : LogOk newS := ⟨⟨[], rfl, fun x hx => (by cases hx), fun _ => rfl⟩, Int.le_refl _, Int.le_refl _⟩
theorem ok_put {S : LogS} (h : LogOk S) (E : Int) (b : ByteArray) : LogOk (putS S E b) := by
  obtain ⟨⟨tail, h1, h2, h3⟩, h4, h5⟩ := h
  unfold putS
  split
  · exact ⟨⟨tail, h1, h2, h3⟩, h4, h5⟩
  · rename_i hn
    have hst : S.st = false := by
      cases hs : S.st with
      | false => rfl
      | true => exact absurd (.inl hs) hn
    have ht := h3 hst
    subst ht
    rw [List.append_nil] at h1
    split
    · refine ⟨⟨(recL (bytesOf b)).take ((recL (bytesOf b)).length / 2), by simp only; rw [h1], ?_, fun h => (by cases h)⟩, h4, ?_⟩
      · exact Ph.rec_part (recL_isRec _) (by have := recL_two (bytesOf b); omega)
      · simp only [List.length_append]; omega
    · refine ⟨⟨[], ?_, fun x hx => (by cases hx), fun _ => rfl⟩, h4, ?_⟩
      · simp only
        rw [h1]
        simp [recsOf]
      · simp only [List.length_append]; omega
theorem ok_sync {S : LogS} (h : LogOk S) : LogOk (syncS S) := by
  obtain ⟨⟨tail, h1, h2, h3⟩, h4, h5⟩ := h
  unfold syncS
  split
  · exact ⟨⟨tail, h1, h2, h3⟩, h4, h5⟩
  · rename_i hn
    have hst : S.st = false := by simpa using hn
    split
    · exact ⟨⟨tail, h1, h2, fun h => (by cases h)⟩, h4, h5⟩
    · exact ⟨⟨tail, h1, h2, fun _ => h3 hst⟩, by simp, by simp⟩
theorem ok_crash (S : LogS) (i : Nat) : LogOk (crashS S (recsOf S.all) i) := by
  refine ⟨⟨[], ?_, fun x hx => (by cases hx), fun _ => rfl⟩, by simp [crashS], by simp [crashS]⟩
  simp [crashS, recsOf, List.map_take]
theorem crash_le (S : LogS) (i : Nat) (h : LogOk S) : (crashS S (recsOf S.all) i).bytes.length ≤ S.bytes.length := by
  obtain ⟨⟨tail, h1, _, _⟩, _⟩ := h
  have h2 := Ph.mark_mono (recsOf S.all) (show i ≤ max i (recsOf S.all).length by omega)
  have h3 : Ph.mark (recsOf S.all) (max i (recsOf S.all).length) = (recsOf S.all).flatten.length := by unfold Ph.mark; rw [List.take_of_length_le (by omega)]
  rw [h1, List.length_append]
  show ((recsOf S.all).take i).flatten.length ≤ _
  unfold Ph.mark at h2 h3
  omega


theorem strs_same (A1 A2 : Option Addr) (n c1 c2 : Nat) (l : List ByteArray) (w : World) (B1 B2 : Nat) (h1 : RdS w B1 A1 n l) (h2 : RdS w B2 A2 n l) (hn : n ≤ 100000000000000) :
    Calls Tryz.prog 16 #[.slice A1 n c1, .slice A2 n c2] w fun e w' => e = .returned (.bool true) ∧ Below w.heap.size w w' := by
  have H1 := Lib.hid h1
  have H2 := Lib.hid h2
  clear h1 h2
  go_enter Tryz.func16, Tryz.ntmps16
  go_wp2_with fail
  go_loopw [5] (fun i wr => ∃ k : Nat, k ≤ n ∧ i = .int .i64 k ∧ Hid (∃ d, wr = w.drewN d)) (fun i _ => n - (intOf i).toNat)
  case atStart => exact ⟨0, Nat.zero_le _, rfl, Lib.hid ⟨0, rfl⟩⟩
  case round =>
    obtain ⟨k, hk, rfl, HD⟩ := hrel
    have HA : Hid (RdS wr B1 A1 n l ∧ RdS wr B2 A2 n l) := Lib.hid (by obtain ⟨d, rfl⟩ := HD.out; exact ⟨H1.out.below ⟨rfl, rfl, rfl, Nat.le_refl _, fun _ _ => rfl⟩, H2.out.below ⟨rfl, rfl, rfl, Nat.le_refl _, fun _ _ => rfl⟩⟩)
    by_cases hlt : k < n
    · obtain ⟨b1, o1, rfl, _, d1⟩ := HA.out.1.at_ hlt
      obtain ⟨b2, o2, hA2, _, d2⟩ := HA.out.2.at_ hlt
      subst hA2
      obtain ⟨x, hx⟩ : ∃ x, x = l.getD k ByteArray.empty := ⟨_, rfl⟩
      rw [← hx] at d1 d2
      have hq := str_eq (rfl : x = x)
      have hlt' : (k : Int) < (n : Int) := by omega
      clear hx
      go_wp2_with fail
      go_quiet (fail)
      go_wp2
      go_roundw
      case rel => exact ⟨k + 1, by omega, by go_num, Lib.hid (by obtain ⟨d, rfl⟩ := HD.out; exact ⟨d + nq, World.drewN_drewN _ _ _⟩)⟩
      case measure => simp [intOf]; omega
    · go_wp2
      go_ret
      obtain ⟨d, rfl⟩ := HD.out
      exact ⟨rfl, ⟨rfl, rfl, rfl, Nat.le_refl _, fun _ _ => rfl⟩⟩
/-- Where a log's records end. -/
def marksOf (l : List ByteArray) : List Int := (List.range (l.length + 1)).map fun i => ((Ph.mark (recsOf l) i : Nat) : Int)
theorem marks_len (l : List ByteArray) : (marksOf l).length = l.length + 1 := by simp [marksOf]
theorem marks_get {l : List ByteArray} {k : Nat} (hk : k ≤ l.length) : (marksOf l).getD k 0 = ((Ph.mark (recsOf l) k : Nat) : Int) := by
  rw [List.getD_eq_getElem?_getD]; unfold marksOf; rw [List.getElem?_map, List.getElem?_range (by omega)]; rfl
theorem mark_take (rs : List (List UInt8)) {i k : Nat} (h : k ≤ i) : Ph.mark (rs.take i) k = Ph.mark rs k := by unfold Ph.mark; rw [List.take_take, Nat.min_eq_left h]
theorem recsOf_take (l : List ByteArray) (i : Nat) : recsOf (l.take i) = (recsOf l).take i := by simp [recsOf, List.map_take]
theorem marks_take {l : List ByteArray} {i : Nat} (hi : i ≤ l.length) : (marksOf l).take (i + 1) = marksOf (l.take i) := by
  unfold marksOf
  rw [← List.map_take, List.take_range, List.length_take, show min (i + 1) (l.length + 1) = i + 1 by omega, show min i l.length + 1 = i + 1 by omega]
  apply List.map_congr_left
  intro k hk
  rw [List.mem_range] at hk
  rw [recsOf_take, mark_take _ (by omega)]
theorem marks_push (l : List ByteArray) (b : ByteArray) : marksOf (l ++ [b]) = marksOf l ++ [(((recsOf (l ++ [b])).flatten.length : Nat) : Int)] := by
  unfold marksOf
  rw [List.length_append, List.length_singleton, List.range_succ, List.map_append]
  congr 1
  · apply List.map_congr_left
    intro k hk
    rw [List.mem_range] at hk
    have : recsOf l = (recsOf (l ++ [b])).take l.length := by rw [← recsOf_take, List.take_left]
    rw [this, mark_take _ (by omega)]
  · have : (recsOf (l ++ [b])).length = l.length + 1 := by rw [recsOf_len]; simp
    simp only [List.map_cons, List.map_nil]
    unfold Ph.mark
    rw [List.take_of_length_le (by omega)]
/-- 'append(v, x)' of one number: what else is left. -/
theorem wpList_pushI {ops : Array Oper} {rest : List Oper} {o : Oper} {a : Act} {Q : Exit → Act → World → Prop} (w : World) (hgd : o.guard = none) (s x : Operand)
    (ho : o.op = .call { callee := .builtin .append, args := #[s, x], argTypes := #[22, 22] })
    (base : Nat) (A : Option Addr) (k c : Nat) (l : List Int) (y : Int) (hown : w.ownsRow base 3 1 (.slice A k c) k (ivals l)) (hbase : base ≤ w.heap.size)
    (hk : k + 1 ≤ 17592186044415) (hs : a.eval s = .slice A k c) (hx : a.eval x = .slice (some ⟨w.heap.size, 0, none⟩) 1 1)
    (h : ∀ g cap w', w'.ownsRow base 3 1 (.slice (some ⟨g, 0, none⟩) (k + 1) cap) (k + 1) (ivals (l ++ [y])) → (w.alloc (.cells #[.int .i64 y] 3)).grownBy w' (Value.slice A k c).ownBlock → wpList Tryz.prog ops Q rest (a.put o.dst (.slice (some ⟨g, 0, none⟩) (k + 1) cap)) w') :
    wpList Tryz.prog ops Q (o :: rest) a (w.alloc (.cells #[.int .i64 y] 3)) := by
  obtain ⟨i0, hi, hz0, hz1, hz2⟩ := info_parts int_info
  refine wpList_append_lies _ hgd s x 22 ho base 3 i0 (.int .i64 0) 1 8 Tryz.underlying22 hi hz0 hz1 hz2 rfl (by omega) _ _ _ hs (hown.alloc _) ⟨w.heap.size, 0, none⟩ 1 1 [.int .i64 y] hx rfl ?_ ?_ (by omega) ?_ ?_ ?_ (w.heap.size + 1) (by simp) ?_
  · intro j u hj
    match j, hj with
    | 0, hj => simp at hj; subst hj; simp [Addr.add]
  · intro u hu
    simp at hu
    subst hu
    rfl
  · unfold maxLen; omega
  · omega
  · simp; omega
  · intro g cap w' ho' hg _ _
    exact h g cap w' (by rw [ivals_append]; exact ho') hg
theorem kept_apart {w w' : World} {base n s : Nat} {e : TypeId} {v : Value} {xs : List Value} {r : Option Nat} (h : w.ownsRow base e s v n xs) (hg : w.grownBy w' r) (hne : ∀ q, v.ownBlock = some q → r ≠ some q) : w'.ownsRow base e s v n xs := by
  by_cases hn : v.ownBlock = none
  · exact h.kept hg (.inl hn)
  · refine h.kept hg (.inr ?_)
    intro e
    cases hb : v.ownBlock with
    | none => exact hn hb
    | some q => exact hne q hb (by rw [← e]; exact hb)
/-- A log, what was put into it, and where its records end: three rows that share nothing. -/
def HoldAt (w : World) (b1 b2 X : Nat) (As : Option Addr) (ns cs : Nat) (s : List Int) (bits : Int) (Aa : Option Addr) (na ca : Nat) (S : LogS) (Dd : Option Addr) (cd : Nat) (ld : List ByteArray) (Mm : Option Addr) (cm : Nat) (lm : List Int) : Prop :=
  LogAt w b1 X As ns cs s bits Aa na ca S ∧ w.ownsRow b1 9 1 (.slice Dd ld.length cd) ld.length (svals ld) ∧ w.ownsRow b2 3 1 (.slice Mm lm.length cm) lm.length (ivals lm) ∧ (∀ q, (Value.slice Aa na ca).ownBlock = some q → (Value.slice Dd ld.length cd).ownBlock ≠ some q) ∧ (∀ q, (Value.slice As ns cs).ownBlock = some q → q < b2) ∧ X < b2 ∧ b1 ≤ b2 ∧ b2 ≤ w.heap.size
section
variable {w w' : World} {b1 b2 X ns cs na ca cd cm : Nat} {As Aa Dd Mm : Option Addr} {s : List Int} {bits : Int} {S S' : LogS} {ld : List ByteArray} {lm : List Int}
theorem hold_log {A' : Option Addr} {n' c' : Nat} (h : HoldAt w b1 b2 X As ns cs s bits Aa na ca S Dd cd ld Mm cm lm) (hl : LogAt w' b1 X As ns cs s bits A' n' c' S') (hk : KeptBut (logBlocks X Aa na ca) w w')
    (hq : ∀ q, (Value.slice A' n' c').ownBlock = some q → (Value.slice Aa na ca).ownBlock = some q ∨ w.heap.size ≤ q) : HoldAt w' b1 b2 X As ns cs s bits A' n' c' S' Dd cd ld Mm cm lm := by
  obtain ⟨h1, h2, h3, h4, h5, h6, h7, h8⟩ := h
  refine ⟨hl, hk.row h2 ?_, hk.row h3 ?_, ?_, h5, h6, h7, Nat.le_trans h8 hk.size⟩
  · intro k hk1 hk2
    rcases hk2 with rfl | hk2
    · exact row_type h2 h1.2.1 (by decide) hk1
    · exact h4 k hk2 hk1
  · intro k hk1 hk2
    have := (h3.lt k hk1).1
    rcases hk2 with rfl | hk2
    · omega
    · exact rows_apart h1.2.2.2 h3 (by decide) k hk2 hk1
  · intro q hq1 hq2
    rcases hq q hq1 with h | h
    · exact h4 q h hq2
    · have := (h2.lt q hq2).2; omega
theorem hold_same (h : HoldAt w b1 b2 X As ns cs s bits Aa na ca S Dd cd ld Mm cm lm) (hl : LogAt w' b1 X As ns cs s bits Aa na ca S') (hk : KeptBut (fun k => k = X) w w') : HoldAt w' b1 b2 X As ns cs s bits Aa na ca S' Dd cd ld Mm cm lm :=
  hold_log h hl (hk.mono fun _ _ h => .inl h) fun _ h => .inl h
theorem hold_below (h : HoldAt w b1 b2 X As ns cs s bits Aa na ca S Dd cd ld Mm cm lm) (hb : Below w.heap.size w w') : HoldAt w' b1 b2 X As ns cs s bits Aa na ca S Dd cd ld Mm cm lm :=
  hold_log h (h.1.below' hb) (.of_below hb) fun _ h => .inl h
theorem hold_pushD {o : Obj} {g cap : Nat} {b : ByteArray} (h : HoldAt w b1 b2 X As ns cs s bits Aa na ca S Dd cd ld Mm cm lm) (ho : w'.ownsRow b1 9 1 (.slice (some ⟨g, 0, none⟩) (ld.length + 1) cap) (ld.length + 1) (svals (ld ++ [b])))
    (hg : (w.alloc o).grownBy w' (Value.slice Dd ld.length cd).ownBlock) (hq : (Value.slice Dd ld.length cd).ownBlock = some g ∨ g = w.heap.size + 1) : HoldAt w' b1 b2 X As ns cs s bits Aa na ca S (some ⟨g, 0, none⟩) cap (ld ++ [b]) Mm cm lm := by
  obtain ⟨h1, h2, h3, h4, h5, h6, h7, h8⟩ := h
  have hsz : w.heap.size ≤ w'.heap.size := Nat.le_trans (by simp) hg.size
  have hX : w'.heap[X]? = some (.cells (logV (.slice As ns cs) bits (.slice Aa na ca) (strL S.bytes) S.safe S.left S.st) 64 (0, 0)) := by
    rw [hg.block X (by have := h1.lt; simp; omega) (fun e => row_type h2 h1.2.1 (by decide) e.symm), heap_alloc_old w o h1.lt]
    exact h1.2.1
  refine ⟨⟨h1.1, hX, kept_apart (h1.2.2.1.alloc o) hg (rows_apart h1.2.2.1 h2 (by decide)), kept_apart (h1.2.2.2.alloc o) hg h4⟩, ?_, kept_apart (h3.alloc o) hg (rows_apart h3 h2 (by decide)), ?_, h5, h6, h7, Nat.le_trans h8 hsz⟩
  · rw [List.length_append, List.length_singleton]; exact ho
  · intro q hq1 hq2
    have h9 : g = q := by simpa [Value.ownBlock] using hq2
    subst h9
    rcases hq with h | h
    · exact h4 g hq1 h
    · have := (h1.2.2.2.lt g hq1).2; omega
theorem hold_pushM {o : Obj} {g cap : Nat} {y : Int} (h : HoldAt w b1 b2 X As ns cs s bits Aa na ca S Dd cd ld Mm cm lm) (ho : w'.ownsRow b2 3 1 (.slice (some ⟨g, 0, none⟩) (lm.length + 1) cap) (lm.length + 1) (ivals (lm ++ [y])))
    (hg : (w.alloc o).grownBy w' (Value.slice Mm lm.length cm).ownBlock) : HoldAt w' b1 b2 X As ns cs s bits Aa na ca S Dd cd ld (some ⟨g, 0, none⟩) cap (lm ++ [y]) := by
  obtain ⟨h1, h2, h3, h4, h5, h6, h7, h8⟩ := h
  have hsz : w.heap.size ≤ w'.heap.size := Nat.le_trans (by simp) hg.size
  have hX : w'.heap[X]? = some (.cells (logV (.slice As ns cs) bits (.slice Aa na ca) (strL S.bytes) S.safe S.left S.st) 64 (0, 0)) := by
    rw [hg.block X (by have := h1.lt; simp; omega) (fun e => row_type h3 h1.2.1 (by decide) e.symm), heap_alloc_old w o h1.lt]
    exact h1.2.1
  refine ⟨⟨h1.1, hX, kept_apart (h1.2.2.1.alloc o) hg ?_, kept_apart (h1.2.2.2.alloc o) hg (rows_apart h1.2.2.2 h3 (by decide))⟩, kept_apart (h2.alloc o) hg (rows_apart h2 h3 (by decide)), ?_, h4, h5, h6, h7, Nat.le_trans h8 hsz⟩
  · intro q hq1 hq2
    have := h5 q hq1
    have := (h3.lt q hq2).1
    omega
  · rw [List.length_append, List.length_singleton]; exact ho
theorem hold_cut {i : Nat} (h : HoldAt w b1 b2 X As ns cs s bits Aa na ca S Dd cd ld Mm cm lm) (hi : i ≤ ld.length) (hm : i + 1 ≤ lm.length) : HoldAt w b1 b2 X As ns cs s bits Aa na ca S Dd cd (ld.take i) Mm cm (lm.take (i + 1)) := by
  obtain ⟨h1, h2, h3, h4, h5, h6, h7, h8⟩ := h
  have e1 : (ld.take i).length = i := by rw [List.length_take]; omega
  have e2 : (lm.take (i + 1)).length = i + 1 := by rw [List.length_take]; omega
  have a2 := own_prefix h2 hi
  have a3 := own_prefix h3 hm
  rw [svals_take] at a2
  have hit : (ivals lm).take (i + 1) = ivals (lm.take (i + 1)) := by simp [ivals]
  rw [hit] at a3
  refine ⟨h1, by rw [e1]; exact a2, by rw [e2]; exact a3, ?_, h5, h6, h7, h8⟩
  intro q hq1 hq2
  refine h4 q hq1 ?_
  cases Dd with
  | none => simp [Value.ownBlock] at hq2
  | some a => simpa [Value.ownBlock] using hq2
end
/-- What a log has, behind so many frames that were put. -/
def KeepS (a : Nat) (S : LogS) : Prop := LogOk S ∧ S.all.length ≤ a ∧ S.bytes.length ≤ 300 * a ∧ -1 ≤ S.left ∧ S.left ≤ 9223372036854775807
section
variable {a : Nat} {S : LogS}
theorem keep_put (h : KeepS a S) (E : Int) (b : ByteArray) (hb : E = 0 → b.size ≤ 50) : KeepS (a + 1) (putS S E b) := by
  obtain ⟨h1, h2, h3, h4, h5⟩ := h
  have hok := ok_put h1 E b
  have hr := recL_few (bytesOf_lt b)
  rw [bytesOf_length] at hr
  unfold putS at hok ⊢
  by_cases hc : S.st = true ∨ 20 ≤ S.all.length ∨ E ≠ 0
  · rw [if_pos hc]; exact ⟨h1, by omega, by omega, h4, h5⟩
  · rw [if_neg hc] at hok ⊢
    have hE : E = 0 := by
      by_cases hE : E = 0
      · exact hE
      · exact absurd (.inr (.inr hE)) hc
    have hb := hb hE
    by_cases hl : S.left = 0
    · rw [if_pos hl] at hok ⊢
      refine ⟨hok, by simp only; omega, ?_, by simp, by simp⟩
      simp only [List.length_append, List.length_take]; omega
    · rw [if_neg hl] at hok ⊢
      refine ⟨hok, by simp only [List.length_append, List.length_singleton]; omega, by simp only [List.length_append]; omega, by simp only; omega, by simp only; omega⟩
theorem keep_sync (h : KeepS a S) : KeepS a (syncS S) := by
  obtain ⟨h1, h2, h3, h4, h5⟩ := h
  have hok := ok_sync h1
  unfold syncS at hok ⊢
  split
  · exact ⟨h1, h2, h3, h4, h5⟩
  · rename_i hn
    rw [if_neg hn] at hok
    split
    · rename_i hl
      rw [if_pos hl] at hok
      exact ⟨hok, h2, h3, by simp, by simp⟩
    · rename_i hl
      rw [if_neg hl] at hok
      exact ⟨hok, h2, h3, by simp only; omega, by simp only; omega⟩
theorem keep_fail (h : KeepS a S) (n : Int) (hn : n ≤ 9223372036854775807) : KeepS a { S with left := max (-1) n } := by
  obtain ⟨h1, h2, h3, h4, h5⟩ := h
  exact ⟨h1, h2, h3, by simp only; omega, by simp only; omega⟩
theorem keep_crash (h : KeepS a S) (i : Nat) : KeepS a (crashS S (recsOf S.all) i) := by
  obtain ⟨h1, h2, h3, h4, h5⟩ := h
  have := crash_le S i h1
  refine ⟨ok_crash S i, ?_, by omega, by simp [crashS], by simp [crashS]⟩
  simp only [crashS, List.length_take]; omega
theorem sync_safe (h : syncE S = 0) : (syncS S).safe = (((syncS S).bytes.length : Nat) : Int) := by
  unfold syncE at h
  unfold syncS
  split
  · rename_i hs; rw [if_pos hs] at h; omega
  · rename_i hs
    rw [if_neg hs] at h
    split
    · rename_i hl; rw [if_pos hl] at h; omega
    · rfl
theorem sync_all : (syncS S).all = S.all := by unfold syncS; split <;> (try split) <;> rfl
theorem put_ne (E : Int) (b : ByteArray) (h : putE S E ≠ 0) : (putS S E b).all = S.all := by
  unfold putE at h
  unfold putS
  split
  · rfl
  · rename_i hc
    split
    · rfl
    · rename_i hl
      exfalso
      apply h
      rw [if_neg (fun h => hc (.inl h)), if_neg (fun h => hc (.inr (.inl h))), if_neg (fun h => hc (.inr (.inr h))), if_neg hl]
theorem put_zero (hS : LogOk S) (E : Int) (b : ByteArray) (h : putE S E = 0) : (putS S E b).all = S.all ++ [b] ∧ (putS S E b).bytes.length = (recsOf (S.all ++ [b])).flatten.length ∧ S.bytes.length + 2 ≤ (putS S E b).bytes.length := by
  have hok := ok_put hS E b
  unfold putE at h
  by_cases hs : S.st = true
  · rw [if_pos hs] at h; omega
  rw [if_neg hs] at h
  by_cases h2 : 20 ≤ S.all.length
  · rw [if_pos h2] at h; omega
  rw [if_neg h2] at h
  by_cases hE : E = 0
  · rw [if_neg (by omega)] at h
    by_cases hl : S.left = 0
    · rw [if_pos hl] at h; omega
    have e : putS S E b = { S with all := S.all ++ [b], bytes := S.bytes ++ recL (bytesOf b), left := max (-1) (S.left - 1), st := false } := by
      unfold putS; rw [if_neg (by rintro (h | h | h); exact hs h; exact h2 h; exact h hE), if_neg hl]
    rw [e] at hok ⊢
    obtain ⟨⟨tail, t1, _, t3⟩, _⟩ := hok
    have t4 := t3 rfl
    subst t4
    have := recL_two (bytesOf b)
    refine ⟨rfl, ?_, ?_⟩
    · rw [t1, List.append_nil]
    · simp only [List.length_append]; omega
  · rw [if_pos hE] at h; exact absurd h hE
theorem put_told (E : Int) (n : Nat) (hn : S.all.length = n) : putE S E = 6 ∨ putE S E = if 20 ≤ n then 4 else E := by
  unfold putE
  rw [hn]
  by_cases hs : S.st = true
  · rw [if_pos hs]; exact .inl rfl
  rw [if_neg hs]
  by_cases h2 : 20 ≤ n
  · rw [if_pos h2, if_pos h2]; exact .inr rfl
  rw [if_neg h2, if_neg h2]
  by_cases hE : E = 0
  · rw [if_neg (by omega)]
    by_cases hl : S.left = 0
    · rw [if_pos hl]; exact .inl rfl
    · rw [if_neg hl]; exact .inr hE.symm
  · rw [if_pos hE]; exact .inr rfl
end


theorem bandErr_bd (s : List Int) : -100 ≤ Ph.bandErr s ∧ Ph.bandErr s ≤ 100 := by
  unfold Ph.bandErr
  split <;> (try split) <;> (try split) <;> (try split) <;> omega
theorem newErr_bd (s : List Int) (bits : Int) : -100 ≤ newErr s bits ∧ newErr s bits ≤ 100 := by
  have h1 := bandErr_bd s
  unfold newErr
  split
  · omega
  · split
    · omega
    · split <;> omega
theorem unpE_bd (b : List Nat) (s : List Int) (bits : Int) : -100 ≤ unpE b s bits ∧ unpE b s bits ≤ 100 := by
  have h1 := bandErr_bd s
  unfold unpE
  split
  · omega
  · split
    · omega
    · split
      · omega
      · split <;> omega
theorem unp_zero : unpE (bytesOf ⟨#[0]⟩) [2] 0 = 0 := by decide +kernel
theorem unp_four : unpE (bytesOf ⟨#[4]⟩) [2] 0 = 0 := by decide +kernel
theorem new_two : newErr [2] 0 = 0 := by decide +kernel
theorem lnew_no (A : Option Addr) (n c : Nat) (s : List Int) (bits : Int) (w : World) (B : Nat) (h : RdI w B A n s) (hn : n ≤ 100000000000000) (h0 : newErr s bits ≠ 0) :
    Calls Tryz.prog 5 #[.slice A n c, .int .i64 bits] w fun e w' => e = .returned (.tuple #[.pointer none, errV (newErr s bits)]) ∧ w' = w := by
  have HN := Lib.hid (hnew_no A n c s bits w B h hn h0)
  rw [errV_ne h0] at HN ⊢
  clear h hn h0
  go_enter Tryz.func5, Tryz.ntmps5
  go_wp2_with fail
  refine HN.out.mono ?_
  rintro e w1 ⟨rfl, rfl⟩
  go_wp2_with fail
  go_ret2
  exact ⟨rfl, rfl⟩
/-- The log of the law's beginning: one frame, made safe, and one more. -/
def one1 : LogS := putS newS 0 ⟨#[0]⟩
def one2 : LogS := syncS one1
def one3 : LogS := putS one2 0 ⟨#[4]⟩
def one4 : LogS := crashS one3 (recsOf one3.all) 1
theorem one_ok : LogOk one3 := ok_put (ok_sync (ok_put ok_new _ _)) _ _
theorem one_e1 : putE newS 0 = 0 := by decide +kernel
theorem one_e2 : syncE one1 = 0 := by decide +kernel
theorem one_e3 : putE one2 0 = 0 := by decide +kernel
theorem one_l1 : -1 ≤ one1.left ∧ one1.left ≤ 9223372036854775807 := by decide +kernel
theorem one_l2 : -1 ≤ one2.left ∧ one2.left ≤ 9223372036854775807 := by decide +kernel
theorem one_b2 : one2.bytes.length ≤ 100000 := by decide +kernel
theorem one_b3 : one3.bytes.length ≤ 100000 := by decide +kernel
theorem one_a3 : one3.all.length = 2 := by decide +kernel
theorem one_cut {i : Nat} (hi : i ≤ 2) (h1 : Ph.mark (recsOf one3.all) i ≤ highOf one3 0) (h2 : ∀ j, i < j → j ≤ 2 → highOf one3 0 < Ph.mark (recsOf one3.all) j) : i = 1 := by
  have a1 : ¬ highOf one3 0 < Ph.mark (recsOf one3.all) 1 := by decide +kernel
  have a2 : ¬ Ph.mark (recsOf one3.all) 2 ≤ highOf one3 0 := by decide +kernel
  match i, hi with
  | 0, _ => exact absurd (h2 1 (by omega) (by omega)) a1
  | 1, _ => rfl
  | 2, _ => exact absurd h1 a2
theorem one_a4 : one4.all = [⟨#[0]⟩] := by
  have h : one3.all = [⟨#[0]⟩, ⟨#[4]⟩] := by
    have e2 : one2 = { one1 with left := max (-1) (one1.left - 1), st := false, safe := (one1.bytes.length : Nat) } := by unfold one2 syncS; rw [if_neg (by decide +kernel), if_neg (by decide +kernel)]
    unfold one3 putS
    rw [if_neg (by decide +kernel), if_neg (by decide +kernel), e2]
    unfold one1 putS
    rw [if_neg (by decide +kernel), if_neg (by decide +kernel)]
    rfl
  unfold one4 crashS
  simp only
  rw [h]; rfl
theorem own_zero (w : World) : (w.alloc (.cells #[.int .i64 0] 3)).ownsRow w.heap.size 3 1 (.slice (some ⟨w.heap.size, 0, none⟩) 1 1) 1 (ivals [0]) :=
  ⟨rfl, .inr ⟨w.heap.size, 1, #[.int .i64 0], rfl, Nat.le_refl _, heap_alloc_new w _, Nat.le_refl _, by unfold maxLen; omega, rfl, rfl⟩⟩
/-- What the law's loops keep. -/
def KeepW (w : World) (b1 b2 X : Nat) (As : Option Addr) (ns cs : Nat) (s : List Int) (bits : Int) (a : Nat) (Dd : Option Addr) (na cd : Nat) (Mm : Option Addr) (cm : Nat) : Prop :=
  ∃ Aa ca S, S.all.length = na ∧ HoldAt w b1 b2 X As ns cs s bits Aa na ca S Dd cd S.all Mm cm (marksOf S.all) ∧ KeepS a S
theorem hold_b1 {w : World} {b1 b2 X ns cs na ca cd cm : Nat} {As Aa Dd Mm : Option Addr} {s : List Int} {bits : Int} {S : LogS} {ld : List ByteArray} {lm : List Int} (h : HoldAt w b1 b2 X As ns cs s bits Aa na ca S Dd cd ld Mm cm lm) : b1 ≤ w.heap.size := Nat.le_trans h.2.2.2.2.2.2.1 h.2.2.2.2.2.2.2
theorem hold_pushM' {w w' : World} {b1 b2 X ns cs na ca cd cm m : Nat} {As Aa Dd Mm : Option Addr} {s : List Int} {bits : Int} {S : LogS} {ld : List ByteArray} {lm : List Int} {o : Obj} {g cap : Nat} {y : Int} (hm : lm.length = m) (h : HoldAt w b1 b2 X As ns cs s bits Aa na ca S Dd cd ld Mm cm lm) (ho : w'.ownsRow b2 3 1 (.slice (some ⟨g, 0, none⟩) (m + 1) cap) (m + 1) (ivals (lm ++ [y])))
    (hg : (w.alloc o).grownBy w' (Value.slice Mm m cm).ownBlock) : HoldAt w' b1 b2 X As ns cs s bits Aa na ca S Dd cd ld (some ⟨g, 0, none⟩) cap (lm ++ [y]) := by
  subst hm; exact hold_pushM h ho hg
theorem hold_belowD {B : Nat} {w0 w w' : World} {b1 b2 X ns cs na ca cd cm : Nat} {As Aa Dd Mm : Option Addr} {s : List Int} {bits : Int} {S : LogS} {ld : List ByteArray} {lm : List Int} {o : Obj} (hb : Below B w0 w) (hB : B ≤ b1) (h : HoldAt w b1 b2 X As ns cs s bits Aa na ca S Dd cd ld Mm cm lm) (hg : (w.alloc o).grownBy w' (Value.slice Dd ld.length cd).ownBlock) : Below B w0 w' :=
  (hb.alloc (Nat.le_trans hB (hold_b1 h)) _).grown hg (by simp; have := hold_b1 h; omega) fun q hq => Nat.le_trans hB (h.2.1.lt q hq).1
theorem hold_belowM {B : Nat} {w0 w w' : World} {b1 b2 X ns cs na ca cd cm : Nat} {As Aa Dd Mm : Option Addr} {s : List Int} {bits : Int} {S : LogS} {ld : List ByteArray} {lm : List Int} {o : Obj} (hb : Below B w0 w) (hB : B ≤ b1) (h : HoldAt w b1 b2 X As ns cs s bits Aa na ca S Dd cd ld Mm cm lm) (hg : (w.alloc o).grownBy w' (Value.slice Mm lm.length cm).ownBlock) : Below B w0 w' :=
  (hb.alloc (Nat.le_trans hB (hold_b1 h)) _).grown hg (by simp; have := hold_b1 h; omega) fun q hq => Nat.le_trans (Nat.le_trans hB h.2.2.2.2.2.2.1) (h.2.2.1.lt q hq).1
theorem hold_belowM' {B : Nat} {w0 w w' : World} {b1 b2 X ns cs na ca cd cm m : Nat} {As Aa Dd Mm : Option Addr} {s : List Int} {bits : Int} {S : LogS} {ld : List ByteArray} {lm : List Int} {o : Obj} (hm : lm.length = m) (hb : Below B w0 w) (hB : B ≤ b1) (h : HoldAt w b1 b2 X As ns cs s bits Aa na ca S Dd cd ld Mm cm lm) (hg : (w.alloc o).grownBy w' (Value.slice Mm m cm).ownBlock) : Below B w0 w' := by
  subst hm; exact hold_belowM hb hB h hg
theorem keepW_below {w w' : World} {b1 b2 X ns cs na cd cm a : Nat} {As Dd Mm : Option Addr} {s : List Int} {bits : Int} (h : KeepW w b1 b2 X As ns cs s bits a Dd na cd Mm cm) (hb : Below w.heap.size w w') : KeepW w' b1 b2 X As ns cs s bits a Dd na cd Mm cm := by
  obtain ⟨Aa, ca, S, h1, h2, h3⟩ := h
  exact ⟨Aa, ca, S, h1, hold_below h2 hb, h3⟩
set_option maxHeartbeats 8000000 in
set_option maxRecDepth 1000000 in
theorem logKeeps_walk (w : World) (A0 : Option Addr) (n0 c0 : Nat) (s : List Int) (h0 : RdI w w.heap.size A0 n0 s) (hb0 : n0 ≤ c0 ∧ c0 ≤ 17592186044415) (_ : ∀ x ∈ s, Is64 x) (bits : Int) (A2 : Option Addr) (n2 c2 : Nat) (ls : List ByteArray) (h2 : RdS w w.heap.size A2 n2 ls) (hb2 : n2 ≤ c2 ∧ c2 ≤ 17592186044415) (hm2 : ∀ l ∈ ls, l.size ≤ 140737488351232) (A3 : Option Addr) (n3 c3 : Nat) (sy : List Int) (h3 : RdI w w.heap.size A3 n3 sy) (_hb3 : n3 ≤ c3 ∧ c3 ≤ 17592186044415) (_ : ∀ x ∈ sy, Is64 x) (A4 : Option Addr) (n4 c4 : Nat) (fs : List Int) (h4 : RdI w w.heap.size A4 n4 fs) (hb4 : n4 ≤ c4 ∧ c4 ≤ 17592186044415) (hm4 : ∀ x ∈ fs, Is64 x) (A5 : Option Addr) (n5 c5 : Nat) (ks : List Int) (h5 : RdI w w.heap.size A5 n5 ks) (_hb5 : n5 ≤ c5 ∧ c5 ≤ 17592186044415) (_ : ∀ x ∈ ks, Is64 x) (hg : Laid w) (ht : Lib.TabIs Tryz.prog w "internal/strconv.uint64pow10" .u64 Lib.pow10Tab) :
    Calls Tryz.prog 3 #[.slice A0 n0 c0, .int .i64 bits, .slice A2 n2 c2, .slice A3 n3 c3, .slice A4 n4 c4, .slice A5 n5 c5] w fun e w' => e = .returned (.bool true) ∧ Below w.heap.size w w' := by
  have HG := Lib.hid hg
  have HT := Lib.hid ht
  have H0 := Lib.hid h0
  have H2 := Lib.hid h2
  have H3 := Lib.hid h3
  have H4 := Lib.hid h4
  have H5 := Lib.hid h5
  have HM2 := Lib.hid hm2
  have HM4 := Lib.hid hm4
  have HB4 := Lib.hid hb4
  have HBS2 := Lib.hid hb2
  have HN0 : Hid (n0 ≤ 100000000000000) := Lib.hid (by omega)
  have HSE := Lib.hid (newErr_bd s bits)
  obtain ⟨W1, hW1⟩ : ∃ W1, W1 = w.alloc (.cells #[.int .i64 2] 3) := ⟨_, rfl⟩
  have hr1 : RdI W1 W1.heap.size (some ⟨w.heap.size, 0, none⟩) 1 [2] := by rw [hW1]; exact RdI.lit' w [2] 3 #[.int .i64 2] rfl
  have HB1 : Hid (Below w.heap.size w W1) := Lib.hid (by rw [hW1]; exact below_alloc0 _ _)
  have HNW := Lib.hid (lnew_ok (some ⟨w.heap.size, 0, none⟩) 1 1 [2] 0 W1 W1.heap.size hr1 (Nat.le_refl _) new_two (by omega))
  have HW1 := Lib.hid hW1
  have HBS := Lib.hid HB1.out.size
  clear hg ht hr1 hW1 h0 h2 h3 h4 h5 hm2 hm4 hb0 hb2 hb4 _hb3 _hb5
  go_enter Tryz.func3, Tryz.ntmps3
  go_wp2_with fail
  rw [← HW1.out]
  refine HNW.out.mono ?_
  rintro e w2 ⟨X1, As1, cs1, rfl, hl, hb⟩
  have HB2 := Lib.hid (below_on HB1.out hb)
  have hp := lput_any w2 W1.heap.size X1 As1 1 cs1 [2] 0 none 0 0 newS ⟨#[0]⟩ hl hb.size (by decide) (by decide) (by omega) (by decide) (tab_on HT.out HB2.out)
  rw [unp_zero, one_e1] at hp
  have HP := Lib.hid hp
  have HL2 := Lib.hid hl
  clear hp hl hb HNW
  go_wp2_with fail
  refine HP.out.mono ?_
  rintro e w3 ⟨A3', n3', c3', rfl, hl3, hk3⟩
  rw [errV_zero]
  have HL3 : Hid (LogAt w3 W1.heap.size X1 As1 1 cs1 [2] 0 A3' n3' c3' one1) := Lib.hid hl3
  have HB3 := Lib.hid (HB2.out.trans (HL2.out.belowL hk3 HBS.out HB2.out.size))
  have HSY := Lib.hid (lsync_any w3 W1.heap.size X1 As1 1 cs1 [2] 0 A3' n3' c3' one1 hl3 one_l1)
  rw [one_e2, errV_zero] at HSY
  clear hl3 hk3 HP HL2
  go_wp2_with fail
  refine HSY.out.mono ?_
  rintro e w4 ⟨rfl, hl4, hk4⟩
  have HL4 : Hid (LogAt w4 W1.heap.size X1 As1 1 cs1 [2] 0 A3' n3' c3' one2) := Lib.hid hl4
  have HB4' := Lib.hid (HB3.out.trans (HL3.out.belowL (hk4.mono fun k _ h => .inl h) HBS.out HB3.out.size))
  have hsz4 : W1.heap.size ≤ w4.heap.size := Nat.le_trans hl4.1 (Nat.le_of_lt hl4.lt)
  have hp := lput_any w4 W1.heap.size X1 As1 1 cs1 [2] 0 A3' n3' c3' one2 ⟨#[4]⟩ hl4 hsz4 one_l2 (by decide) (by omega) one_b2 (tab_on HT.out HB4'.out)
  rw [unp_four, one_e3] at hp
  have HP := Lib.hid hp
  clear hp hl4 hk4 HSY HL3 hsz4
  go_wp2_with fail
  refine HP.out.mono ?_
  rintro e w5 ⟨A5', n5', c5', rfl, hl5, hk5⟩
  rw [errV_zero]
  have HL5 : Hid (LogAt w5 W1.heap.size X1 As1 1 cs1 [2] 0 A5' n5' c5' one3) := Lib.hid hl5
  have hn5 : n5' = 2 := HL5.out.len.symm.trans one_a3
  subst hn5
  have HB5 := Lib.hid (HB4'.out.trans (HL4.out.belowL hk5 HBS.out HB4'.out.size))
  have HCR : Hid (Calls Tryz.prog 8 #[.pointer (some ⟨X1, 0, none⟩), .int .i64 0] w5 fun e w' => e = .returned (.tuple #[]) ∧ (∃ c', LogAt w' W1.heap.size X1 As1 1 cs1 [2] 0 A5' 1 c' one4) ∧ KeptBut (fun k => k = X1) w5 w') := Lib.hid (by
    obtain ⟨⟨tail, t1, t2, _⟩, t4, t5⟩ := one_ok
    refine (lcrash_any w5 W1.heap.size X1 As1 1 cs1 [2] 0 A5' 2 c5' one3 0 (recsOf one3.all) tail HL5.out t1 (by rw [recsOf_len, one_a3]) (recsOf_rec _) t2 ⟨t4, t5⟩ one_b3 (by omega)).mono ?_
    rintro e w' ⟨rfl, ⟨i, c', hi, m1, m2, hl⟩, hk⟩
    have := one_cut hi m1 m2
    subst this
    exact ⟨rfl, ⟨c', hl⟩, hk⟩)
  clear hl5 hk5 HP HL4
  go_wp2_with fail
  refine HCR.out.mono ?_
  rintro e w6 ⟨rfl, ⟨c6', hl6⟩, hk6⟩
  have HL6 := Lib.hid hl6
  have HB6 := Lib.hid (HB5.out.trans (HL5.out.belowL (hk6.mono fun k _ h => .inl h) HBS.out HB5.out.size))
  have HA6 := Lib.hid (lall_any w6 W1.heap.size X1 As1 1 cs1 [2] 0 A5' 1 c6' one4 hl6 (by omega))
  clear hl6 hk6 HCR HL5
  go_wp2_with fail
  refine HA6.out.mono ?_
  rintro e w7 ⟨A7', c7', rfl, ho7, hb7⟩
  have HL7 := Lib.hid (HL6.out.below' hb7)
  have HB7 := Lib.hid (below_on HB6.out hb7)
  obtain ⟨g7, rfl, _, _⟩ := own_form ho7 (by omega)
  have x0 : w7.cell? ⟨g7, 0, none⟩ = some (.string ⟨#[0]⟩) := by
    have := ho7.cellAt 0 (by omega)
    rw [one_a4] at this
    exact this
  have HSA := Lib.hid fun W hW => lsafe_any W W1.heap.size X1 As1 1 cs1 [2] 0 A5' 1 c6' one4 hW
  have HBY := Lib.hid fun W hW => lbytes_any W W1.heap.size X1 As1 1 cs1 [2] 0 A5' 1 c6' one4 hW
  have hzz : one4.safe = ((one4.bytes.length : Nat) : Int) := rfl
  obtain ⟨Z, hZ⟩ : ∃ q : Int, q = ((one4.bytes.length : Nat) : Int) := ⟨_, rfl⟩
  rw [hzz, ← hZ] at HSA
  rw [← hZ] at HBY
  have hze : (Z == Z) = true := by simp
  have hse := str_eq (rfl : (⟨#[0]⟩ : ByteArray) = ⟨#[0]⟩)
  clear hb7 ho7 HA6 hZ hzz HL6
  go_wp2_with fail
  refine (HBY.out _ HL7.out).mono ?_
  rintro e w' ⟨rfl, rfl⟩
  go_wp2_with fail
  refine (HSA.out _ HL7.out).mono ?_
  rintro e w' ⟨rfl, rfl⟩
  clear x0 HSA HBY
  have HNP := Lib.hid (rnewp_any A0 n0 c0 s bits w' w.heap.size (H0.out.below HB7.out) HN0.out)
  clear HL7 hse
  go_wp2_with fail
  refine HNP.out.mono ?_
  rintro e w8 ⟨rfl, rfl⟩
  clear HNP
  rename World => w8
  by_cases hE : newErr s bits = 0
  · rw [hE]
    have hn8 : n0 ≤ 1000000 := by
      have h1 := (Ph.bandErr_zero.1 (newErr_zero.1 hE).1).2.1
      have h2 := H0.out.len
      omega
    have HNW := Lib.hid (lnew_ok A0 n0 c0 s bits w8 w.heap.size (H0.out.below HB7.out) HB7.out.size hE hn8)
    have HX0 := Lib.hid fun W hW => herr_any 0 0 W hW (by omega)
    rw [sameN_self, errV_zero] at HX0
    clear hE
    go_wp2_with fail
    refine HNW.out.mono ?_
    rintro e w9 ⟨X, As, cs, rfl, hl, hb⟩
    have HB9 := Lib.hid (below_on HB7.out hb)
    have HL9 := Lib.hid hl
    clear hl hb HNW
    go_wp2_with fail
    refine (HX0.out _ (HG.out.below HB9.out)).mono ?_
    rintro e w10 ⟨rfl, hb⟩
    have HB10 := Lib.hid (below_on HB9.out hb)
    have HL10 := Lib.hid (HL9.out.below' hb)
    clear hb HX0 HL9
    go_wp2_with fail
    have HK0 : Hid (KeepW (w10.alloc (.cells #[.int .i64 0] 3)) w8.heap.size w10.heap.size X As n0 cs s bits 0 none 0 0 (some ⟨w10.heap.size, 0, none⟩) 1) := Lib.hid (by
      have h1 : LogAt (w10.alloc (.cells #[.int .i64 0] 3)) w8.heap.size X As n0 cs s bits none 0 0 newS := HL10.out.below' (below_alloc0 _ _)
      refine ⟨none, 0, newS, rfl, ⟨h1, own_nil _ _ _, own_zero w10, fun q hq => by simp [Value.ownBlock] at hq, fun q hq => (HL10.out.2.2.1.lt q hq).2, HL10.out.lt, Nat.le_trans HL10.out.1 (Nat.le_of_lt HL10.out.lt), by simp⟩, ok_new, Nat.le_refl _, Nat.le_refl _, by decide, by decide⟩)
    obtain ⟨W0, hW0⟩ : ∃ W0, W0 = w10.alloc (.cells #[.int .i64 0] 3) := ⟨_, rfl⟩
    have HBW0 : Hid (Below w.heap.size w W0) := Lib.hid (by rw [hW0]; exact below_onAlloc HB10.out _)
    obtain ⟨b1, hb1⟩ : ∃ b1, b1 = w8.heap.size := ⟨_, rfl⟩
    obtain ⟨b2, hb2⟩ : ∃ b2, b2 = w10.heap.size := ⟨_, rfl⟩
    have HBB : Hid (w.heap.size ≤ b1) := Lib.hid (by rw [hb1]; exact HB7.out.size)
    rw [← hW0, ← hb1, ← hb2] at HK0
    rw [← hW0, ← hb2]
    clear hW0 hb1 hb2 HL10 HB10 HB9 HB7 HB6 HB5 HB4' HB3 HB2 HB1 HW1 HBS
    go_loopw [22, 23, 24, 25, 26, 27, 28, 29, 30, 31, 32, 33, 34, 35, 36, 37, 38] (fun _ dn mk at_ rd _ _ _ _ _ _ _ _ _ _ _ _ wr => ∃ (r a na cd cm : Nat) (Dd Mm : Option Addr), r ≤ 4 ∧ a ≤ 12 * r ∧ a ≤ n2 ∧ rd = .int .i64 r ∧ at_ = .int .i64 a ∧ dn = .slice Dd na cd ∧ mk = .slice Mm (na + 1) cm ∧ Hid (KeepW wr b1 b2 X As n0 cs s bits a Dd na cd Mm cm) ∧ Hid (Below w.heap.size w wr)) (fun _ _ _ _ rd _ _ _ _ _ _ _ _ _ _ _ _ _ => 4 - (intOf rd).toNat)
    case atStart => exact ⟨0, 0, 0, 0, 1, none, _, by omega, by omega, by omega, rfl, rfl, rfl, rfl, HK0, HBW0⟩
    case round =>
      as_aux_lemma =>
        obtain ⟨r, a, na, cd, cm, Dd, Mm, hr, ha, han, rfl, rfl, rfl, rfl, HK, HBW⟩ := hrel
        clear HK0 HBW0
        obtain ⟨q, hq⟩ : ∃ q, q = (decide (r ≤ n4) && decide (r < 4)) := ⟨_, rfl⟩
        have HQ := Lib.hid hq
        clear hq
        go_upto_region 20 with (fail)
        go_cut [111] (fun s111 wx => s111 = .bool q ∧ wx = wr)
        case first =>
          as_aux_lemma =>
            by_cases h1 : r ≤ n4
            · have h1' : (r : Int) ≤ (n4 : Int) := by omega
              by_cases h3 : r < 4
              · obtain rfl : q = true := by rw [HQ.out]; simp [h1, h3]
                have h3' : (r : Int) < 4 := by omega
                go_wp2_with fail
                go_meet
                case rel => exact ⟨rfl, rfl⟩
              · obtain rfl : q = false := by rw [HQ.out]; simp [h1, h3]
                have h3' : ¬ (r : Int) < 4 := by omega
                go_wp2_with fail
                go_meet
                case rel => exact ⟨rfl, rfl⟩
            · obtain rfl : q = false := by rw [HQ.out]; simp [h1]
              have h1' : ¬ (r : Int) ≤ (n4 : Int) := by omega
              go_wp2_with fail
              go_meet
              case rel => exact ⟨rfl, rfl⟩
        case rest =>
          as_aux_lemma =>
            obtain ⟨rfl, rfl⟩ := hcut
            rename World => wr
            cases q with
            | true =>
              have hlt := HQ.out
              simp at hlt
              have hr4 : r < 4 := hlt.2
              obtain ⟨qf, hqf⟩ : ∃ q, q = decide (r < n4) := ⟨_, rfl⟩
              have HQF := Lib.hid hqf
              clear hqf hlt HQ
              go_upto_region 22 with (fail)
              go_cut [117] (fun s117 wx => s117 = .bool qf ∧ wx = wr)
              case first =>
                as_aux_lemma =>
                  by_cases h1 : r < n4
                  · obtain rfl : qf = true := by rw [HQF.out]; simp [h1]
                    have h1' : (r : Int) < (n4 : Int) := by omega
                    go_wp2_with fail
                    go_meet
                    case rel => exact ⟨rfl, rfl⟩
                  · obtain rfl : qf = false := by rw [HQF.out]; simp [h1]
                    have h1' : ¬ (r : Int) < (n4 : Int) := by omega
                    go_wp2_with fail
                    go_meet
                    case rel => exact ⟨rfl, rfl⟩
              case rest =>
                as_aux_lemma =>
                  obtain ⟨rfl, rfl⟩ := hcut
                  rename World => wr
                  go_upto_if 117 with (fail)
                  go_cut [] (fun wx => Hid (KeepW wx b1 b2 X As n0 cs s bits a Dd na cd Mm cm) ∧ Hid (Below w.heap.size w wx))
                  case first =>
                    as_aux_lemma =>
                      cases qf with
                      | true =>
                        have h1 : r < n4 := by have := HQF.out; simpa using this.symm
                        obtain ⟨b6, o6, rfl, hb6, d6⟩ := (H4.out.below HBW.out).at_ h1
                        have hlt' : (r : Int) < (n4 : Int) := by omega
                        have h64 : Is64 (fs.getD r 0) := HM4.out _ (by
                          have := H4.out.len
                          rw [List.getD_eq_getElem?_getD, List.getElem?_eq_getElem (by omega)]; exact List.getElem_mem (by omega))
                        obtain ⟨z, hz⟩ : ∃ z, z = fs.getD r 0 := ⟨_, rfl⟩
                        rw [← hz] at d6 h64
                        obtain ⟨Aa, ca, S, hna, hh, hs⟩ := HK.out
                        have HH := Lib.hid hh
                        have HS := Lib.hid hs
                        have HF := Lib.hid (lfail_any wr b1 X As n0 cs s bits Aa na ca S z hh.1)
                        have HZ := Lib.hid h64
                        clear hz hh hs h64
                        go_wp2_with fail
                        refine HF.out.mono ?_
                        rintro e w4 ⟨rfl, hl4, hk4⟩
                        have hh4 := hold_same HH.out hl4 hk4
                        have HB4x := Lib.hid (HBW.out.trans (HH.out.1.belowL (hk4.mono fun k _ h => .inl h) HBB.out HBW.out.size))
                        have HK4 : Hid (KeepW w4 b1 b2 X As n0 cs s bits a Dd na cd Mm cm) := Lib.hid ⟨Aa, ca, { S with left := max (-1) z }, hna, hh4, keep_fail HS.out z HZ.out.2⟩
                        clear hl4 hk4 hh4 HF HS HH
                        go_wp2_with fail
                        go_meet
                        case rel => exact ⟨HK4, HB4x⟩
                      | false =>
                        go_wp2_with fail
                        go_meet
                        case rel => exact ⟨HK, HBW⟩
                  case rest =>
                    as_aux_lemma =>
                      clear HK HBW HQF
                      obtain ⟨HK, HBW⟩ := hcut
                      rename World => wr
                      go_wp2_with fail
                      go_loopw [22, 23, 24, 25, 27, 28, 29, 30, 31, 32] (fun _ dn mk at_ kk _ _ _ _ _ wi => ∃ (k a na cd cm : Nat) (Dd Mm : Option Addr), k ≤ 12 ∧ a ≤ 12 * r + k ∧ a ≤ n2 ∧ kk = .int .i64 k ∧ at_ = .int .i64 a ∧ dn = .slice Dd na cd ∧ mk = .slice Mm (na + 1) cm ∧ Hid (KeepW wi b1 b2 X As n0 cs s bits a Dd na cd Mm cm) ∧ Hid (Below w.heap.size w wi)) (fun _ _ _ _ kk _ _ _ _ _ _ => 12 - (intOf kk).toNat)
                      case atStart => exact ⟨0, a, na, cd, cm, Dd, Mm, by omega, by omega, han, rfl, rfl, rfl, rfl, HK, HBW⟩
                      case round =>
                        as_aux_lemma =>
                          clear HK HBW ha han
                          obtain ⟨k, a, na, cd, cm, Dd, Mm, hk, ha, han, rfl, rfl, rfl, rfl, HK, HBW⟩ := hrel
                          rename World => wi
                          obtain ⟨q, hq⟩ : ∃ q, q = (decide (k < 12) && decide (a < n2)) := ⟨_, rfl⟩
                          have HQ := Lib.hid hq
                          clear hq
                          go_upto_region 25 with (fail)
                          go_cut [131] (fun s131 wx => s131 = .bool q ∧ wx = wi)
                          case first =>
                            as_aux_lemma =>
                              by_cases h1 : k < 12
                              · have h1' : (k : Int) < 12 := by omega
                                by_cases h3 : a < n2
                                · obtain rfl : q = true := by rw [HQ.out]; simp [h1, h3]
                                  have h3' : (a : Int) < (n2 : Int) := by omega
                                  go_wp2_with fail
                                  go_meet
                                  case rel => exact ⟨rfl, rfl⟩
                                · obtain rfl : q = false := by rw [HQ.out]; simp [h1, h3]
                                  have h3' : ¬ (a : Int) < (n2 : Int) := by omega
                                  go_wp2_with fail
                                  go_meet
                                  case rel => exact ⟨rfl, rfl⟩
                              · obtain rfl : q = false := by rw [HQ.out]; simp [h1]
                                have h1' : ¬ (k : Int) < 12 := by omega
                                go_wp2_with fail
                                go_meet
                                case rel => exact ⟨rfl, rfl⟩
                          case rest =>
                            as_aux_lemma =>
                              obtain ⟨rfl, rfl⟩ := hcut
                              rename World => wi
                              cases q with
                              | true =>
                                have hlt := HQ.out
                                simp at hlt
                                have hk12 : k < 12 := hlt.1
                                have ha2 : a < n2 := hlt.2
                                clear hlt HQ
                                obtain ⟨Aa, ca, S, hna, hh, hs⟩ := HK.out
                                have HNA := Lib.hid hna
                                have HH := Lib.hid hh
                                have HS := Lib.hid hs
                                clear hna hh hs HK
                                go_upto_region 27 with (fail)
                                go_cut [156] (fun s156 wx => s156 = .bool false ∧ Hid (KeepW wx b1 b2 X As n0 cs s bits a Dd na cd Mm cm) ∧ Hid (Below w.heap.size w wx))
                                case first =>
                                  as_aux_lemma =>
                                    have HK0 : Hid (KeepW wi b1 b2 X As n0 cs s bits a Dd na cd Mm cm) := Lib.hid ⟨Aa, ca, S, HNA.out, HH.out, HS.out⟩
                                    by_cases h1 : a < n3
                                    · have h1' : (a : Int) < (n3 : Int) := by omega
                                      obtain ⟨b6, o6, rfl, hb6, d6⟩ := (H3.out.below HBW.out).at_ h1
                                      by_cases h3 : sy.getD a 0 = 1
                                      · rw [h3] at d6
                                        have HSY := Lib.hid (lsync_any wi b1 X As n0 cs s bits Aa na ca S HH.out.1 HS.out.2.2.2)
                                        have HAF : Hid (∀ w4, LogAt w4 b1 X As n0 cs s bits Aa na ca (syncS S) → KeptBut (fun k => k = X) wi w4 → KeepW w4 b1 b2 X As n0 cs s bits a Dd na cd Mm cm ∧ Below w.heap.size w w4) := Lib.hid fun w4 hl4 hk4 => by
                                          have hh4 := hold_same HH.out hl4 hk4
                                          have e := sync_all (S := S)
                                          refine ⟨⟨Aa, ca, syncS S, by rw [e]; exact HNA.out, by rw [e]; exact hh4, keep_sync HS.out⟩, HBW.out.trans (HH.out.1.belowL (hk4.mono fun k _ h => .inl h) HBB.out HBW.out.size)⟩
                                        clear h3
                                        by_cases hse : syncE S = 0
                                        · have HSF := Lib.hid (sync_safe hse)
                                          rw [hse, errV_zero] at HSY
                                          clear hse
                                          go_wp2_with fail
                                          refine HSY.out.mono ?_
                                          rintro e w4 ⟨rfl, hl4, hk4⟩
                                          have HAX := Lib.hid (HAF.out w4 hl4 hk4)
                                          have HSA := Lib.hid (lsafe_any w4 b1 X As n0 cs s bits Aa na ca (syncS S) hl4)
                                          have HBY := Lib.hid (lbytes_any w4 b1 X As n0 cs s bits Aa na ca (syncS S) hl4)
                                          rw [HSF.out] at HSA
                                          obtain ⟨Z, hZ⟩ : ∃ q : Int, q = (((syncS S).bytes.length : Nat) : Int) := ⟨_, rfl⟩
                                          rw [← hZ] at HSA HBY
                                          have hze : (Z == Z) = true := by simp
                                          clear hl4 hk4 HSY HSF HAF hZ
                                          go_wp2_with fail
                                          refine HSA.out.mono ?_
                                          rintro e w5 ⟨rfl, rfl⟩
                                          go_wp2_with fail
                                          refine HBY.out.mono ?_
                                          rintro e w6 ⟨rfl, rfl⟩
                                          go_wp2_with fail
                                          go_meet
                                          case rel => exact ⟨rfl, Lib.hid HAX.out.1, Lib.hid HAX.out.2⟩
                                        · rw [errV_ne hse] at HSY
                                          clear hse
                                          go_wp2_with fail
                                          refine HSY.out.mono ?_
                                          rintro e w4 ⟨rfl, hl4, hk4⟩
                                          have HAX := Lib.hid (HAF.out w4 hl4 hk4)
                                          clear hl4 hk4 HSY HAF
                                          go_wp2_with fail
                                          go_meet
                                          case rel => exact ⟨rfl, Lib.hid HAX.out.1, Lib.hid HAX.out.2⟩
                                      · obtain ⟨z, hz⟩ : ∃ z, z = sy.getD a 0 := ⟨_, rfl⟩
                                        rw [← hz] at d6 h3
                                        have h3b : (z == 1) = false := by simp [h3]
                                        clear h3 hz
                                        go_wp2_with fail
                                        go_meet
                                        case rel => exact ⟨rfl, HK0, HBW⟩
                                    · have h1' : ¬ (a : Int) < (n3 : Int) := by omega
                                      go_wp2_with fail
                                      go_meet
                                      case rel => exact ⟨rfl, HK0, HBW⟩
                                case rest =>
                                  as_aux_lemma =>
                                    clear HNA HH HS HBW
                                    obtain ⟨rfl, HK, HBW⟩ := hcut
                                    rename World => wi
                                    obtain ⟨Aa, ca, S, hna, hh, hs⟩ := HK.out
                                    have HNA := Lib.hid hna
                                    have HH := Lib.hid hh
                                    have HS := Lib.hid hs
                                    obtain ⟨b7, o7, rfl, hb7, d7⟩ := (H2.out.below HBW.out).at_ ha2
                                    have hsz : (ls.getD a ByteArray.empty).size ≤ 140737488351232 := HM2.out _ (by
                                      have := H2.out.len
                                      rw [List.getD_eq_getElem?_getD, List.getElem?_eq_getElem (by omega)]; exact List.getElem_mem (by omega))
                                    have HAT : Hid (∀ W, Below w.heap.size w W → W.cell? ⟨b7, o7 + a, none⟩ = some (.string (ls.getD a ByteArray.empty))) := Lib.hid fun W hW => by
                                      obtain ⟨b1, o1, hA1, _, dd⟩ := (H2.out.below hW).at_ ha2
                                      obtain ⟨rfl, rfl⟩ : b7 = b1 ∧ o7 = o1 := by simpa using hA1
                                      exact dd
                                    obtain ⟨b, hbb⟩ : ∃ b, b = ls.getD a ByteArray.empty := ⟨_, rfl⟩
                                    rw [← hbb] at d7 hsz HAT
                                    have HUN := Lib.hid (runpack_any b A0 n0 c0 s bits wi w.heap.size (H0.out.below HBW.out) HBW.out.size HN0.out hsz)
                                    have HEB := Lib.hid (unpE_bd (bytesOf b) s bits)
                                    have HE50 : Hid (unpE (bytesOf b) s bits = 0 → b.size ≤ 50) := Lib.hid fun h => by
                                      have := (unpE_zero h).2.2.1
                                      rwa [bytesOf_length] at this
                                    have HPU := Lib.hid fun W Bl (hW : LogAt W b1 X As n0 cs s bits Aa na ca S) hsz' => lput_own W b1 X As n0 cs s bits Aa na ca S b hW hsz' HS.out.2.2.2 hsz HN0.out (by have := HS.out.2.2.1; omega) (tab_on HT.out Bl)
                                    obtain ⟨E, hEE⟩ : ∃ E, E = unpE (bytesOf b) s bits := ⟨_, rfl⟩
                                    rw [← hEE] at HUN HEB HE50 HPU
                                    have HSZB := Lib.hid hsz
                                    clear hna hh hs HK hbb hEE hsz
                                    go_wp2_with fail
                                    refine HUN.out.mono ?_
                                    rintro e w4 ⟨A4', n4', c4', rfl, _, hb4⟩
                                    have HB4 := Lib.hid (below_on HBW.out hb4)
                                    have HH4 := Lib.hid (hold_below HH.out hb4)
                                    clear hb4 HUN HH d7
                                    obtain ⟨q20, hq20⟩ : ∃ q, q = decide (20 ≤ na) := ⟨_, rfl⟩
                                    have HQ20 := Lib.hid hq20
                                    clear hq20
                                    go_upto_region 30 with (fail)
                                    go_cut [169] (fun s169 wx => s169 = .bool q20 ∧ wx = w4)
                                    case first =>
                                      as_aux_lemma =>
                                        by_cases h1 : 20 ≤ na
                                        · obtain rfl : q20 = true := by rw [HQ20.out]; simp [h1]
                                          have h1' : (20 : Int) ≤ (na : Int) := by omega
                                          go_wp2_with fail
                                          go_meet
                                          case rel => exact ⟨rfl, rfl⟩
                                        · obtain rfl : q20 = false := by rw [HQ20.out]; simp [h1]
                                          have h1' : ¬ (20 : Int) ≤ (na : Int) := by omega
                                          go_wp2_with fail
                                          go_meet
                                          case rel => exact ⟨rfl, rfl⟩
                                    case rest =>
                                      as_aux_lemma =>
                                        obtain ⟨rfl, rfl⟩ := hcut
                                        rename World => w4
                                        obtain ⟨E9, hE9⟩ : ∃ e, e = if 20 ≤ na then 4 else E := ⟨_, rfl⟩
                                        have HE9 := Lib.hid hE9
                                        clear hE9
                                        go_upto_if 169 with (fail)
                                        go_cut [29] (fun s29 wx => s29 = .int .i64 E9 ∧ wx = w4)
                                        case first =>
                                          as_aux_lemma =>
                                            cases q20 with
                                            | true =>
                                              obtain rfl : E9 = 4 := by rw [HE9.out, if_pos (by have := HQ20.out; simpa using this.symm)]
                                              go_wp2_with fail
                                              go_meet
                                              case rel => exact ⟨rfl, rfl⟩
                                            | false =>
                                              obtain rfl : E9 = E := by rw [HE9.out, if_neg (by have := HQ20.out; simpa using this.symm)]
                                              go_wp2_with fail
                                              go_meet
                                              case rel => exact ⟨rfl, rfl⟩
                                        case rest =>
                                          as_aux_lemma =>
                                            obtain ⟨rfl, rfl⟩ := hcut
                                            rename World => w4
                                            have HBY := Lib.hid (lbytes_any w4 b1 X As n0 cs s bits Aa na ca S HH4.out.1)
                                            have HPU4 := Lib.hid (HPU.out w4 HB4.out HH4.out.1 (hold_b1 HH4.out))
                                            have HTO := Lib.hid (put_told (S := S) E na HNA.out)
                                            have HNE := Lib.hid (put_ne (S := S) E b)
                                            have HZE := Lib.hid (put_zero HS.out.1 E b)
                                            have HKP := Lib.hid (keep_put HS.out E b HE50.out)
                                            have HPB : Hid (-100 ≤ putE S E ∧ putE S E ≤ 100) := Lib.hid (by
                                              have := HEB.out
                                              unfold putE
                                              split
                                              · omega
                                              · split
                                                · omega
                                                · split
                                                  · exact this
                                                  · split <;> omega)
                                            have HLF := Lib.hid HS.out.2.2.1
                                            have HAQ := Lib.hid HS.out.2.1
                                            have d8 := HAT.out w4 HB4.out
                                            rw [← HE9.out] at HTO
                                            obtain ⟨P, hP⟩ : ∃ P, P = putE S E := ⟨_, rfl⟩
                                            obtain ⟨S', hS'⟩ : ∃ S', S' = putS S E b := ⟨_, rfl⟩
                                            obtain ⟨N, hN⟩ : ∃ N, N = S.bytes.length := ⟨_, rfl⟩
                                            rw [← hN] at HBY HLF HZE
                                            rw [← hP] at HPU4 HTO HNE HZE HPB
                                            rw [← hS'] at HPU4 HNE HZE HKP
                                            have HEB9 : Hid (-100 ≤ E9 ∧ E9 ≤ 100) := Lib.hid (by rw [HE9.out]; have := HEB.out; split <;> omega)
                                            clear hP hS' hN HPU HE9 HQ20 HE50 HEB HS
                                            go_wp2_with fail
                                            refine HBY.out.mono ?_
                                            rintro e w5 ⟨rfl, rfl⟩
                                            clear HBY
                                            go_wp2_with fail
                                            refine HPU4.out.mono ?_
                                            rintro e w6 ⟨A6, n6, c6, rfl, hl6, hk6, hq6⟩
                                            have HH6 := Lib.hid (hold_log HH4.out hl6 hk6 hq6)
                                            have HB6 := Lib.hid (HB4.out.trans (HH4.out.1.belowL hk6 HBB.out HB4.out.size))
                                            clear hl6 hk6 hq6 HPU4 HH4 d8
                                            have HX6 := Lib.hid fun W hW => herr_any P 6 W hW HPB.out
                                            have HX9 := Lib.hid fun W hW => herr_any P E9 W hW HPB.out
                                            have hto : sameN P 6 = true ∨ sameN P E9 = true := by
                                              rcases HTO.out with h | h
                                              · left; rw [h, sameN_self]
                                              · right; rw [h, sameN_self]
                                            obtain ⟨t6, ht6⟩ : ∃ t, t = sameN P 6 := ⟨_, rfl⟩
                                            obtain ⟨t9, ht9⟩ : ∃ t, t = sameN P E9 := ⟨_, rfl⟩
                                            rw [← ht6] at HX6 hto
                                            rw [← ht9] at HX9 hto
                                            have HTT := Lib.hid hto
                                            obtain ⟨VP, hVP⟩ : ∃ v, v = errV P := ⟨_, rfl⟩
                                            rw [← hVP] at HX6 HX9 ⊢
                                            have HVP := Lib.hid hVP
                                            clear hto ht6 ht9 hVP HTO
                                            go_wp2_with fail
                                            refine (HX6.out _ (HG.out.below HB6.out)).mono ?_
                                            rintro e w7 ⟨rfl, hb⟩
                                            have HB7 := Lib.hid (below_on HB6.out hb)
                                            have HH7 := Lib.hid (hold_below HH6.out hb)
                                            clear hb HX6 HH6
                                            go_wp2_with fail
                                            refine (HX9.out _ (HG.out.below HB7.out)).mono ?_
                                            rintro e w8 ⟨rfl, hb⟩
                                            have HB8 := Lib.hid (below_on HB7.out hb)
                                            have HH8 := Lib.hid (hold_below HH7.out hb)
                                            clear hb HX9 HH7
                                            go_upto_region 36 with (fail)
                                            go_cut [188] (fun s188 wx => s188 = .bool false ∧ wx = w8)
                                            case first =>
                                              as_aux_lemma =>
                                                have h1 := HTT.out
                                                cases t6 with
                                                | true =>
                                                  go_wp2_with fail
                                                  go_meet
                                                  case rel => exact ⟨rfl, rfl⟩
                                                | false =>
                                                  obtain rfl : t9 = true := by simpa using h1
                                                  go_wp2_with fail
                                                  go_meet
                                                  case rel => exact ⟨rfl, rfl⟩
                                            case rest =>
                                              as_aux_lemma =>
                                                obtain ⟨rfl, rfl⟩ := hcut
                                                rename World => w8
                                                clear HTT
                                                obtain ⟨qp, hqp⟩ : ∃ q, q = decide (P = 0) := ⟨_, rfl⟩
                                                have HQP := Lib.hid hqp
                                                clear hqp
                                                go_upto_region 38 with (fail)
                                                go_cut [190] (fun s190 wx => s190 = .bool qp ∧ wx = w8)
                                                case first =>
                                                  as_aux_lemma =>
                                                    by_cases h1 : P = 0
                                                    · obtain rfl : qp = true := by rw [HQP.out]; simp [h1]
                                                      obtain rfl : VP = .nilIface := by rw [HVP.out, h1, errV_zero]
                                                      go_wp2_with fail
                                                      go_meet
                                                      case rel => exact ⟨rfl, rfl⟩
                                                    · obtain rfl : qp = false := by rw [HQP.out]; simp [h1]
                                                      have h2 := HVP.out
                                                      rw [errV_ne h1] at h2
                                                      subst h2
                                                      go_wp2_with fail
                                                      go_meet
                                                      case rel => exact ⟨rfl, rfl⟩
                                                case rest =>
                                                  as_aux_lemma =>
                                                    obtain ⟨rfl, rfl⟩ := hcut
                                                    rename World => w8
                                                    go_upto_if 190 with (fail)
                                                    go_cut [23, 24] (fun s23 s24 wx => ∃ (na cd cm : Nat) (Dd Mm : Option Addr), s23 = .slice Dd na cd ∧ s24 = .slice Mm (na + 1) cm ∧ Hid (KeepW wx b1 b2 X As n0 cs s bits (a + 1) Dd na cd Mm cm) ∧ Hid (Below w.heap.size w wx))
                                                    case first =>
                                                      as_aux_lemma =>
                                                        cases qp with
                                                        | false =>
                                                          have hP0 : P ≠ 0 := by have := HQP.out; simpa using this.symm
                                                          have hn6 : S'.all.length = na := by rw [HNE.out hP0]; exact HNA.out
                                                          have HKW : Hid (KeepW w8 b1 b2 X As n0 cs s bits (a + 1) Dd na cd Mm cm) := Lib.hid ⟨A6, c6, S', hn6, by
                                                            have h := HH8.out
                                                            have hl := h.1.len
                                                            rw [HNE.out hP0, HNA.out] at hl
                                                            subst hl
                                                            rw [HNE.out hP0]; exact h, HKP.out⟩
                                                          go_wp2_with fail
                                                          go_meet
                                                          case rel => exact ⟨na, cd, cm, Dd, Mm, rfl, rfl, HKW, HB8⟩
                                                        | true =>
                                                          have hP0 : P = 0 := by have := HQP.out; simpa using this.symm
                                                          obtain ⟨z1, z2, z3⟩ := HZE.out hP0
                                                          have HBY8 := Lib.hid fun W hW => lbytes_any W b1 X As n0 cs s bits A6 n6 c6 S' hW
                                                          have HZ1 := Lib.hid z1
                                                          obtain ⟨M, hM⟩ : ∃ M, M = S'.bytes.length := ⟨_, rfl⟩
                                                          rw [← hM] at HBY8 z2 z3
                                                          have HZ2 := Lib.hid z2
                                                          have hM2 : ¬ (M : Int) < (N : Int) + 2 := by omega
                                                          have hN2 : N ≤ 100000 := by have := HLF.out; omega
                                                          have hna9 : na + 1 ≤ 1000 := by have := HNA.out; have := HAQ.out; omega
                                                          have HNA9 := Lib.hid hna9
                                                          have HKA : Hid (na + 1 ≤ 4000000000) := Lib.hid (by omega)
                                                          have HKB : Hid (na + 1 + 1 ≤ 17592186044415) := Lib.hid (by omega)
                                                          clear hP0 z1 z2 hM z3 hna9
                                                          go_wp2_with fail
                                                          refine (HBY8.out _ HH8.out.1).mono ?_
                                                          rintro e w9 ⟨rfl, rfl⟩
                                                          have d9 := HAT.out w9 HB8.out
                                                          have hna := HNA.out
                                                          have hl6 := HH8.out.1.len
                                                          rw [HZ1.out, List.length_append, List.length_singleton] at hl6
                                                          subst hna
                                                          subst hl6
                                                          have hbs := hold_b1 HH8.out
                                                          go_upto_region 41 with (fail)
                                                          go_wp2_with (at_builtin; refine wpList_pushStr2 _ (by rfl) _ _ (by rfl) b1 Dd S.all.length cd S.all b HH8.out.2.1 hbs HKA.out (by rfl) (by rfl) ?_; intro g9 cap9 w10 ho9 hg9 hq9; have HHA := Lib.hid (hold_pushD HH8.out ho9 hg9 hq9); have HBA := Lib.hid (hold_belowD HB8.out HBB.out HH8.out hg9); clear ho9 hg9 hq9 hbs d9)
                                                          refine (HBY8.out _ HHA.out.1).mono ?_
                                                          rintro e w11 ⟨rfl, rfl⟩
                                                          have hbs2 : b2 ≤ w11.heap.size := HHA.out.2.2.2.2.2.2.2
                                                          have HMO : Hid (w11.ownsRow b2 3 1 (.slice Mm (S.all.length + 1) cm) (S.all.length + 1) (ivals (marksOf S.all))) := Lib.hid (by have := HHA.out.2.2.1; rw [marks_len] at this; exact this)
                                                          go_wp2_with (at_builtin; refine wpList_pushI _ (by rfl) _ _ (by rfl) b2 Mm (S.all.length + 1) cm (marksOf S.all) (M : Int) HMO.out hbs2 HKB.out (by rfl) (by rfl) ?_; intro gM cM w12 hoM hgM; have HHB := Lib.hid (hold_pushM' (marks_len S.all) HHA.out hoM hgM); have HBC := Lib.hid (hold_belowM' (marks_len S.all) HBA.out HBB.out HHA.out hgM); clear hoM hgM hbs2)
                                                          go_meet
                                                          case rel =>
                                                            refine ⟨S.all.length + 1, cap9, cM, some ⟨g9, 0, none⟩, some ⟨gM, 0, none⟩, rfl, rfl, Lib.hid ⟨A6, c6, S', by rw [HZ1.out]; simp, ?_, HKP.out⟩, HBC⟩
                                                            have h := HHB.out
                                                            rw [HZ2.out, ← marks_push, ← HZ1.out] at h
                                                            exact h
                                                    case rest =>
                                                      as_aux_lemma =>
                                                        clear HNA HH8 HB8
                                                        obtain ⟨na, cd, cm, Dd, Mm, rfl, rfl, HK, HBW⟩ := hcut
                                                        rename World => w9
                                                        obtain ⟨Aa, ca, S, hna, hh, hs⟩ := HK.out
                                                        have hna20 : na ≤ 1000000 := by have := hs.2.1; omega
                                                        have hna14 : na ≤ 100000000000000 := by omega
                                                        have HAL := Lib.hid (lall_any w9 b1 X As n0 cs s bits Aa na ca S hh.1 hna20)
                                                        have HRD : Hid (RdS w9 w9.heap.size Dd na S.all) := Lib.hid (by have := RdS.own hh.2.1; rwa [hna] at this)
                                                        clear hna hh hs
                                                        go_wp2_with fail
                                                        refine HAL.out.mono ?_
                                                        rintro e w10 ⟨A10, c10, rfl, ho10, hb10⟩
                                                        have HSS := Lib.hid (strs_same A10 Dd na c10 cd S.all w10 w10.heap.size w10.heap.size (RdS.own ho10) (HRD.out.on hb10) hna14)
                                                        have HB10 := Lib.hid (below_on HBW.out hb10)
                                                        have HK10 : Hid (KeepW w10 b1 b2 X As n0 cs s bits (a + 1) Dd na cd Mm cm) := Lib.hid (keepW_below HK.out hb10)
                                                        clear ho10 hb10 HAL HRD HK
                                                        go_wp2_with fail
                                                        refine HSS.out.mono ?_
                                                        rintro e w11 ⟨rfl, hb11⟩
                                                        have HB11 := Lib.hid (below_on HB10.out hb11)
                                                        have HK11 := Lib.hid (keepW_below HK10.out hb11)
                                                        clear hb11 HSS HK10
                                                        go_wp2_with fail
                                                        go_roundw
                                                        case rel => exact ⟨k + 1, a + 1, na, cd, cm, Dd, Mm, by omega, by omega, by omega, by go_num, by go_num, rfl, rfl, HK11, HB11⟩
                                                        case measure => simp [intOf]; omega
                              | false =>
                                clear HQ
                                obtain ⟨qk, hqk⟩ : ∃ q, q = decide (r < n5) := ⟨_, rfl⟩
                                have HQK := Lib.hid hqk
                                clear hqk
                                go_upto_region 47 with (fail)
                                go_cut [218] (fun s218 wx => s218 = .bool qk ∧ wx = wi)
                                case first =>
                                  as_aux_lemma =>
                                    by_cases h1 : r < n5
                                    · obtain rfl : qk = true := by rw [HQK.out]; simp [h1]
                                      have h1' : (r : Int) < (n5 : Int) := by omega
                                      go_wp2_with fail
                                      go_meet
                                      case rel => exact ⟨rfl, rfl⟩
                                    · obtain rfl : qk = false := by rw [HQK.out]; simp [h1]
                                      have h1' : ¬ (r : Int) < (n5 : Int) := by omega
                                      go_wp2_with fail
                                      go_meet
                                      case rel => exact ⟨rfl, rfl⟩
                                case rest =>
                                  as_aux_lemma =>
                                    obtain ⟨rfl, rfl⟩ := hcut
                                    rename World => wi
                                    obtain ⟨kp, hkp⟩ : ∃ e, e = if r < n5 then ks.getD r 0 else 0 := ⟨_, rfl⟩
                                    have HKP := Lib.hid hkp
                                    clear hkp
                                    go_upto_if 218 with (fail)
                                    go_cut [33] (fun s33 wx => s33 = .int .i64 kp ∧ wx = wi)
                                    case first =>
                                      as_aux_lemma =>
                                        cases qk with
                                        | true =>
                                          have h1 : r < n5 := by have := HQK.out; simpa using this.symm
                                          obtain ⟨b6, o6, rfl, hb6, d6⟩ := (H5.out.below HBW.out).at_ h1
                                          have e := HKP.out
                                          rw [if_pos h1] at e
                                          rw [← e] at d6
                                          have hlt' : (r : Int) < (n5 : Int) := by omega
                                          clear e
                                          go_wp2_with fail
                                          go_meet
                                          case rel => exact ⟨rfl, rfl⟩
                                        | false =>
                                          obtain rfl : kp = 0 := by rw [HKP.out, if_neg (by have := HQK.out; simpa using this.symm)]
                                          go_wp2_with fail
                                          go_meet
                                          case rel => exact ⟨rfl, rfl⟩
                                    case rest =>
                                      as_aux_lemma =>
                                        obtain ⟨rfl, rfl⟩ := hcut
                                        rename World => wi
                                        clear HKP HQK
                                        obtain ⟨Aa, ca, S, hna, hh, hs⟩ := HK.out
                                        subst hna
                                        have hNB : S.bytes.length ≤ 100000 := by have := hs.2.2.1; omega
                                        have hna9 : S.all.length ≤ 1000 := by have := hs.2.1; omega
                                        have HCR : Hid (Calls Tryz.prog 8 #[.pointer (some ⟨X, 0, none⟩), .int .i64 kp] wi fun e w' => e = .returned (.tuple #[]) ∧ (∃ i c', i ≤ S.all.length ∧ Ph.mark (recsOf S.all) i ≤ highOf S kp ∧ (∀ j, i < j → j ≤ S.all.length → highOf S kp < Ph.mark (recsOf S.all) j) ∧ LogAt w' b1 X As n0 cs s bits Aa i c' (crashS S (recsOf S.all) i)) ∧ KeptBut (fun k => k = X) wi w') := Lib.hid (by
                                          obtain ⟨⟨tail, t1, t2, _⟩, t4, t5⟩ := hs.1
                                          exact lcrash_any wi b1 X As n0 cs s bits Aa S.all.length ca S kp (recsOf S.all) tail hh.1 t1 (recsOf_len _) (recsOf_rec _) t2 ⟨t4, t5⟩ hNB hna9)
                                        have HBY := Lib.hid (lbytes_any wi b1 X As n0 cs s bits Aa S.all.length ca S hh.1)
                                        have HSA := Lib.hid (lsafe_any wi b1 X As n0 cs s bits Aa S.all.length ca S hh.1)
                                        have hZ0 : 0 ≤ S.safe := hs.1.2.1
                                        have hZ1 : S.safe ≤ ((S.bytes.length : Nat) : Int) := hs.1.2.2
                                        have hHI : ((highOf S kp : Nat) : Int) = S.safe + max 0 (min kp ((S.bytes.length : Int) - S.safe)) := by unfold highOf; rw [Int.toNat_of_nonneg (by omega)]
                                        have HH := Lib.hid hh
                                        have HS := Lib.hid hs
                                        obtain ⟨H, hH⟩ : ∃ q, q = highOf S kp := ⟨_, rfl⟩
                                        rw [← hH] at hHI HCR
                                        obtain ⟨NB, hNBe⟩ : ∃ q, q = S.bytes.length := ⟨_, rfl⟩
                                        rw [← hNBe] at hHI hNB hZ1 HBY
                                        obtain ⟨Z, hZe⟩ : ∃ q, q = S.safe := ⟨_, rfl⟩
                                        rw [← hZe] at hHI hZ0 hZ1 HSA
                                        have HHI := Lib.hid hHI
                                        clear hh hs HK hH hNBe hZe hHI
                                        go_wp2_with fail
                                        refine HBY.out.mono ?_
                                        rintro e w2 ⟨rfl, rfl⟩
                                        clear HBY
                                        go_wp2_with fail
                                        refine HSA.out.mono ?_
                                        rintro e w3 ⟨rfl, rfl⟩
                                        clear HSA
                                        go_wp2_with fail
                                        refine HCR.out.mono ?_
                                        rintro e w4 ⟨rfl, ⟨L, c4', hL, m1, m2, hl4⟩, hk4⟩
                                        have hh4 := hold_log HH.out hl4 (hk4.mono fun k _ h => .inl h) (fun q h => .inl (by cases Aa with | none => exact h | some a => exact h))
                                        have HB4 := Lib.hid (HBW.out.trans (HH.out.1.belowL (hk4.mono fun k _ h => .inl h) HBB.out HBW.out.size))
                                        have hcD : S.all.length ≤ cd := own_cap hh4.2.1
                                        have hcM : S.all.length + 1 ≤ cm := by have := own_cap hh4.2.2.1; rwa [marks_len] at this
                                        have HRM : Hid (RdI w4 w4.heap.size Mm (S.all.length + 1) (marksOf S.all)) := Lib.hid (by have := RdI.own hh4.2.2.1; rwa [marks_len] at this)
                                        have HRD : Hid (RdS w4 w4.heap.size Dd L (S.all.take L)) := Lib.hid (by have h := RdS.own (hold_cut hh4 (i := L) hL (by rw [marks_len]; omega)).2.1; rwa [List.length_take, Nat.min_eq_left hL] at h)
                                        have HS4 : Hid ((crashS S (recsOf S.all) L).all = S.all.take L ∧ (crashS S (recsOf S.all) L).bytes.length = Ph.mark (recsOf S.all) L ∧ (crashS S (recsOf S.all) L).safe = ((Ph.mark (recsOf S.all) L : Nat) : Int)) := Lib.hid ⟨rfl, rfl, rfl⟩
                                        have HK5 : Hid (KeepW w4 b1 b2 X As n0 cs s bits a Dd L cd Mm cm) := Lib.hid ⟨Aa, c4', crashS S (recsOf S.all) L, by simp only [crashS, List.length_take]; omega, by
                                          have h := hold_cut hh4 (i := L) hL (by rw [marks_len]; omega)
                                          rw [marks_take hL] at h
                                          exact h, keep_crash HS.out L⟩
                                        have HM1 := Lib.hid m1
                                        have HM2' := Lib.hid m2
                                        have HL4 := Lib.hid hl4
                                        obtain ⟨S4, hS4⟩ : ∃ q, q = crashS S (recsOf S.all) L := ⟨_, rfl⟩
                                        rw [← hS4] at HL4 HS4
                                        obtain ⟨la, hla⟩ : ∃ q, q = S.all := ⟨_, rfl⟩
                                        rw [← hla] at hcD hcM HRM HM1 HM2' hL hna9 HRD HS4 ⊢
                                        obtain ⟨na, hna⟩ : ∃ q, q = la.length := ⟨_, rfl⟩
                                        rw [← hna] at hcD hcM HRM HM2' hL hna9 ⊢
                                        have HNL := Lib.hid hna
                                        clear hl4 hk4 hh4 HCR HH HS m1 m2 hla hna hS4
                                        obtain ⟨q9, hq9⟩ : ∃ q, q = (decide (0 < kp) && decide (kp < (NB : Int) - Z)) := ⟨_, rfl⟩
                                        have HQ9 := Lib.hid hq9
                                        clear hq9
                                        go_upto_region 53 with (fail)
                                        go_cut [239] (fun s239 wx => s239 = .bool q9 ∧ wx = w4)
                                        case first =>
                                          as_aux_lemma =>
                                            by_cases h1 : 0 < kp
                                            · by_cases h3 : kp < (NB : Int) - Z
                                              · obtain rfl : q9 = true := by rw [HQ9.out]; simp [h1, h3]
                                                go_wp2_with fail
                                                go_meet
                                                case rel => exact ⟨rfl, rfl⟩
                                              · obtain rfl : q9 = false := by rw [HQ9.out]; simp [h1, h3]
                                                go_wp2_with fail
                                                go_meet
                                                case rel => exact ⟨rfl, rfl⟩
                                            · obtain rfl : q9 = false := by rw [HQ9.out]; simp [h1]
                                              go_wp2_with fail
                                              go_meet
                                              case rel => exact ⟨rfl, rfl⟩
                                        case rest =>
                                          as_aux_lemma =>
                                            obtain ⟨rfl, rfl⟩ := hcut
                                            rename World => w4
                                            go_upto_if 239 with (fail)
                                            go_cut [36] (fun s36 wx => s36 = .int .i64 ((H : Nat) : Int) ∧ wx = w4)
                                            case first =>
                                              as_aux_lemma =>
                                                cases q9 with
                                                | true =>
                                                  have h1 := HQ9.out
                                                  simp at h1
                                                  have h2 := HHI.out
                                                  have H4 : Hid (((H : Nat) : Int) = Z + kp) := Lib.hid (by omega)
                                                  have h5 : Z + kp ≤ 100000 := by omega
                                                  clear h2
                                                  go_wp2_with fail
                                                  go_meet
                                                  case rel => exact ⟨by rw [H4.out], rfl⟩
                                                | false =>
                                                  by_cases h1 : 0 < kp
                                                  · have h2 := HHI.out
                                                    have h3 := HQ9.out
                                                    simp [h1] at h3
                                                    have H4 : Hid (((H : Nat) : Int) = (NB : Int)) := Lib.hid (by omega)
                                                    clear h2 h3
                                                    go_wp2_with fail
                                                    go_meet
                                                    case rel => exact ⟨by rw [H4.out], rfl⟩
                                                  · have h2 := HHI.out
                                                    have H4 : Hid (((H : Nat) : Int) = Z) := Lib.hid (by omega)
                                                    clear h2
                                                    go_wp2_with fail
                                                    go_meet
                                                    case rel => exact ⟨by rw [H4.out], rfl⟩
                                            case rest =>
                                              as_aux_lemma =>
                                                obtain ⟨rfl, rfl⟩ := hcut
                                                rename World => w4
                                                clear HQ9 HHI hZ0 hZ1 hNB
                                                go_wp2_with fail
                                                go_loopw [37, 38] (fun lf ii wm => ∃ j : Nat, j ≤ na + 1 ∧ ii = .int .i64 j ∧ lf = .int .i64 ((min (j - 1) L : Nat) : Int) ∧ wm = w4) (fun _ ii _ => na + 1 - (intOf ii).toNat)
                                                case atStart => exact ⟨0, by omega, rfl, by rw [show min (0 - 1) L = 0 by omega]; rfl, rfl⟩
                                                case round =>
                                                  as_aux_lemma =>
                                                    obtain ⟨j, hj, rfl, rfl, rfl⟩ := hrel
                                                    rename World => w4
                                                    by_cases hlt : j < na + 1
                                                    · obtain ⟨b6, o6, rfl, hb6, d6⟩ := HRM.out.at_ hlt
                                                      rw [marks_get (by have := HNL.out; omega)] at d6
                                                      have hlt' : (j : Int) < (na : Int) + 1 := by omega
                                                      by_cases hjl : j ≤ L
                                                      · have hm : Ph.mark (recsOf la) j ≤ H := Nat.le_trans (Ph.mark_mono _ hjl) HM1.out
                                                        obtain ⟨m, hmm⟩ : ∃ m, m = Ph.mark (recsOf la) j := ⟨_, rfl⟩
                                                        rw [← hmm] at d6 hm
                                                        have hm' : (m : Int) ≤ (H : Int) := by omega
                                                        clear hmm
                                                        go_wp2_with fail
                                                        go_roundw
                                                        case rel => exact ⟨j + 1, by omega, by go_num, by rw [show min (j + 1 - 1) L = j by omega], trivial⟩
                                                        case measure => simp [intOf]; omega
                                                      · have hm : H < Ph.mark (recsOf la) j := HM2'.out j (by omega) (by omega)
                                                        obtain ⟨m, hmm⟩ : ∃ m, m = Ph.mark (recsOf la) j := ⟨_, rfl⟩
                                                        rw [← hmm] at d6 hm
                                                        have hm' : ¬ (m : Int) ≤ (H : Int) := by omega
                                                        clear hmm
                                                        go_wp2_with fail
                                                        go_roundw
                                                        case rel => exact ⟨j + 1, by omega, by go_num, by rw [show min (j - 1) L = min (j + 1 - 1) L by omega], trivial⟩
                                                        case measure => simp [intOf]; omega
                                                    · have hlt' : ¬ (j : Int) < (na : Int) + 1 := by omega
                                                      have he : min (j - 1) L = L := by omega
                                                      rw [he]
                                                      clear he
                                                      have hLd : L ≤ cd := by omega
                                                      have hLm : L + 1 ≤ cm := by omega
                                                      obtain ⟨bM, oM, rfl, hbM, d7⟩ := HRM.out.at_ (k := L) (by omega)
                                                      rw [marks_get (by have := HNL.out; omega)] at d7
                                                      have HS4' := HS4.out
                                                      obtain ⟨m, hmm⟩ : ∃ m, m = Ph.mark (recsOf la) L := ⟨_, rfl⟩
                                                      rw [← hmm] at d7 HS4'
                                                      have hL6 : L ≤ 1000000 := by omega
                                                      have hL14 : L ≤ 100000000000000 := by omega
                                                      have HAL := Lib.hid fun W (hW : Below w4.heap.size w4 W) => lall_any W b1 X As n0 cs s bits Aa L c4' S4 (HL4.out.below' hW) hL6
                                                      have HST := Lib.hid fun W A5 c5 (hW : Below w4.heap.size w4 W) (ho : RdS W W.heap.size A5 L (la.take L)) => strs_same A5 Dd L c5 cd (la.take L) W W.heap.size W.heap.size ho (HRD.out.on hW) hL14
                                                      have HBY := Lib.hid fun W (hW : Below w4.heap.size w4 W) => lbytes_any W b1 X As n0 cs s bits Aa L c4' S4 (HL4.out.below' hW)
                                                      have HSA := Lib.hid fun W (hW : Below w4.heap.size w4 W) => lsafe_any W b1 X As n0 cs s bits Aa L c4' S4 (HL4.out.below' hW)
                                                      rw [HS4'.2.1] at HBY
                                                      rw [HS4'.2.2] at HSA
                                                      rw [HS4'.1] at HAL
                                                      have hme : ((m : Int) == (m : Int)) = true := by simp
                                                      have hmn : ((m : Int) != (m : Int)) = false := by simp
                                                      have K4 := Lib.hid (And.intro hbM d7)
                                                      clear HS4' hmm HS4 HL4
                                                      go_upto_region 65 with (fail)
                                                      have i1 : (0 : Int) ≤ (L : Int) := by omega
                                                      have i2 : (L : Int) < (L : Int) + 1 := by omega
                                                      have i3 : (L : Int) ≤ (L : Int) + 1 := by omega
                                                      go_region_held3 (fun w' => w'.cell? ⟨bM, oM + L, none⟩ = some (.int .i64 (m : Int))) (first | go_keep | exact K6.out | exact K5.out | exact K4.out.2 | fail) (first
                                                        | (go_at_call 9; refine (HAL.out w4.drew (below_same (Below.refl _ _) rfl rfl rfl rfl)).mono ?_; rintro e w5 ⟨A5, c5, rfl, ho5, hb5⟩; have HB5 : Hid (Below w4.heap.size w4 w5) := Lib.hid ⟨hb5.os, hb5.tape, hb5.output, hb5.size, hb5.block⟩; have HO5 := Lib.hid (RdS.own ho5); have K5 := Lib.hid ((HB5.out.cell K4.out.1).trans K4.out.2); clear ho5 hb5)
                                                        | (go_at_call 16; refine (HST.out w5 A5 c5 HB5.out HO5.out).mono ?_; rintro e w6 ⟨rfl, hb6⟩; have HB6 := Lib.hid (below_on HB5.out hb6); have K6 := Lib.hid ((HB6.out.cell K4.out.1).trans K4.out.2); clear hb6)
                                                        | (go_at_call 10; refine (HBY.out _ HB6.out).mono ?_; rintro e w' ⟨rfl, rfl⟩)
                                                        | (go_at_call 11; refine (HSA.out _ HB6.out).mono ?_; rintro e w' ⟨rfl, rfl⟩)
                                                        | fail)
                                                      clear i1 i2 i3
                                                      have HK7 := Lib.hid (keepW_below HK5.out HB6.out)
                                                      have HB7 := Lib.hid (below_on HB4.out HB6.out)
                                                      clear HAL HST HBY HSA K4 K5 K6 HB5 HO5 HRM HRD d7
                                                      go_wp2_with fail
                                                      go_roundw
                                                      case rel => exact ⟨r + 1, a, L, cd, cm, Dd, some ⟨bM, oM, none⟩, by omega, by omega, han, by go_num, rfl, rfl, rfl, HK7, HB7⟩
                                                      case measure => simp [intOf]; omega
            | false =>
              clear HQ
              go_wp2_with fail
              go_ret
              exact ⟨rfl, HBW.out⟩
  · have HNO := Lib.hid (lnew_no A0 n0 c0 s bits w8 w.heap.size (H0.out.below HB7.out) HN0.out hE)
    have HX0 := Lib.hid fun W hW => herr_any (newErr s bits) (newErr s bits) W hW HSE.out
    rw [sameN_self] at HX0
    rw [errV_ne hE] at HNO HX0
    obtain ⟨E, hEE⟩ : ∃ E, E = newErr s bits := ⟨_, rfl⟩
    rw [← hEE] at HNO HX0 hE ⊢
    have hq : (E == 0) = false := beq_eq_false_iff_ne.2 hE
    clear hEE hE
    go_wp2_with fail
    refine HNO.out.mono ?_
    rintro e w9 ⟨rfl, rfl⟩
    clear HNO
    go_wp2_with fail
    refine (HX0.out _ (HG.out.below HB7.out)).mono ?_
    rintro e w10 ⟨rfl, hb⟩
    have HB10 := Lib.hid (below_on HB7.out hb)
    clear hb HX0
    go_wp2_with fail
    go_ret
    exact ⟨rfl, HB10.out⟩
end Go.Proofs.YtmohilfebgahoaaGreatDoor
