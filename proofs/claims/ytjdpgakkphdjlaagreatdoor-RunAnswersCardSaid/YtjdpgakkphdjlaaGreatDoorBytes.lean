/- Bytes: slices that read as bytes, bytes of the call's own, strings of bytes and back. No function of the program is named here. -/
import Derived.Test.YtjdpgakkphdjlaaGreatDoorMem
import Derived.Laws.BytesArg
import Derived.Laws.Strings
import Derived.Laws.IdiomStrings
namespace Go.Proofs.YtjdpgakkphdjlaaGreatDoor
open Go.RowKit

/-- The bytes of a list as values. -/
def bvals (l : List Nat) : List Value := l.map fun (n : Nat) => Value.int .u8 (n : Int)
theorem bvals_length (l : List Nat) : (bvals l).length = l.length := by simp [bvals]
theorem bvals_get {l : List Nat} {k : Nat} (h : k < l.length) : (bvals l)[k]? = some (.int .u8 (l.getD k 0 : Nat)) := by
  simp [bvals, List.getElem?_eq_getElem h]
theorem bvals_append (a b : List Nat) : bvals (a ++ b) = bvals a ++ bvals b := by simp [bvals]
theorem bvals_set (l : List Nat) (i : Nat) (x : Nat) : (bvals l).set i (.int .u8 (x : Int)) = bvals (l.set i x) := by simp [bvals, List.map_set]
theorem bvals_one (l : List Nat) : ∀ u ∈ bvals l, u.oneCell' = true := by
  intro u hu
  obtain ⟨x, _, rfl⟩ := List.mem_map.1 hu
  rfl
theorem byte_info : (Tryz.prog.info? 5).map (fun i => (i.zero, i.size, i.bytes)) = some (some (.int .u8 0), 1, 1) := by kernel_rfl
/-- A slice that reads as the bytes l. -/
def RdB (w : World) (B : Nat) (A : Option Addr) (n : Nat) (l : List Nat) : Prop := Rd w B A n (bvals l)
section
variable {w w' : World} {B B' n : Nat} {A : Option Addr} {l : List Nat}
theorem RdB.len (h : RdB w B A n l) : l.length = n := by have := h.1; rwa [bvals_length] at this
theorem RdB.nil : RdB w B A 0 [] := Rd.nil
theorem RdB.at_ {k : Nat} (h : RdB w B A n l) (hk : k < n) : ∃ b off, A = some ⟨b, off, none⟩ ∧ b < B ∧ w.cell? ⟨b, off + k, none⟩ = some (.int .u8 (l.getD k 0 : Nat)) := by
  obtain ⟨b, off, u, e, hb, hu, hc⟩ := Rd.at_ h hk
  have hl := h.len
  rw [bvals_get (by omega)] at hu
  exact ⟨b, off, e, hb, by rw [hc, ← hu]⟩
theorem RdB.more (h : RdB w B A n l) (hB : B ≤ B') : RdB w B' A n l := Rd.more h hB
theorem RdB.below (h : RdB w B A n l) (hb : Below B w w') : RdB w' B A n l := Rd.below h hb
theorem RdB.on {w1 : World} (h : RdB w w.heap.size A n l) (hb : Below w.heap.size w w1) : RdB w1 w1.heap.size A n l := (h.below hb).more hb.size
theorem RdB.own {base : Nat} {e : TypeId} {c : Nat} (h : w.ownsRow base e 1 (.slice A n c) n (bvals l)) : RdB w w.heap.size A n l := Rd.own h
theorem RdB.drop_if {k cap : Nat} (h : RdB w B A n l) (hk : k ≤ n) (hc : n ≤ cap) : RdB w B (if cap = k then A else A.map (·.add k)) (n - k) (l.drop k) := by
  have := Rd.drop_if (cap := cap) h hk hc
  unfold RdB bvals at *
  rwa [← List.map_drop] at this
end
/-- 'append(v, x)' of one byte to one's own bytes. -/
theorem wpList_pushB {ops : Array Oper} {rest : List Oper} {o : Oper} {a : Act} {Q : Exit → Act → World → Prop} (w : World) (hgd : o.guard = none) (s x : Operand)
    (ho : o.op = .call { callee := .builtin .append, args := #[s, x], argTypes := #[37, 37] })
    (W0 : World) (base : Nat) (A : Option Addr) (k c : Nat) (l : List Nat) (y : Nat) (hown : w.ownsRow base 5 1 (.slice A k c) k (bvals l)) (hbel : Below base W0 w) (hbase : base ≤ w.heap.size)
    (hk : k + 1 ≤ 17592186044415) (hs : a.eval s = .slice A k c) (hx : a.eval x = .slice (some ⟨w.heap.size, 0, none⟩) 1 1)
    (h : ∀ g cap w', w'.ownsRow base 5 1 (.slice (some ⟨g, 0, none⟩) (k + 1) cap) (k + 1) (bvals (l ++ [y])) → Below base W0 w' → wpList Tryz.prog ops Q rest (a.put o.dst (.slice (some ⟨g, 0, none⟩) (k + 1) cap)) w') :
    wpList Tryz.prog ops Q (o :: rest) a (w.alloc (.cells #[.int .u8 (y : Int)] 5)) := by
  obtain ⟨i0, hi, hz0, hz1, hz2⟩ := info_parts byte_info
  refine wpList_append_lies _ hgd s x 37 ho base 5 i0 (.int .u8 0) 1 1 Tryz.underlying37 hi hz0 hz1 hz2 rfl (by omega) _ _ _ hs (hown.alloc _) ⟨w.heap.size, 0, none⟩ 1 1 [.int .u8 (y : Int)] hx rfl ?_ ?_ (by omega) ?_ ?_ ?_ (w.heap.size + 1) (by simp) ?_
  · intro j u hj
    match j, hj with
    | 0, hj => simp at hj; subst hj; simp [Addr.add]
  · intro u hu
    simp at hu
    subst hu
    rfl
  · unfold maxLen; omega
  · omega
  · simp; omega
  · intro g cap w' ho' hg _ _
    refine h g cap w' (by rw [bvals_append]; exact ho') ?_
    refine (hbel.alloc hbase _).grown hg (by simp; omega) ?_
    intro q hq
    rcases hown.2 with ⟨h1, h2⟩ | ⟨g', cap', cur, h1, h2, _⟩
    · rw [h1] at hq; simp [Value.ownBlock] at hq
    · rw [h1] at hq; simp [Value.ownBlock] at hq; omega
set_option maxRecDepth 100000 in
/-- 'append(v, u...)' where v is nil or the call's own, and u bytes that read. -/
theorem wpList_joinB {ops : Array Oper} {rest : List Oper} {o : Oper} {a : Act} {Q : Exit → Act → World → Prop} (w : World) (hgd : o.guard = none) (s x : Operand)
    (ho : o.op = .call { callee := .builtin .append, args := #[s, x], argTypes := #[37, 37] })
    (W0 : World) (base : Nat) (A : Option Addr) (k c : Nat) (l : List Nat) (A2 : Option Addr) (k2 c2 : Nat) (l2 : List Nat) (B2 : Nat) (hown : w.ownsRow base 5 1 (.slice A k c) k (bvals l)) (hbel : Below base W0 w) (hbase : base ≤ w.heap.size)
    (h2 : RdB w B2 A2 k2 l2) (hnil : A2 = none → c2 = 0) (hk : k + k2 ≤ 17592186044415) (hs : a.eval s = .slice A k c) (hx : a.eval x = .slice A2 k2 c2)
    (h : ∀ A' cap w', w'.ownsRow base 5 1 (.slice A' (k + k2) cap) (k + k2) (bvals (l ++ l2)) → Below base W0 w' → wpList Tryz.prog ops Q rest (a.put o.dst (.slice A' (k + k2) cap)) w') :
    wpList Tryz.prog ops Q (o :: rest) a w := by
  obtain ⟨i0, hi, hz0, hz1, hz2⟩ := info_parts byte_info
  have hlen := h2.len
  cases A2 with
  | none =>
    have hk0 : k2 = 0 := by
      rcases Nat.eq_zero_or_pos k2 with h0 | h0
      · exact h0
      · obtain ⟨b, off, hA, _⟩ := h2.at_ h0
        cases hA
    have hc0 := hnil rfl
    subst hk0
    subst hc0
    have hl2 : l2 = [] := List.length_eq_zero_iff.1 hlen
    subst hl2
    refine wpList_append_own_none hgd s x 37 ho base 5 i0 1 Tryz.underlying37 hi _ _ _ hs hown hx ?_
    exact h A c w (by rw [List.append_nil]; exact hown) hbel
  | some ad =>
    refine wpList_append_own _ hgd s x 37 ho base 5 i0 (.int .u8 0) 1 1 Tryz.underlying37 hi hz0 hz1 hz2 rfl (by omega) _ _ _ hs hown ad k2 c2 (bvals l2) hx (by rw [bvals_length]; omega) ?_ (bvals_one _) ?_ (by omega) hbase ?_
    · intro j u hj
      have hj2 : j < k2 := by
        rcases Nat.lt_or_ge j k2 with h0 | h0
        · exact h0
        · rw [List.getElem?_eq_none (by rw [bvals_length]; omega)] at hj
          cases hj
      obtain ⟨b, off, hA, _, hc⟩ := h2.at_ hj2
      have hA2 : ad = ⟨b, off, none⟩ := by injection hA
      subst hA2
      rw [bvals_get (by omega)] at hj
      rw [← hj, ← hc]
      congr 1
      unfold Addr.add
      split
      · rename_i h0; subst h0; rfl
      · rfl
    · unfold maxLen; omega
    · intro v' w' ho' hg _
      obtain ⟨A', cap, rfl⟩ := own_slice ho'
      exact h A' cap w' (by rw [bvals_append]; exact ho') (grown_below hown hbel hbase hg)
/-- A string of bytes. -/
def strB (l : List Nat) : ByteArray := ⟨(l.map UInt8.ofNat).toArray⟩
/-- The bytes of a string. -/
def bytesOf (s : ByteArray) : List Nat := s.data.toList.map UInt8.toNat
theorem bytesOf_lt (s : ByteArray) : ∀ x ∈ bytesOf s, x < 256 := fun x hx => by
  obtain ⟨b, _, rfl⟩ := List.mem_map.1 hx
  exact b.toNat_lt
theorem bytesOf_length (s : ByteArray) : (bytesOf s).length = s.size := by unfold bytesOf; rw [List.length_map]; exact Array.length_toList
theorem strB_bytesOf (s : ByteArray) : strB (bytesOf s) = s := by
  unfold strB bytesOf
  rw [List.map_map]
  have : (UInt8.ofNat ∘ UInt8.toNat) = id := by funext b; simp
  rw [this]; simp
theorem bytesOf_strB {l : List Nat} (h : ∀ x ∈ l, x < 256) : bytesOf (strB l) = l := by
  unfold strB bytesOf
  have e : ((l.map UInt8.ofNat).toArray.toList).map UInt8.toNat = l := by
    rw [List.toList_toArray, List.map_map]
    conv => rhs; rw [← List.map_id l]
    apply List.map_congr_left
    intro x hx
    have := h x hx
    simp only [Function.comp, id, UInt8.toNat_ofNat']
    omega
  exact e
theorem strB_inj {a b : List Nat} (ha : ∀ x ∈ a, x < 256) (hb : ∀ x ∈ b, x < 256) (h : strB a = strB b) : a = b := by
  rw [← bytesOf_strB ha, ← bytesOf_strB hb, h]
theorem strB_size (l : List Nat) : (strB l).size = l.length := by unfold strB; show (l.map UInt8.ofNat).toArray.size = _; rw [List.size_toArray, List.length_map]
theorem strB_append (a b : List Nat) : strB (a ++ b) = strB a ++ strB b := by
  unfold strB
  rw [List.map_append, ← List.append_toArray]
  apply ByteArray.ext
  rw [ByteArray.data_append]
/-- How the walk compares two strings. -/
theorem str_ne {a b : ByteArray} (h : ¬ a = b) : (a.toList == b.toList) = false := by
  rw [ByteArray.toList_eq, ByteArray.toList_eq]
  apply beq_false_of_ne
  intro e
  apply h
  apply ByteArray.ext
  apply Array.ext'
  exact e
theorem str_eq {a b : ByteArray} (h : a = b) : (a.toList == b.toList) = true := by rw [h]; simp
set_option maxRecDepth 100000 in
/-- 'string(b)' of bytes that read. -/
theorem conv_str {w : World} {B n : Nat} {A : Option Addr} {l : List Nat} (h : RdB w B A n l) (c : Nat) :
    (convert 37 9 (.slice A n c)).run Tryz.prog w = .ok (.string (strB l)) w := by
  have hl := h.len
  cases A with
  | none =>
    have hn : n = 0 := by
      rcases Nat.eq_zero_or_pos n with h0 | h0
      · exact h0
      · obtain ⟨b, off, hA, _⟩ := h.at_ h0
        cases hA
    subst hn
    have : l = [] := List.length_eq_zero_iff.1 hl
    subst this
    exact run_convert_bytes_nil w _ 5 Tryz.underlying37 Tryz.underlying5 0 c _ Tryz.underlying9
  | some ad =>
    rcases Nat.eq_zero_or_pos n with h0 | h0
    · subst h0
      have : l = [] := List.length_eq_zero_iff.1 hl
      subst this
      rw [run_convert_bytes_string w _ _ 5 (some ad) 0 c Tryz.underlying37 Tryz.underlying5 Tryz.underlying9]
      exact run_bytesToString w ad 0 c [] (by simpa using run_loadCells_list (P := Tryz.prog) w ad [] (fun j v hj => by simp at hj))
    · obtain ⟨b, off, hA, _, _⟩ := h.at_ h0
      have hA2 : ad = ⟨b, off, none⟩ := by injection hA
      subst hA2
      have := run_convert_bytes_arg (P := Tryz.prog) w 37 5 Tryz.underlying37 Tryz.underlying5 b off n c (l.map fun (x : Nat) => (x : Int)) (by simp [hl]) (fun i hi => by
        obtain ⟨b', o', hA', _, hc⟩ := h.at_ hi
        obtain ⟨rfl, rfl⟩ : b = b' ∧ off = o' := by simpa using hA'
        rw [hc, List.getD_eq_getElem?_getD, List.getD_eq_getElem?_getD, List.getElem?_map, List.getElem?_eq_getElem (by omega)]
        simp) 9 Tryz.underlying9
      rw [this]
      congr 2
      unfold strOfNums strB
      rw [List.map_map]
      rfl
/-- '[]byte(s)': a block of its own, marked. -/
theorem conv_bytes (s : ByteArray) (w : World) : ∃ c o, (convert 9 37 (.string s)).run Tryz.prog w = .ok (.slice (some ⟨w.heap.size, 0, none⟩) s.size c) (w.drew.alloc o) ∧ s.size ≤ c ∧ RdB (w.drew.alloc o) (w.heap.size + 1) (some ⟨w.heap.size, 0, none⟩) s.size (bytesOf s) := by
  refine ⟨_, _, run_bytes_of_string w _ _ 5 s Tryz.underlying9 Tryz.underlying37 Tryz.underlying5, ?_, ?_⟩
  · exact grownCap_ge w s.size 0 5
  · refine ⟨by rw [bvals_length, bytesOf_length], fun _ => ⟨w.heap.size, 0, rfl, by omega, fun j hj => ?_⟩⟩
    rw [Nat.zero_add]
    have h1 := World.cell?_alloc_mark w.drew (bytesRow s (grownCap w s.size 0 5)) 5 ((bytesRow s (grownCap w s.size 0 5)).size, (bytesRow s (grownCap w s.size 0 5)).size + 1) j
    have h2 : w.drew.heap.size = w.heap.size := rfl
    rw [h2] at h1
    rw [h1]
    unfold bytesRow
    have hsz : j < (s.data.map (fun b => Value.int .u8 b.toNat)).size := by rw [Array.size_map]; exact hj
    rw [Array.getElem?_append_left hsz]
    unfold bvals bytesOf
    rw [List.map_map, List.getElem?_map, Array.getElem?_map, ← Array.getElem?_toList]
    rfl
end Go.Proofs.YtjdpgakkphdjlaaGreatDoor
