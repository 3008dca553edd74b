/- A contract: slices.Chunk over numbers: what it yields, piece by piece. -/
import Derived.Test.YtmohilfebgahoaaGreatDoorRound
import Derived.Sort.QuietIn
import Derived.WalkKit
import Derived.Shelf.Abstract
import Derived.LoopNIn
namespace Go.Proofs.YtmohilfebgahoaaGreatDoor
open Go.RowKit

attribute [local go_sem] Oper.semAt_some

/-- So many pieces. -/
def pieces (len k : Nat) : Nat := (len + k - 1) / k
theorem piece_lt {len k q : Nat} (hk : 1 ≤ k) : q < pieces len k ↔ k * q < len := by
  unfold pieces
  rw [Nat.lt_div_iff_mul_lt (by omega)]
  constructor
  · intro h; rw [Nat.mul_comm]; omega
  · intro h; rw [Nat.mul_comm] at h; omega
/-- A piece's length. -/
def pieceLen (len k q : Nat) : Nat := min k (len - k * q)
/-- A piece as a value. -/
def pieceV (b off len k q : Nat) : Value := .slice (some ⟨b, off + k * q, none⟩) (pieceLen len k q) (pieceLen len k q)
theorem finTake_succ (m k : Nat) (h : k < m) : (List.finRange m).take (k + 1) = (List.finRange m).take k ++ [⟨k, h⟩] := by
  rw [List.take_add_one]
  congr 1
  rw [List.getElem?_eq_getElem (by simpa using h)]
  simp
/-- What a round that goes on keeps: the iterator's own two variables. -/
def KeepTwo (Bs Bn : Nat) (W W' : World) : Prop := W'.cell? ⟨Bs, 0, none⟩ = W.cell? ⟨Bs, 0, none⟩ ∧ W'.cell? ⟨Bn, 0, none⟩ = W.cell? ⟨Bn, 0, none⟩
theorem KeepTwo.t {Bs Bn : Nat} {A B C : World} (h : KeepTwo Bs Bn A B) (k : KeepTwo Bs Bn B C) : KeepTwo Bs Bn A C := ⟨k.1.trans h.1, k.2.trans h.2⟩
theorem KeepTwo.b {Bs Bn : Nat} {w : World} (h1 : Bs < w.heap.size) (h2 : Bn < w.heap.size) (W : World) (l : Nat) (o o' : Obj) (hl : w.heap.size ≤ l) (_ : W.heap[l]? = some o) (_ : o.isCells = false) (_ : o.isWalk = false) : KeepTwo Bs Bn W (W.putObj l o') :=
  ⟨World.cell?_of_block (World.putObj_heap_other (by show Bs ≠ l; omega)), World.cell?_of_block (World.putObj_heap_other (by show Bn ≠ l; omega))⟩
theorem KeepTwo.of_below {Bs Bn B : Nat} {W W' : World} (h : Below B W W') (h1 : Bs < B) (h2 : Bn < B) : KeepTwo Bs Bn W W' := ⟨h.cell h1, h.cell h2⟩

set_option maxRecDepth 100000 in
set_option maxHeartbeats 2000000 in
theorem chunk1_in (n : Nat) (hn : 1 ≤ n) (l Bs Bn b off len cap k : Nat) (hk : 1 ≤ k ∧ k ≤ 64) (hlen : len ≤ cap ∧ cap ≤ 9223372036854775807 ∧ len ≤ 17592186044415)
    (J Jx : List (Fin (pieces len k)) → World → Prop)
    (hY : ∀ pre (x : Fin (pieces len k)) W, J pre W → pre.length < pieces len k → YieldAt Fence.wide (n - 1) Tryz.prog l #[pieceV b off len k x.1] W fun e W' =>
      (e = .returned (.bool true) ∧ J (pre ++ [x]) W' ∧ KeepTwo Bs Bn W W') ∨ (e = .returned (.bool false) ∧ Jx (pre ++ [x]) W'))
    (W : World) (hBs : W.cell? ⟨Bs, 0, none⟩ = some (.slice (some ⟨b, off, none⟩) len cap)) (hBn : W.cell? ⟨Bn, 0, none⟩ = some (.int .i64 k)) (h0 : J [] W) (hJd : ∀ xs W' q, J xs W' → J xs (W'.drewN q)) :
    CallsIn Fence.wide n Tryz.prog 125 #[.func (.yield l) #[] #[], .pointer (some ⟨Bs, 0, none⟩), .pointer (some ⟨Bn, 0, none⟩)] W fun e W' => (∃ v, e = .returned v) ∧
      ((∃ ys, ys = List.finRange (pieces len k) ∧ J ys W') ∨ (∃ pre, pre <+: List.finRange (pieces len k) ∧ Jx pre W')) := by
  refine callsIn_of_wp Tryz.func125 rfl trivial ?_ rfl
  simp only [Tryz.ntmps125, List.size_toArray, List.length_cons, List.length_nil, Nat.reduceAdd, Nat.reduceSub, Array.replicate_succ, Array.replicate_zero, List.push_toArray, List.append_toArray, List.nil_append, List.cons_append]
  gi_wp2
  gi_loopw [4] (fun i wr => ∃ q : Nat, q ≤ pieces len k ∧ i = .int .i64 ((k * q : Nat) : Int) ∧ J ((List.finRange (pieces len k)).take q) wr ∧ KeepTwo Bs Bn W wr)
    (fun i _ => len - (intOf i).toNat)
  case atStart => exact ⟨0, Nat.zero_le _, by simp, by simpa using h0, rfl, rfl⟩
  case round =>
    obtain ⟨q, hq, rfl, hJs, hnx⟩ := hrel
    have c1 := hnx.1.trans hBs
    have c2 := hnx.2.trans hBn
    by_cases hlt : k * q < len
    · have hqm : q < pieces len k := (piece_lt hk.1).2 hlt
      obtain ⟨I, hI⟩ : ∃ I, I = k * q := ⟨_, rfl⟩
      obtain ⟨L, hL⟩ : ∃ L, L = pieceLen len k q := ⟨_, rfl⟩
      have hL2 : L = min k (len - I) := by rw [hL, hI]; rfl
      have hsucc : k * (q + 1) = I + k := by rw [hI, Nat.mul_add, Nat.mul_one]
      have hV : pieceV b off len k q = .slice (some ⟨b, off + I, none⟩) L L := by unfold pieceV; rw [← hL, ← hI]
      have HY := Lib.hid (fun Wx hj => hY ((List.finRange (pieces len k)).take q) ⟨q, hqm⟩ Wx hj (by simp; omega))
      rw [hV, ← finTake_succ] at HY
      have HS := Lib.hid hsucc
      have HN := Lib.hid hnx
      have HD := Lib.hid hJd
      have HQ := Lib.hid hqm
      rw [← hI] at hlt ⊢
      have hlt' : (I : Int) < (len : Int) := by omega
      have hi0 : (0 : Int) ≤ (I : Int) := by omega
      have hic : (I : Int) ≤ (cap : Int) := by omega
      have hcut : (if len - I < k then ((len - I : Nat) : Int) else (k : Int)) = (L : Int) := by split <;> omega
      have k1 : IntKind.i64.wrap ((I : Int) + (L : Int)) = (I : Int) + (L : Int) := IntWalk.i64_in _ (by omega)
      have k2 : IntKind.i64.wrap ((I : Int) + (k : Int)) = (I : Int) + (k : Int) := IntWalk.i64_in _ (by omega)
      have hl1 : (I : Int) + (L : Int) ≤ (cap : Int) := by omega
      have hl0 : 1 ≤ L := by omega
      have HB1 := Lib.hid hBs
      have HB2 := Lib.hid hBn
      clear hI hL hL2 hV hsucc hnx hJd hqm hY h0 hBs hBn
      gi_wp2_with fail
      gi_quiet (fail)
      obtain ⟨fn, tmps, assign, body, hy, hR⟩ := HY.out _ (HD.out _ _ nq hJs)
      gi_wp2
      refine hR.mono ?_
      rintro e W3 (⟨rfl, hJ3, hk3⟩ | ⟨rfl, hJx3⟩)
      · have hk4 := hk3
        have hN4 : KeepTwo Bs Bn W W3 := HN.out.t (B := wr) hk3
        have c1' := hN4.1.trans HB1.out
        have c2' := hN4.2.trans HB2.out
        have HN4 := Lib.hid hN4
        clear hk3 hk4 hN4 c1 c2
        gi_wp2
        go_roundw
        case rel => exact ⟨q + 1, HQ.out, by rw [HS.out]; push_cast; rfl, hJ3, HN4.out⟩
        case measure => simp [intOf]; omega
      · gi_wp2
        refine bodyPost_ret (results_none rfl _ _ _) rfl ?_
        exact ⟨⟨_, rfl⟩, .inr ⟨_, List.take_prefix _ _, hJx3⟩⟩
    · have hqm : ¬ q < pieces len k := fun h => hlt ((piece_lt hk.1).1 h)
      obtain rfl : q = pieces len k := by omega
      rw [List.take_of_length_le (by simp)] at hJs
      have hge : (len : Int) ≤ ((k * pieces len k : Nat) : Int) := by omega
      obtain ⟨I, hI⟩ : ∃ I, I = k * pieces len k := ⟨_, rfl⟩
      rw [← hI] at hge ⊢
      clear hI hlt
      gi_wp2
      go_end0
      exact ⟨⟨_, rfl⟩, .inl ⟨_, rfl, hJs⟩⟩
set_option maxRecDepth 100000 in
set_option maxHeartbeats 1000000 in
theorem chunk1_nil (n l Bs Bn cap k : Nat) (hk : 1 ≤ k ∧ k ≤ 64) (J Jx : List (Fin (pieces 0 k)) → World → Prop) (W : World) (hBs : W.cell? ⟨Bs, 0, none⟩ = some (.slice none 0 cap)) (h0 : J [] W) :
    CallsIn Fence.wide n Tryz.prog 125 #[.func (.yield l) #[] #[], .pointer (some ⟨Bs, 0, none⟩), .pointer (some ⟨Bn, 0, none⟩)] W fun e W' => (∃ v, e = .returned v) ∧
      ((∃ ys, ys = List.finRange (pieces 0 k) ∧ J ys W') ∨ (∃ pre, pre <+: List.finRange (pieces 0 k) ∧ Jx pre W')) := by
  have he : List.finRange (pieces 0 k) = [] := by
    have : pieces 0 k = 0 := by unfold pieces; exact Nat.div_eq_of_lt (by omega)
    apply List.length_eq_zero_iff.1; simp [this]
  rw [he]
  refine callsIn_of_wp Tryz.func125 rfl trivial ?_ rfl
  simp only [Tryz.ntmps125, List.size_toArray, List.length_cons, List.length_nil, Nat.reduceAdd, Nat.reduceSub, Array.replicate_succ, Array.replicate_zero, List.push_toArray, List.append_toArray, List.nil_append, List.cons_append]
  gi_wp2
  gi_loopw [4] (fun i wr => i = .int .i64 0 ∧ wr.cell? ⟨Bs, 0, none⟩ = some (.slice none 0 cap) ∧ J [] wr) (fun _ _ => 0)
  case atStart => exact ⟨rfl, hBs, h0⟩
  case round =>
    obtain ⟨rfl, c1, hJs⟩ := hrel
    gi_wp2
    go_end0
    exact ⟨⟨_, rfl⟩, .inl ⟨_, rfl, hJs⟩⟩
/-- The slice that is parted: it has its numbers in a block; or there are none. -/
theorem chunk_any (A : Option Addr) (len cap : Nat) (k : Nat) (hk : 1 ≤ k ∧ k ≤ 64) (w : World) :
    Calls Tryz.prog 99 #[.slice A len cap, .int .i64 k] w fun e w' => e = .returned (.func (.func 125) #[] #[.pointer (some ⟨w.heap.size, 0, none⟩), .pointer (some ⟨w.heap.size + 1, 0, none⟩)]) ∧ w' = (w.alloc (.cells #[.slice A len cap] 22)).alloc (.cells #[.int .i64 k] 3) := by
  have hmf : ∀ (fn : Fn) (first cap : Array Value) (w : World), (Instr.makeFunc fn first cap).run Tryz.prog w = .ok (.func fn first cap) w := fun _ _ _ _ => rfl
  have hk1 : ¬ (k : Int) < 1 := by omega
  go_enter Tryz.func99, Tryz.ntmps99
  go_wp2_with fail
  go_ret
  exact ⟨rfl, rfl⟩
end Go.Proofs.YtmohilfebgahoaaGreatDoor
