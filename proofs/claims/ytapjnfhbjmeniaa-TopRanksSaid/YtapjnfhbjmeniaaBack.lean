/- A contract: slices.Backward over numbers: what it yields, from the last to the first. -/
import Derived.Test.YtapjnfhbjmeniaaTwo
import Derived.Sort.QuietIn
import Derived.WalkKit
import Derived.Shelf.Abstract
import Derived.LoopNIn
namespace Go.Proofs.Ytapjnfhbjmeniaa
open Go.RowKit

attribute [local go_sem] Oper.semAt_some

/-- What a round that goes on keeps: the iterator's own variable, and all below n₀. -/
def KeepB (n₀ Bs : Nat) (W W' : World) : Prop := W'.cell? ⟨Bs, 0, none⟩ = W.cell? ⟨Bs, 0, none⟩ ∧ Below n₀ W W'
theorem KeepB.t {n₀ Bs : Nat} {A B C : World} (h : KeepB n₀ Bs A B) (k : KeepB n₀ Bs B C) : KeepB n₀ Bs A C := ⟨k.1.trans h.1, h.2.trans k.2⟩
theorem KeepB.b {n₀ Bs : Nat} {w : World} (h0 : n₀ ≤ w.heap.size) (h1 : Bs < w.heap.size) (W : World) (l : Nat) (o o' : Obj) (hl : w.heap.size ≤ l) (_ : W.heap[l]? = some o) (_ : o.isCells = false) (_ : o.isWalk = false) : KeepB n₀ Bs W (W.putObj l o') :=
  ⟨World.cell?_of_block (World.putObj_heap_other (by show Bs ≠ l; omega)), ⟨rfl, rfl, rfl, by simp, fun k hk => World.putObj_heap_other (by show k ≠ l; omega)⟩⟩
/-- So many have come: the last k, the last one first. -/
def lastK (m k : Nat) : List (Fin m) := ((List.finRange m).reverse).take k
theorem lastK_succ {m k : Nat} (h : k < m) : lastK m (k + 1) = lastK m k ++ [⟨m - 1 - k, by omega⟩] := by
  unfold lastK
  rw [List.take_add_one]
  congr 1
  rw [List.getElem?_eq_getElem (by simpa using h)]
  simp
theorem lastK_length {m k : Nat} (h : k ≤ m) : (lastK m k).length = k := by simp [lastK]; omega
theorem lastK_all (m : Nat) : lastK m m = (List.finRange m).reverse := List.take_of_length_le (by simp)
set_option maxRecDepth 100000 in
set_option maxHeartbeats 2000000 in
theorem back1_in (n : Nat) (hn : 1 ≤ n) (l n₀ Bs len cap : Nat) (A : Option Addr) (xs : List Int) (hlen : len ≤ 17592186044415)
    (J Jx : List (Fin len) → World → Prop)
    (hY : ∀ pre (x : Fin len) W, J pre W → pre.length < len → YieldAt Fence.wide (n - 1) Try.prog l #[.int .i64 (x.1 : Nat), .int .i64 (xs.getD x.1 0)] W fun e W' =>
      (e = .returned (.bool true) ∧ J (pre ++ [x]) W' ∧ KeepB n₀ Bs W W') ∨ (e = .returned (.bool false) ∧ Jx (pre ++ [x]) W'))
    (W : World) (hr : RdI W n₀ A len xs) (hBs : W.cell? ⟨Bs, 0, none⟩ = some (.slice A len cap)) (h0 : J [] W) :
    CallsIn Fence.wide n Try.prog 110 #[.func (.yield l) #[] #[], .pointer (some ⟨Bs, 0, none⟩)] W fun e W' => (∃ v, e = .returned v) ∧
      ((∃ ys, ys = (List.finRange len).reverse ∧ J ys W') ∨ (∃ pre, pre <+: (List.finRange len).reverse ∧ Jx pre W')) := by
  refine callsIn_of_wp Try.func110 rfl trivial ?_ rfl
  simp only [Try.ntmps110, List.size_toArray, List.length_cons, List.length_nil, Nat.reduceAdd, Nat.reduceSub, Array.replicate_succ, Array.replicate_zero, List.push_toArray, List.append_toArray, List.nil_append, List.cons_append]
  have HR := Lib.hid hr
  have HY := Lib.hid hY
  have HB1 := Lib.hid hBs
  clear hY hr
  gi_wp2
  gi_loopw [3] (fun i wr => ∃ q : Nat, q ≤ len ∧ i = .int .i64 ((len : Int) - 1 - (q : Int)) ∧ J (lastK len q) wr ∧ Hid (KeepB n₀ Bs W wr))
    (fun i _ => (intOf i + 1).toNat)
  case atStart => exact ⟨0, Nat.zero_le _, by simp, by simpa [lastK] using h0, Lib.hid ⟨rfl, Below.refl _ _⟩⟩
  case round =>
    obtain ⟨q, hq, rfl, hJs, HN⟩ := hrel
    have c1 := HN.out.1.trans HB1.out
    clear h0 hBs
    by_cases hlt : q < len
    · obtain ⟨I, hI⟩ : ∃ I, I = len - 1 - q := ⟨_, rfl⟩
      have hIi : (len : Int) - 1 - (q : Int) = (I : Int) := by omega
      have hIl : I < len := by omega
      obtain ⟨b, off, rfl, _, c2⟩ := (HR.out.below HN.out.2).at_ hIl
      have hsn := lastK_succ hlt
      have hIF : (⟨len - 1 - q, by omega⟩ : Fin len) = ⟨I, hIl⟩ := by apply Fin.ext; exact hI.symm
      rw [hIF] at hsn
      obtain ⟨fn, tmps, assign, body, hy, hR⟩ := HY.out (lastK len q) ⟨I, hIl⟩ wr hJs (by rw [lastK_length (by omega)]; exact hlt)
      rw [← hsn] at hR
      rw [hIi]
      obtain ⟨X, hX⟩ : ∃ X, X = xs.getD I 0 := ⟨_, rfl⟩
      dsimp only at hy
      rw [← hX] at c2 hy
      have b1 : (0 : Int) ≤ (I : Int) := by omega
      have b2 : (I : Int) < (len : Int) := by omega
      have hsum : I + q + 1 = len := by omega
      clear hsn hIF hX hI hIi
      gi_wp2
      refine hR.mono ?_
      rintro e W3 (⟨rfl, hJ3, hk3⟩ | ⟨rfl, hJx3⟩)
      · have HN4 := Lib.hid (HN.out.t hk3)
        clear hk3 c1 c2
        gi_wp2
        go_roundw
        case rel => exact ⟨q + 1, by omega, by congr 1; omega, hJ3, HN4⟩
        case measure => simp [intOf]
      · gi_wp2
        refine bodyPost_ret (results_none rfl _ _ _) rfl ?_
        exact ⟨⟨_, rfl⟩, .inr ⟨_, List.take_prefix _ _, hJx3⟩⟩
    · obtain rfl : q = len := by omega
      rw [lastK_all] at hJs
      have hge : ¬ (0 : Int) ≤ (q : Int) - 1 - (q : Int) := by omega
      clear c1
      gi_wp2
      go_end0
      exact ⟨⟨_, rfl⟩, .inl hJs⟩
/-- slices.Backward. -/
theorem back_any (A : Option Addr) (len cap : Nat) (w : World) :
    Calls Try.prog 82 #[.slice A len cap] w fun e w' => e = .returned (.func (.func 110) #[] #[.pointer (some ⟨w.heap.size, 0, none⟩)]) ∧ w' = w.alloc (.cells #[.slice A len cap] 22) := by
  have hmf : ∀ (fn : Fn) (first cap : Array Value) (w : World), (Instr.makeFunc fn first cap).run Try.prog w = .ok (.func fn first cap) w := fun _ _ _ _ => rfl
  go_enter Try.func82, Try.ntmps82
  go_wp2_with fail
  go_ret
  exact ⟨rfl, rfl⟩
theorem back_stops (n : Nat) (hn : 1 ≤ n) (n₀ Bs len cap : Nat) (A : Option Addr) (xs : List Int) (hlen : len ≤ 17592186044415) (w : World)
    (h1 : Bs < w.heap.size) (hn0 : n₀ ≤ w.heap.size) (hr : RdI w n₀ A len xs) (hBs : w.cell? ⟨Bs, 0, none⟩ = some (.slice A len cap)) :
    SeqStopsK Fence.wide n Try.prog 110 #[.pointer (some ⟨Bs, 0, none⟩)] (fun x : Fin len => #[.int .i64 (x.1 : Nat), .int .i64 (xs.getD x.1 0)]) (KeepB n₀ Bs)
      (fun ys => ys = (List.finRange len).reverse) (fun pre => pre <+: (List.finRange len).reverse) len w := fun l J Jx W hW _ _ hY h0 =>
  back1_in n hn l n₀ Bs len cap A xs hlen J Jx hY W (hr.below (hW.mono hn0)) ((hW.cell (p := ⟨Bs, 0, none⟩) h1).trans hBs) h0
end Go.Proofs.Ytapjnfhbjmeniaa
