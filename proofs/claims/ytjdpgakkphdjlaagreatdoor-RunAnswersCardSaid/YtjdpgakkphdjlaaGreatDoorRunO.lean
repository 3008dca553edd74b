/- Walks of a session (chapter 20): a range over a text's lines. -/
import Derived.Test.YtjdpgakkphdjlaaGreatDoorRunK
import Derived.RangeFuncWrites
namespace Go.Proofs.YtjdpgakkphdjlaaGreatDoor
open Go.RowKit

/-- A round's end: it goes on; what the range keeps is kept. -/
def GoesOn (B Bs : Nat) (I : World → Prop) (W : World) (e : Exit) (W' : World) : Prop :=
  e = .normal ∧ KeepsFrom B W W' ∧ W'.heap[Bs]? = W.heap[Bs]? ∧ I W'
theorem putObj_other {W : World} {l k : Nat} (o : Obj) (h : k ≠ l) : (W.putObj l o).heap[k]? = W.heap[k]? := World.putObj_heap_other h
set_option maxHeartbeats 2000000 in
theorem range_lines {g : Operand} {ps : Array Tmp} {assign body : Code} {Q : Exit → Act → World → Prop} {a : Act} {w : World} (Bs : Nat) (t : List UInt8) (hlen : t.length ≤ 3000)
    (hg : a.eval g = .func (.func 29) #[] #[.pointer (some ⟨Bs, 0, none⟩)]) (hBs : w.heap[Bs]? = some (.cells #[.string (strL t)] 9 (0, 0))) (hps : ps.size = 1)
    (I : List (Fin (Pr.rawL t).length) → World → Prop) (hI : OwnFrom w.heap.size I) (hId : ∀ xs W q, I xs W → I xs (W.drewN q)) (hIs : ∀ xs W v, I xs W → I xs (W.setCell ⟨Bs, 0, none⟩ v)) (h0 : I [] w)
    (a1 : Fin (Pr.rawL t).length → Act)
    (hassign : ∀ (l : Nat) (x : Fin (Pr.rawL t).length) (W : World) (K : Act → World → Prop), K (a1 x) W →
      assign.wpIn (Fence.wide.inRound l) 7 Tryz.prog (Exit.then K (fun _ _ _ => False)) { tmps := (ps.zip #[.string (strL ((Pr.rawL t).getD x.1 []))]).foldl (fun t (p, v) => t.setIfInBounds p v) a.tmps, defers := [] } W)
    (hbody : ∀ (l : Nat) (pre : List (Fin (Pr.rawL t).length)) (x : Fin (Pr.rawL t).length) (W : World), I pre W → pre.length < (Pr.rawL t).length →
      body.wpIn (Fence.wide.inRound l) 7 Tryz.prog (fun e _ W' => GoesOn w.heap.size Bs (I (pre ++ [x])) W e W') (a1 x) W)
    (hdone : ∀ (D : Nat) (W : World), w.heap.size ≤ D → I (List.finRange (Pr.rawL t).length) W → W.heap[D]? = some (.deferred (some [])) → Q .normal { a with defers := { target := .collected D, args := #[] } :: a.defers } W) :
    (Code.rangeFunc g ps assign body).wpIn Fence.wide 9 Tryz.prog Q a w := by
  have hBlt : Bs < w.heap.size := (Array.getElem?_eq_some_iff.1 hBs).1
  refine wpIn_rangeFunc fun fn hfn => ?_
  -- the loop's record, and the block of what its rounds defer: both are new
  let L : LoopState → Option Code → Obj := fun st pe => .loop { state := st, pending := pe, fn, tmps := a.tmps, params := ps, assign, body, defers := w.heap.size }
  let D0 : Nat := w.heap.size
  let l0 : Nat := w.heap.size + 1
  let W1 : World := (w.alloc (.deferred (some []))).alloc (L .ready none)
  have hL1 : W1.heap[l0]? = some (L .ready none) := by
    have := heap_alloc_new (w.alloc (.deferred (some []))) (L .ready none); rwa [World.size_alloc] at this
  have hD1 : W1.heap[D0]? = some (.deferred (some [])) := (Below.heap_alloc _ _ _ (by simp [D0])).trans (heap_alloc_new w _)
  have hB1 : W1.heap[Bs]? = some (.cells #[.string (strL t)] 9 (0, 0)) := (Below.heap_alloc _ _ _ (by simp; omega)).trans ((Below.heap_alloc _ _ _ hBlt).trans hBs)
  have hI1 : I [] W1 := hI.alloc _ (hI.alloc _ h0)
  refine ⟨l0, [{ target := .collected w.heap.size, args := #[] }], W1, { target := .fn (.func 29) #[.pointer (some ⟨Bs, 0, none⟩)], args := #[.func (.yield l0) #[] #[]] }, W1, 29,
    #[.func (.yield l0) #[] #[]] ++ #[.pointer (some ⟨Bs, 0, none⟩)], W1, run_enterLoop_outer _ _ _ _ _, ?_, ?_, ?_, fun _ => by omega, ?_⟩
  · simp only [resolve, hg]
    simp [go_sem]
  · intro f' hf'
    exact trivial
  · simp [invoke, go_sem]
  · refine (lines1_in 8 (by omega) l0 Bs t hlen (fun pre W => I pre W ∧ W.heap[l0]? = some (L .ready none) ∧ W.heap[D0]? = some (.deferred (some []))) (fun _ _ => False) ?_ W1 hB1 ⟨hI1, hL1, hD1⟩ ?_ ?_).mono ?_
    · rintro pre x W ⟨hi, hl, hd⟩ hq
      have hlt : l0 < W.heap.size := (Array.getElem?_eq_some_iff.1 hl).1
      refine ⟨fn, _, assign, body, run_yield hl (by simpa using hps.symm), roundIn_of_wpIn hfn (hassign _ x W _ ⟨_, run_beginRound hl rfl, ?_⟩)⟩
      let Wb : World := W.putObj l0 (L .busy none)
      have hl2 : Wb.heap[l0]? = some (L .busy none) := World.putObj_heap_same hlt
      have hd2 : Wb.heap[D0]? = some (.deferred (some [])) := (putObj_other _ (by simp [D0, l0])).trans hd
      have hi2 : I pre Wb := hI.putObj _ hi (by simp [l0]) hl rfl
      refine wpIn_mono (hbody _ pre x Wb hi2 hq) ?_
      rintro e a3 W3 ⟨rfl, hk, hkb, hi3⟩
      have hl3 : W3.heap[l0]? = some (L .busy none) := hk.same _ _ (by simp [l0]) hl2 rfl
      have hd3 : W3.heap[D0]? = some (.deferred (some [])) := hk.same _ _ (Nat.le_refl _) hd2 rfl
      refine ⟨_, _, run_endRound none hl3, .inl ⟨rfl, ⟨hI.putObj _ hi3 (by simp [l0]) hl3 rfl, World.putObj_heap_same (Array.getElem?_eq_some_iff.1 hl3).1, (putObj_other _ (by simp [D0, l0])).trans hd3⟩, ?_⟩⟩
      exact (putObj_other _ (by simp only [l0]; omega)).trans (hkb.trans (putObj_other _ (by simp only [l0]; omega)))
    · rintro xs W' q ⟨hi, hl, hd⟩
      exact ⟨hId _ _ q hi, hl, hd⟩
    · rintro xs W' v ⟨hi, hl, hd⟩
      exact ⟨hIs _ _ v hi, (heap_setCell_other W' ⟨Bs, 0, none⟩ l0 v (by simp only [l0]; omega)).trans hl, (heap_setCell_other W' ⟨Bs, 0, none⟩ D0 v (by simp only [D0]; omega)).trans hd⟩
    · rintro e W2 ⟨⟨v, rfl⟩, ⟨ys, rfl, hi, hl, hd⟩ | ⟨_, _, h⟩⟩
      · exact ⟨none, _, run_endLoop hl (by simp), hdone _ _ (Nat.le_refl _) (hI.putObj _ hi (by simp [l0]) hl rfl) ((putObj_other _ (by simp [l0])).trans hd)⟩
      · exact h.elim
end Go.Proofs.YtjdpgakkphdjlaaGreatDoor
