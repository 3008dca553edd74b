/- A region of a round that draws its order, reads, and stores at its end: by one walk. No function of the program is named here. -/
import Derived.Test.YtapjnfhbjmeniaaRound
import Derived.StillTailTactics
namespace Go.Proofs.Ytapjnfhbjmeniaa
open Go.RowKit

theorem region_inR_still_tail {P : Program} {Q : Exit → Act → World → Prop} {r l : Nat} {id : Nat} {a : Act} {w : World} {ls : List Oper} (n : Nat) (hm : P.follows .mixedOrders = true) (hB : Region.lexTailB .any ls.toArray n = true)
    (hd : ls.toArray.all noDefer = true) (hL : ∀ a w, ¬ Q .outgrown a w)
    (h : wpStill P ls.toArray w.drew (fun a' => wpList P ls.toArray Q (ls.drop n) a' w.drew) (ls.take n) a) : (Code.region id ls.toArray true).wpIn (Fence.wide.inRound r) l P Q a w := by
  simp only [Region.lexTailB, Bool.and_eq_true, decide_eq_true_eq] at hB
  obtain ⟨⟨⟨⟨hsel, hn⟩, hs⟩, hc⟩, hlex⟩ := hB
  have hn' : n < ls.length := by simpa using hn
  have htl : (ls.take n).length = n := by simp; omega
  have hdl : (ls.drop n).length = ls.toArray.size - n := by simp
  have inv0 : HeadInv .any ls.toArray n (Array.replicate ls.toArray.size false) :=
    ⟨by simp, fun j oj _ hl => (by rw [getD_replicate_false] at hl; cases hl), fun t _ ht => getD_in (by simpa using ht) (getD_replicate_false _ _)⟩
  have H := wpAnyL_lex (md := .any) (g := ls.toArray.size - n) hsel hs hc hn (ls.take n) 0 _ a (fun j hj => by
    have hj' : j < n := by rw [htl] at hj; exact hj
    simp [hj']) (by simpa using htl) inv0 (by rw [htl]; exact hlex) h
  refine wpIn_region_any hm (wpAny_inR hd hL _ _ _ _ ?_)
  have := wpAny_of_head (Q' := Q) (g := ls.toArray.size - n) (fun listed a' hL => by
    have := wpAny_of_seq (md := .any) (Q' := Q) (ls.drop n) n listed a' w.drew (fun j => by simp [List.getElem?_drop]) (by rw [hdl]; exact hL.1) hL.2
    rwa [hdl] at this) _ _ _ H
  rw [htl, show n + (ls.toArray.size - n) = ls.toArray.size by omega] at this
  exact this
end Go.Proofs.Ytapjnfhbjmeniaa
