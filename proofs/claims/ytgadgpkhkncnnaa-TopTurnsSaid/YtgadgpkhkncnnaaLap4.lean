/- Walks: over the edges, asked (chapter 4): one contract each, whatever the fault. -/
import Derived.Test.YtgadgpkhkncnnaaLap3
namespace Go.Proofs.Ytgadgpkhkncnnaa
open Go.RowKit

/-- A slice is told with a fault k: if there is none, it reads as l. -/
def ToldI (k : Int) (l : List Int) (n : Nat) (w : World) (e : Ending) (w' : World) : Prop :=
  ∃ X, e = .returned (.tuple #[X, errV k]) ∧ (k = 0 → ∃ A c, X = .slice A n c ∧ n ≤ c ∧ RdI w' w'.heap.size A n l) ∧ Below w.heap.size w w'
theorem lapF_told (A : Option Addr) (n c : Nat) (l : List Int) (w : World) (B : Nat) (h : RdI w B A n l) (hB : B ≤ w.heap.size) (hn : n ≤ 100000000000000) :
    Calls Try.prog 23 #[.slice A n c] w (ToldI (Ph.lapErr l 1000) (Ph.lapF l) n w) := by
  by_cases h0 : Ph.lapErr l 1000 = 0
  · refine (lapF_ok A n c l w B h hB h0).mono ?_
    rintro e w' ⟨A', c', rfl, ho, hb⟩
    have hl : (Ph.lapF l).length = n := by rw [Ph.lapF_length l (Ph.lapErr_zero.1 h0).2.1, h.len]
    rw [hl] at ho ⊢
    exact ⟨_, by rw [h0]; rfl, fun _ => ⟨A', c', rfl, own_cap ho, RdI.own ho⟩, hb⟩
  · refine (lapF_no A n c l w B h hB hn h0).mono ?_
    rintro e w' ⟨rfl, hb⟩
    exact ⟨_, rfl, fun hk => absurd hk h0, hb⟩
theorem lapI_told (A : Option Addr) (n c : Nat) (l : List Int) (w : World) (B : Nat) (h : RdI w B A n l) (hB : B ≤ w.heap.size) (hc : n ≤ c) (hn : n ≤ 100000000000000) :
    Calls Try.prog 24 #[.slice A n c] w (ToldI (Ph.lapErr l 4000) (Ph.lapI l) n w) := by
  by_cases h0 : Ph.lapErr l 4000 = 0
  · refine (lapI_ok A n c l w B h hB hc h0).mono ?_
    rintro e w' ⟨A', c', rfl, ho, hb⟩
    have hl : (Ph.lapI l).length = n := by rw [Ph.lapI_length l, h.len]; have := (Ph.lapErr_zero.1 h0).2.1; rw [h.len] at this; omega
    rw [hl] at ho ⊢
    exact ⟨_, by rw [h0]; rfl, fun _ => ⟨A', c', rfl, own_cap ho, RdI.own ho⟩, hb⟩
  · refine (lapI_no A n c l w B h hB hn h0).mono ?_
    rintro e w' ⟨rfl, hb⟩
    exact ⟨_, rfl, fun hk => absurd hk h0, hb⟩
end Go.Proofs.Ytgadgpkhkncnnaa
