/- A law's argument that is a slice of strings, opened for the walk. -/
import Derived.Test.YtmohilfebgahoaaGreatDoorOpenR
import Derived.Test.YtmohilfebgahoaaGreatDoorStrs
import Derived.Deep.Strs
namespace Go.Proofs.YtmohilfebgahoaaGreatDoor
open Go.ChangeShapes Go.WideShapes Go.ChangeAt Go.RowKit

theorem cells_string : Tryz.prog.cellsOf 9 = 1 := by kernel_rfl
theorem bytes_string : Tryz.prog.bytesOf 9 = 16 := by kernel_rfl
theorem open_strs_arg {H : Type} {enc : TypeId × Value → H} {W : World} {ts : List TypeId} {ds : List (DataW H)} (hs : (DataW.weightsEach Tryz.prog ts ds).all (· ≤ reachBytes) = true) {j : Nat} {A : Option Addr} {n c : Nat} {d : DataW H} {p : List MemPlace}
    (ht : ts[j]? = some 23) (hd : ds[j]? = some d) (h : DataW.Trod enc Tryz.prog W 0 (fun _ => true) true 23 (.slice A n c) d p) (_lt : ∀ x ∈ p, x.block < W.heap.size) :
    ∃ ls, RdS W W.heap.size A n ls ∧ (n ≤ c ∧ c ≤ 17592186044415) ∧ (∀ l ∈ ls, l.size ≤ 140737488351232) := by
  obtain ⟨fuel, hf⟩ := h
  rcases Deep.open_strs Tryz.underlying23 Tryz.underlying9 cells_string hf with ⟨hcs, _⟩ | ⟨x, len, cap, m, S, hcs, _, hl, _, hmm, hx, hr⟩
  · simp [Value.cells] at hcs
    obtain ⟨rfl, rfl, rfl⟩ := hcs
    exact ⟨[], Rd.nil, by omega, by simp⟩
  · simp [Value.cells] at hcs
    obtain ⟨rfl, rfl, rfl⟩ := hcs
    simp only [if_true] at hmm
    subst hmm
    have hd2 := congrArg Prod.fst hx
    simp only at hd2
    rw [hd2] at hd
    have hw := sized_slice hs ht hd Tryz.underlying23
    rw [bytes_string] at hw
    simp only [List.length_map, List.length_range] at hw
    unfold reachBytes at hw
    refine ⟨(List.range n).map S, ⟨by simp [svals], fun hn => ?_⟩, ⟨hl, by omega⟩, ?_⟩
    · obtain ⟨b, off, spot⟩ := x
      have hc0 := (hr 0 (by omega)).1
      have hspot : spot = none := by simpa [Addr.add] using World.cell?_spot hc0
      subst hspot
      refine ⟨b, off, rfl, ?_, fun i hi => ?_⟩
      · have hb := World.block_lt_of_cell? W _ hc0
        simpa [Addr.add] using hb
      · have hci := (hr i (by omega)).1
        rw [addr_add] at hci
        rw [hci]
        simp [svals, hi]
    · intro l hl
      obtain ⟨r, hrn, rfl⟩ := List.mem_map.1 hl
      have hrn' := List.mem_range.1 hrn
      have hm : (DataW.lit (.string (S r).data.toList) : DataW H) ∈ (List.range n).map fun i => (DataW.lit (.string (S i).data.toList) : DataW H) := List.mem_map.2 ⟨r, hrn, rfl⟩
      have hmem : (S r).data.toList.length ∈ DataW.weightsEach Tryz.prog ts ds := by
        refine DataW.weights_mem_each ht hd _ ?_
        simp only [DataW.weights, Tryz.underlying23]
        exact List.mem_cons_of_mem _ (List.mem_append.2 (.inl (weightsAll_mem hm _ (by simp [DataW.weights]))))
      have := List.all_eq_true.1 hs _ hmem
      unfold reachBytes at this
      rw [Array.length_toList] at this
      simp at this
      exact this
end Go.Proofs.YtmohilfebgahoaaGreatDoor
