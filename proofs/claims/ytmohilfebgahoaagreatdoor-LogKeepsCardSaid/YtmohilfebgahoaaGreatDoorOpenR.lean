/- A law's argument that is a slice of slices of ints, opened for the walk. -/
import Derived.Test.YtmohilfebgahoaaGreatDoorOpen
import Derived.Test.YtmohilfebgahoaaGreatDoorMem
import Derived.Deep.Matrix
namespace Go.Proofs.YtmohilfebgahoaaGreatDoor
open Go.ChangeShapes Go.WideShapes Go.ChangeAt Go.RowKit

theorem cells_ints : Tryz.prog.cellsOf 22 = 1 := by kernel_rfl
theorem bytes_ints : Tryz.prog.bytesOf 22 = 24 := by kernel_rfl
theorem rows_of_list {w : World} {B : Nat} : ∀ {vs : List Value} {ls : List (List Int)}, vs.length = ls.length → (∀ i, i < ls.length → ∃ v, vs[i]? = some v ∧ RowV w B v (ls.getD i [])) → RowsV w B vs ls
  | [], [], _, _ => trivial
  | v :: vs, l :: ls, hl, h => by
    refine ⟨?_, rows_of_list (by simpa using hl) fun i hi => ?_⟩
    · obtain ⟨u, hu, hr⟩ := h 0 (by simp)
      have : v = u := by simpa using hu
      subst this
      simpa using hr
    · have := h (i + 1) (by simpa using hi)
      simpa using this
  | [], _ :: _, hl, _ => by simp at hl
  | _ :: _, [], hl, _ => by simp at hl
theorem weightsAll_mem {H : Type} {P : Program} {e : TypeId} : ∀ {ds : List (DataW H)} {d : DataW H}, d ∈ ds → ∀ n ∈ d.weights P e, n ∈ DataW.weightsAll P e ds
  | [], d, h, _, _ => by cases h
  | x :: ds, d, h, n, hn => by
    unfold DataW.weightsAll
    rcases List.mem_cons.1 h with rfl | h
    · exact List.mem_append.2 (.inl hn)
    · exact List.mem_append.2 (.inr (weightsAll_mem h n hn))
theorem addr_add {b off j : Nat} : (⟨b, off, none⟩ : Addr).add j = ⟨b, off + j, none⟩ := by unfold Addr.add; split <;> simp_all

theorem open_rows_arg {H : Type} {enc : TypeId × Value → H} {W : World} {ts : List TypeId} {ds : List (DataW H)} (hs : (DataW.weightsEach Tryz.prog ts ds).all (· ≤ reachBytes) = true) {j : Nat} {A : Option Addr} {n c : Nat} {d : DataW H} {p : List MemPlace}
    (ht : ts[j]? = some 41) (hd : ds[j]? = some d) (h : DataW.Trod enc Tryz.prog W 0 (fun _ => true) true 41 (.slice A n c) d p) (_lt : ∀ x ∈ p, x.block < W.heap.size) :
    ∃ ls, RdR W W.heap.size A n ls ∧ (n ≤ c ∧ c ≤ 5864062014804) ∧ (∀ l ∈ ls, l.length ≤ 17592186044415 ∧ ∀ x ∈ l, Is64 x) := by
  obtain ⟨fuel, hf⟩ := h
  rcases Deep.open_int_rows Tryz.underlying41 Tryz.underlying22 Tryz.underlying3 cells_ints cells_int hf with ⟨hcs, _⟩ | ⟨x, len, cap, Ad, L, C, Z, hcs, _, hl, _, hx, hr⟩
  · simp [Value.cells] at hcs
    obtain ⟨rfl, rfl, rfl⟩ := hcs
    exact ⟨[], ⟨[], Rd.nil, trivial⟩, by omega, by simp⟩
  · simp [Value.cells] at hcs
    obtain ⟨rfl, rfl, rfl⟩ := hcs
    have hd2 := congrArg Prod.fst hx
    simp only at hd2
    rw [hd2] at hd
    have hw := sized_slice hs ht hd Tryz.underlying41
    rw [bytes_ints] at hw
    simp only [List.length_map, List.length_range] at hw
    unfold reachBytes at hw
    have hin : ∀ r, r < n → (Z r).length ≤ 17592186044415 := by
      intro r hrn
      obtain ⟨_, h1, _, h3, _, h5, _⟩ := hr r (by omega)
      cases hA : Ad r with
      | none => have := h5 hA; omega
      | some a' =>
        have hm : Deep.intRow (H := H) .i64 (Ad r) (L r) (Z r) ∈ (List.range n).map fun r => Deep.intRow (H := H) .i64 (Ad r) (L r) (Z r) := List.mem_map.2 ⟨r, List.mem_range.2 hrn, rfl⟩
        have hn : ((Z r).take (L r)).length + ((Z r).drop (L r)).length = (Z r).length := by simp; omega
        have hmem : ((Z r).length * Tryz.prog.bytesOf 3) ∈ DataW.weightsEach Tryz.prog ts ds := by
          refine DataW.weights_mem_each ht hd _ ?_
          simp only [DataW.weights, Tryz.underlying41]
          refine List.mem_cons_of_mem _ (List.mem_append.2 (.inl (weightsAll_mem hm _ ?_)))
          rw [hA]
          simp only [Deep.intRow, DataW.weights, Tryz.underlying22]
          refine List.mem_cons.2 (.inl ?_)
          simp only [lits, List.length_map]
          rw [hn]
        have := List.all_eq_true.1 hs _ hmem
        rw [bytes_int] at this
        unfold reachBytes at this
        simp at this
        omega
    have hLs : ∀ r, r < n → ((Z r).take (L r)).length = L r := fun r hrn => by
      obtain ⟨_, h1, _, h3, _⟩ := hr r (by omega)
      rw [List.length_take]; omega
    refine ⟨(List.range n).map fun r => (Z r).take (L r), ⟨(List.range n).map fun r => .slice (Ad r) (L r) (C r), ⟨by simp, fun hn => ?_⟩, ?_⟩, ⟨hl, by omega⟩, ?_⟩
    · obtain ⟨b, off, spot⟩ := x
      have hc0 := (hr 0 (by omega)).1
      have hspot : spot = none := by simpa [Addr.add] using World.cell?_spot hc0
      subst hspot
      refine ⟨b, off, rfl, ?_, fun i hi => ?_⟩
      · have hb := World.block_lt_of_cell? W _ hc0
        simpa [Addr.add] using hb
      · have hci := (hr i (by omega)).1
        rw [addr_add] at hci
        rw [hci, List.getElem?_map, List.getElem?_range hi]; rfl
    · refine rows_of_list (by simp) fun i hi => ?_
      have hi' : i < n := by simpa using hi
      refine ⟨.slice (Ad i) (L i) (C i), by rw [List.getElem?_map, List.getElem?_range hi']; rfl, ?_⟩
      rw [List.getD_eq_getElem?_getD, List.getElem?_map, List.getElem?_range hi']
      simp only [Option.map_some, Option.getD_some]
      obtain ⟨_, h1, _, h3, _, h5, h6⟩ := hr i (by omega)
      refine ⟨Ad i, C i, by rw [hLs i hi'], by rw [hLs i hi']; exact ⟨h1, h5⟩, ?_⟩
      refine ⟨by rw [ivals_length], fun hn => ?_⟩
      rw [hLs i hi'] at hn ⊢
      cases hA : Ad i with
      | none => have := h5 hA; omega
      | some a' =>
        obtain ⟨_, hc⟩ := h6 a' hA
        obtain ⟨b, off, spot⟩ := a'
        have hc0 := hc 0 (by omega)
        have hspot : spot = none := by simpa [Addr.add] using World.cell?_spot hc0
        subst hspot
        refine ⟨b, off, rfl, ?_, fun q hq => ?_⟩
        · have hb := World.block_lt_of_cell? W _ hc0
          simpa [Addr.add] using hb
        · have hcq := hc q (by omega)
          rw [addr_add] at hcq
          rw [hcq, ivals_get (by rw [hLs i hi']; exact hq)]
          simp [hq]
    · intro l hl
      obtain ⟨r, hrn, rfl⟩ := List.mem_map.1 hl
      have hrn' := List.mem_range.1 hrn
      refine ⟨Nat.le_trans (List.length_take_le' _ _) (hin r hrn'), fun y hy => ?_⟩
      obtain ⟨_, _, _, _, h4, _⟩ := hr r (by omega)
      exact is64_of (h4 y (List.mem_of_mem_take hy))
end Go.Proofs.YtmohilfebgahoaaGreatDoor
