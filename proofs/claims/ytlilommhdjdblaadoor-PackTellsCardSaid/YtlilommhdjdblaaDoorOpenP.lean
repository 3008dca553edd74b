/- A law's argument that is a slice of parts (a gain, and pulses), opened for the walk. -/
import Derived.Test.YtlilommhdjdblaaDoorOpenR
import Derived.Test.YtlilommhdjdblaaDoorParts
import Derived.Deep.SlicePairs
namespace Go.Proofs.YtlilommhdjdblaaDoor
open Go.ChangeShapes Go.WideShapes Go.ChangeAt Go.RowKit

theorem cells_part : Tryd.prog.cellsOf 79 = 2 := by kernel_rfl
theorem bytes_part : Tryd.prog.bytesOf 79 = 32 := by kernel_rfl
section
variable {H : Type} {enc : TypeId × Value → H} {w : World} {base : Nat} {held : Bool}
/-- What a part reads as. -/
def partD (g : Int) (A : Option Addr) (L : Nat) (z : List Int) : DataW H := .agg [.lit (.int .i64 g), Deep.intRow .i64 A L z]
theorem open_part_rows {fuel : Nat} {cs : List Value} {x : DataW H × List MemPlace} (h : DataW.trod enc Tryd.prog w base (fun _ => true) held fuel 38 cs = some x) :
    (cs = [.slice none 0 0] ∧ x = (.nil, [])) ∨
    ∃ (a : Addr) (len cap : Nat) (G : Nat → Int) (A : Nat → Option Addr) (L C : Nat → Nat) (Z : Nat → List Int), cs = [.slice (some a) len cap] ∧ base ≤ a.block ∧ len ≤ cap ∧ cap ≤ maxLen ∧
      x.1 = .slice ((List.range len).map fun r => partD (G r) (A r) (L r) (Z r)) ((List.range (cap - len)).map fun j => partD (G (len + j)) (A (len + j)) (L (len + j)) (Z (len + j))) ∧
      ∀ r, r < cap → w.cell? (a.add (r * 2)) = some (.int .i64 (G r)) ∧ w.cell? (a.add (r * 2 + 1)) = some (.slice (A r) (L r) (C r)) ∧ (Lit.int .i64 (G r)).wf = true ∧ L r ≤ C r ∧ C r ≤ maxLen ∧ (Z r).length = C r ∧ (∀ n ∈ Z r, (Lit.int .i64 n).wf = true) ∧ (A r = none → C r = 0) ∧
        ∀ a', A r = some a' → base ≤ a'.block ∧ ∀ c, c < C r → w.cell? (a'.add c) = some (.int .i64 ((Z r).getD c 0)) := by
  rcases Deep.open_slice_pairs Tryd.underlying38 Tryd.underlying79 cells_part rfl rfl cells_int (by kernel_rfl) h with h0 | ⟨a, len, cap, m, n, V0, V1, D0, D1, P0, P1, rfl, hb, hl, hm, hmm, rfl, hx⟩
  · exact Or.inl h0
  right
  simp only [if_true] at hmm
  have hmm' := hmm.symm
  subst hmm'
  have each : ∀ r, r < cap → ∃ y : Int × Option Addr × Nat × Nat × List Int, V0 r = .int .i64 y.1 ∧ D0 r = .lit (.int .i64 y.1) ∧ (Lit.int .i64 y.1).wf = true ∧ V1 r = .slice y.2.1 y.2.2.1 y.2.2.2.1 ∧ D1 r = Deep.intRow .i64 y.2.1 y.2.2.1 y.2.2.2.2 ∧ y.2.2.1 ≤ y.2.2.2.1 ∧ y.2.2.2.1 ≤ maxLen ∧ y.2.2.2.2.length = y.2.2.2.1 ∧
      (∀ n ∈ y.2.2.2.2, (Lit.int .i64 n).wf = true) ∧ (y.2.1 = none → y.2.2.2.1 = 0) ∧ ∀ a', y.2.1 = some a' → base ≤ a'.block ∧ ∀ c, c < y.2.2.2.1 → w.cell? (a'.add c) = some (.int .i64 (y.2.2.2.2.getD c 0)) := by
    intro r hr
    obtain ⟨g, hg1, hg2, hg3⟩ := DataW.trod_int Tryd.underlying3 (hx r hr).2.2.1
    simp only [Prod.mk.injEq] at hg2
    rcases open_ints Tryd.underlying22 Tryd.underlying3 cells_int (hx r hr).2.2.2 with ⟨hcs, hy⟩ | ⟨a', len', cap', zs, hcs, hb', hl', hm', hz, hy, hcell, hwz⟩
    · simp only [Prod.mk.injEq] at hy
      exact ⟨(g, none, 0, 0, []), by simpa using hg1, hg2.1, hg3, by simpa using hcs, hy.1, Nat.le_refl _, Nat.zero_le _, rfl, by simp, fun _ => rfl, fun _ hh => by cases hh⟩
    · simp only [Prod.mk.injEq] at hy
      simp only [if_true] at hz
      refine ⟨(g, some a', len', cap', zs), by simpa using hg1, hg2.1, hg3, by simpa using hcs, hy.1, hl', hm', hz, hwz, (fun hh => by cases hh), fun a'' hh => ?_⟩
      cases hh
      exact ⟨hb', fun c hc => hcell c (by rw [hz]; exact hc)⟩
  obtain ⟨y, hy⟩ := Deep.choose_lt each
  refine ⟨a, len, cap, fun r => (y r).1, fun r => (y r).2.1, fun r => (y r).2.2.1, fun r => (y r).2.2.2.1, fun r => (y r).2.2.2.2, rfl, hb, hl, hm, ?_, fun r hr => ?_⟩
  · have key : ∀ r, r < cap → (DataW.agg [D0 r, D1 r] : DataW H) = partD (y r).1 (y r).2.1 (y r).2.2.1 (y r).2.2.2.2 := fun r hr => by
      obtain ⟨_, e1, _, _, e2, _⟩ := hy r hr
      rw [e1, e2]; rfl
    show DataW.slice _ _ = _
    rw [List.map_congr_left (fun r hr => key r (by have := List.mem_range.1 hr; omega)), List.map_congr_left (fun j hj => key (len + j) (by have := List.mem_range.1 hj; omega))]
  · obtain ⟨e0, _, e1, e2, _, r1, r2, r3, r4, r5, r6⟩ := hy r hr
    exact ⟨by rw [(hx r hr).1, e0], by rw [(hx r hr).2.1, e2], e1, r1, r2, r3, r4, r5, r6⟩
end
theorem open_parts_arg {H : Type} {enc : TypeId × Value → H} {W : World} {ts : List TypeId} {ds : List (DataW H)} (hs : (DataW.weightsEach Tryd.prog ts ds).all (· ≤ reachBytes) = true) {j : Nat} {A : Option Addr} {n c : Nat} {d : DataW H} {p : List MemPlace}
    (ht : ts[j]? = some 38) (hd : ds[j]? = some d) (h : DataW.Trod enc Tryd.prog W 0 (fun _ => true) true 38 (.slice A n c) d p) (_lt : ∀ x ∈ p, x.block < W.heap.size) :
    ∃ ps, RdP W W.heap.size A n ps ∧ (n ≤ c ∧ c ≤ 17592186044415) ∧ (∀ q ∈ ps, q.pulses.length ≤ 17592186044415 ∧ Is64 q.gain ∧ ∀ x ∈ q.pulses, Is64 x) := by
  obtain ⟨fuel, hf⟩ := h
  rcases open_part_rows hf with ⟨hcs, _⟩ | ⟨x, len, cap, G, Ad, L, C, Z, hcs, _, hl, _, hd2, hr⟩
  · simp [Value.cells] at hcs
    obtain ⟨rfl, rfl, rfl⟩ := hcs
    exact ⟨[], RdP.nil, by omega, by simp⟩
  · simp [Value.cells] at hcs
    obtain ⟨rfl, rfl, rfl⟩ := hcs
    simp only at hd2
    rw [hd2] at hd
    have hw := sized_slice hs ht hd Tryd.underlying38
    rw [bytes_part] at hw
    simp only [List.length_map, List.length_range] at hw
    unfold reachBytes at hw
    have hin : ∀ r, r < n → (Z r).length ≤ 17592186044415 := by
      intro r hrn
      obtain ⟨_, _, _, h1, _, h3, _, h5, _⟩ := hr r (by omega)
      cases hA : Ad r with
      | none => have := h5 hA; omega
      | some a' =>
        have hm : partD (H := H) (G r) (Ad r) (L r) (Z r) ∈ (List.range n).map fun r => partD (H := H) (G r) (Ad r) (L r) (Z r) := List.mem_map.2 ⟨r, List.mem_range.2 hrn, rfl⟩
        have hn : ((Z r).take (L r)).length + ((Z r).drop (L r)).length = (Z r).length := by simp; omega
        have hmem : ((Z r).length * Tryd.prog.bytesOf 3) ∈ DataW.weightsEach Tryd.prog ts ds := by
          refine DataW.weights_mem_each ht hd _ ?_
          simp only [DataW.weights, Tryd.underlying38]
          refine List.mem_cons_of_mem _ (List.mem_append.2 (.inl (weightsAll_mem hm _ ?_)))
          rw [hA]
          simp only [partD, DataW.weights, Tryd.underlying79, Deep.intRow]
          simp only [lits]
          show _ ∈ DataW.weightsEach Tryd.prog [3, 22] _
          simp only [DataW.weightsEach, DataW.weights, Tryd.underlying22, List.nil_append, List.length_map, hn]
          simp
        have := List.all_eq_true.1 hs _ hmem
        rw [bytes_int] at this
        unfold reachBytes at this
        simp at this
        omega
    have hLs : ∀ r, r < n → ((Z r).take (L r)).length = L r := fun r hrn => by
      obtain ⟨_, _, _, h1, _, h3, _⟩ := hr r (by omega)
      rw [List.length_take]; omega
    have hgz : ∀ i, i < n → ((List.range n).map fun r => (⟨G r, (Z r).take (L r)⟩ : Ph.Part)).getD i ⟨0, []⟩ = ⟨G i, (Z i).take (L i)⟩ := fun i hi => by
      rw [List.getD_eq_getElem?_getD, List.getElem?_map, List.getElem?_range hi]; rfl
    have hge : gainsP ((List.range n).map fun r => (⟨G r, (Z r).take (L r)⟩ : Ph.Part)) = (List.range n).map G := by simp [gainsP]
    have hre : rowsP ((List.range n).map fun r => (⟨G r, (Z r).take (L r)⟩ : Ph.Part)) = (List.range n).map fun r => (Z r).take (L r) := by simp [rowsP]
    refine ⟨(List.range n).map fun r => ⟨G r, (Z r).take (L r)⟩, ⟨by simp, (List.range n).map fun r => .slice (Ad r) (L r) (C r), ⟨?_, fun hn => ?_⟩, ?_⟩, ⟨hl, by omega⟩, ?_⟩
    · rw [hge, pcells_length (by simp)]; simp
    · rw [hge]
      obtain ⟨b, off, spot⟩ := x
      have hc0 := (hr 0 (by omega)).1
      have hspot : spot = none := by simpa [Addr.add] using World.cell?_spot hc0
      subst hspot
      refine ⟨b, off, rfl, ?_, fun i hi => ?_⟩
      · have hb := World.block_lt_of_cell? W _ hc0
        simpa [Addr.add] using hb
      · have hg := pcells_get (gs := (List.range n).map G) (vs := (List.range n).map fun r => Value.slice (Ad r) (L r) (C r)) (k := i / 2) (by simp) (by simp; omega)
        have hci := hr (i / 2) (by omega)
        rw [addr_add, addr_add] at hci
        rcases Nat.mod_two_eq_zero_or_one i with h2 | h2
        · rw [show i / 2 * 2 = i by omega] at hci hg
          rw [hci.1, hg.1, List.getD_eq_getElem?_getD, List.getElem?_map, List.getElem?_range (by omega)]; rfl
        · rw [show i / 2 * 2 + 1 = i by omega] at hci hg
          rw [hci.2.1, hg.2, List.getElem?_map, List.getElem?_range (by omega)]; rfl
    · rw [hre]
      refine rows_of_list (by simp) fun i hi => ?_
      have hi' : i < n := by simpa using hi
      refine ⟨.slice (Ad i) (L i) (C i), by rw [List.getElem?_map, List.getElem?_range hi']; rfl, ?_⟩
      rw [List.getD_eq_getElem?_getD, List.getElem?_map, List.getElem?_range hi']
      simp only [Option.map_some, Option.getD_some]
      obtain ⟨_, _, _, h1, _, h3, _, h5, h6⟩ := hr i (by omega)
      refine ⟨Ad i, C i, by rw [hLs i hi'], by rw [hLs i hi']; exact ⟨h1, h5⟩, ?_⟩
      refine ⟨by rw [ivals_length], fun hn => ?_⟩
      rw [hLs i hi'] at hn ⊢
      cases hA : Ad i with
      | none => have := h5 hA; omega
      | some a' =>
        obtain ⟨_, hc⟩ := h6 a' hA
        obtain ⟨b, off, spot⟩ := a'
        have hc0 := hc 0 (by omega)
        have hspot : spot = none := by simpa [Addr.add] using World.cell?_spot hc0
        subst hspot
        refine ⟨b, off, rfl, ?_, fun q hq => ?_⟩
        · have hb := World.block_lt_of_cell? W _ hc0
          simpa [Addr.add] using hb
        · have hcq := hc q (by omega)
          rw [addr_add] at hcq
          rw [hcq, ivals_get (by rw [hLs i hi']; exact hq)]
          simp [hq]
    · intro q hq
      obtain ⟨r, hrn, rfl⟩ := List.mem_map.1 hq
      have hrn' := List.mem_range.1 hrn
      obtain ⟨_, _, h0, _, _, _, h4, _⟩ := hr r (by omega)
      exact ⟨Nat.le_trans (List.length_take_le' _ _) (hin r hrn'), is64_of h0, fun y hy => is64_of (h4 y (List.mem_of_mem_take hy))⟩
end Go.Proofs.YtlilommhdjdblaaDoor
