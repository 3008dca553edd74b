/- What the law's arguments read as, opened for the walk: slices of ints, and what stands for the whole program. -/
import Derived.Test.YtjdpgakkphdjlaaGreatDoorRows
import Derived.Test.YtjdpgakkphdjlaaGreatDoorMem
import Derived.ProofKit
import Derived.OpenShut
import Derived.ShutString
import Derived.ChangeOld
import Derived.SizedLaws
namespace Go.Proofs.YtjdpgakkphdjlaaGreatDoor
open Go.ChangeShapes Go.WideShapes Go.ChangeAt Go.RowKit
open Go.ChangeMaps (open_string shut_string)

theorem own : ownKnob Tryz.prog.godebug = none := by kernel_rfl
theorem laidOut : laidOutB Tryz.prog = true := by kernel_rfl
theorem cells_int : Tryz.prog.cellsOf 3 = 1 := by kernel_rfl
theorem bytes_int : Tryz.prog.bytesOf 3 = 8 := by kernel_rfl

/-- A number of 64 bits. -/
def Is64 (x : Int) : Prop := -9223372036854775808 ≤ x ∧ x ≤ 9223372036854775807
theorem is64_of {x : Int} (h : (Lit.int .i64 x).wf = true) : Is64 x := by
  have := bounds_i64 h
  exact this

theorem open_ints_arg {H : Type} {enc : TypeId × Value → H} {W : World} {ts : List TypeId} {ds : List (DataW H)} (hs : (DataW.weightsEach Tryz.prog ts ds).all (· ≤ reachBytes) = true) {j : Nat} {A : Option Addr} {n c : Nat} {d : DataW H} {p : List MemPlace}
    (ht : ts[j]? = some 49) (hd : ds[j]? = some d) (h : DataW.Trod enc Tryz.prog W 0 (fun _ => true) true 49 (.slice A n c) d p) (_lt : ∀ x ∈ p, x.block < W.heap.size) :
    ∃ l, RdI W W.heap.size A n l ∧ (n ≤ c ∧ c ≤ 17592186044415) ∧ (∀ x ∈ l, Is64 x) := by
  obtain ⟨fuel, hf⟩ := h
  rcases open_ints Tryz.underlying49 Tryz.underlying3 cells_int hf with ⟨hcs, _⟩ | ⟨x, len, cap, zs, hcs, _, hl, hm, hz, hx, hcell, hwz⟩
  · simp [Value.cells] at hcs
    obtain ⟨rfl, rfl, rfl⟩ := hcs
    exact ⟨[], RdI.nil, by omega, by simp⟩
  · simp [Value.cells] at hcs
    obtain ⟨rfl, rfl, rfl⟩ := hcs
    simp only [if_true] at hz
    have hd2 : d = .slice (lits .i64 (zs.take n)) (lits .i64 (zs.drop n)) := by injection hx
    have hp2 : p = MemPlace.row x zs.length := by injection hx
    have hr := sized_slice hs ht (by rw [hd, hd2]) Tryz.underlying49
    rw [bytes_int] at hr
    have hlen : (lits (H := H) .i64 (zs.take n)).length + (lits (H := H) .i64 (zs.drop n)).length = c := by simp [lits]; omega
    rw [hlen] at hr
    unfold reachBytes at hr
    refine ⟨zs.take n, ⟨by rw [ivals_length, List.length_take]; omega, fun hn => ?_⟩, ⟨hl, by omega⟩, fun y hy => is64_of (hwz y (List.mem_of_mem_take hy))⟩
    obtain ⟨b, off, spot⟩ := x
    have hc0 := hcell 0 (by omega)
    have hspot : spot = none := by simpa [Addr.add] using World.cell?_spot hc0
    subst hspot
    refine ⟨b, off, rfl, ?_, fun j hj => ?_⟩
    · have hb := World.block_lt_of_cell? W _ hc0
      simpa [Addr.add] using hb
    · have hcj := hcell j (by omega)
      have ha : (⟨b, off, none⟩ : Addr).add j = ⟨b, off + j, none⟩ := by unfold Addr.add; split <;> simp_all
      rw [ha] at hcj
      rw [hcj, ivals_get (by rw [List.length_take]; omega)]
      simp [hj]
theorem string_size {H : Type} {ts : List TypeId} {ds : List (DataW H)} (hs : (DataW.weightsEach Tryz.prog ts ds).all (· ≤ reachBytes) = true) {j : Nat} {t : TypeId} {s : ByteArray}
    (ht : ts[j]? = some t) (hd : ds[j]? = some (.lit (.string s.data.toList))) : s.size ≤ 140737488351232 := by
  have := sized_string hs ht hd
  unfold reachBytes at this
  simpa using this
end Go.Proofs.YtjdpgakkphdjlaaGreatDoor
