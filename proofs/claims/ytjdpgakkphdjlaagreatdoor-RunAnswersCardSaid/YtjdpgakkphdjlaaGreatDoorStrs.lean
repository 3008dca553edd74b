/- Slices of strings as values. -/
import Derived.Test.YtjdpgakkphdjlaaGreatDoorMem
namespace Go.Proofs.YtjdpgakkphdjlaaGreatDoor
open Go.RowKit

def svals (l : List ByteArray) : List Value := l.map Value.string
theorem svals_length (l : List ByteArray) : (svals l).length = l.length := by simp [svals]
theorem svals_get {l : List ByteArray} {k : Nat} (h : k < l.length) : (svals l)[k]? = some (.string (l.getD k ByteArray.empty)) := by
  unfold svals
  rw [List.getElem?_map, List.getElem?_eq_getElem h, List.getD_eq_getElem?_getD, List.getElem?_eq_getElem h]; rfl
theorem svals_append (a b : List ByteArray) : svals (a ++ b) = svals a ++ svals b := by simp [svals]
theorem svals_one (l : List ByteArray) : ∀ u ∈ svals l, u.oneCell' = true := by
  intro u hu
  obtain ⟨x, _, rfl⟩ := List.mem_map.1 hu
  rfl
/-- A slice of strings that reads as l. -/
def RdS (w : World) (B : Nat) (A : Option Addr) (n : Nat) (l : List ByteArray) : Prop := Rd w B A n (svals l)
section
variable {w w' : World} {B B' n : Nat} {A : Option Addr} {l : List ByteArray}
theorem RdS.len (h : RdS w B A n l) : l.length = n := by have := h.1; rwa [svals_length] at this
theorem RdS.nil : RdS w B A 0 [] := Rd.nil
theorem RdS.at_ {k : Nat} (h : RdS w B A n l) (hk : k < n) : ∃ b off, A = some ⟨b, off, none⟩ ∧ b < B ∧ w.cell? ⟨b, off + k, none⟩ = some (.string (l.getD k ByteArray.empty)) := by
  obtain ⟨b, off, u, h1, h2, h3, h4⟩ := Rd.at_ h hk
  rw [svals_get (by rw [h.len]; exact hk)] at h3
  injection h3 with h3
  subst h3
  exact ⟨b, off, h1, h2, h4⟩
theorem RdS.more (h : RdS w B A n l) (hB : B ≤ B') : RdS w B' A n l := Rd.more h hB
theorem RdS.below (h : RdS w B A n l) (hb : Below B w w') : RdS w' B A n l := Rd.below h hb
theorem RdS.on (h : RdS w w.heap.size A n l) (hb : Below w.heap.size w w') : RdS w' w'.heap.size A n l := (h.below hb).more hb.size
theorem RdS.own {base : Nat} {e : TypeId} {c : Nat} (h : w.ownsRow base e 1 (.slice A n c) n (svals l)) : RdS w w.heap.size A n l := Rd.own h
end
end Go.Proofs.YtjdpgakkphdjlaaGreatDoor
