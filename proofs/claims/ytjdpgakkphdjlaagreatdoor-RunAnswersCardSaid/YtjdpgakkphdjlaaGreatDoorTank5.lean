/- A tank's cells; what is told of a tank. -/
import Derived.Test.YtjdpgakkphdjlaaGreatDoorRefTank
namespace Go.Proofs.YtjdpgakkphdjlaaGreatDoor
open Go.RowKit

/-- A tank's three cells. -/
def TankAt (w : World) (b : Nat) (s e h : Int) : Prop := b < w.heap.size ∧ w.cell? ⟨b, 0, none⟩ = some (.int .i64 s) ∧ w.cell? ⟨b, 1, none⟩ = some (.int .i64 e) ∧ w.cell? ⟨b, 2, none⟩ = some (.int .i64 h)
theorem TankAt.below {w w' : World} {b : Nat} {s e h : Int} (H : TankAt w b s e h) (hb : Below w.heap.size w w') : TankAt w' b s e h := by
  obtain ⟨h0, h1, h2, h3⟩ := H
  exact ⟨Nat.lt_of_lt_of_le h0 hb.size, (hb.cell (p := ⟨b, 0, none⟩) h0).trans h1, (hb.cell (p := ⟨b, 1, none⟩) h0).trans h2, (hb.cell (p := ⟨b, 2, none⟩) h0).trans h3⟩
theorem TankAt.new (w : World) (s e h : Int) : TankAt (w.alloc (.cells #[.int .i64 s, .int .i64 e, .int .i64 h] 26)) w.heap.size s e h := by
  refine ⟨by simp, by simp, by simp, by simp⟩
theorem TankAt.set {w : World} {b : Nat} {s e h : Int} (H : TankAt w b s e h) {p : Addr} (hp : b ≠ p.block) (u : Value) : TankAt (w.setCell p u) b s e h := by
  obtain ⟨h0, h1, h2, h3⟩ := H
  have hk := fun (j : Nat) => World.cell?_of_block (w := w) (w' := w.setCell p u) (a := ⟨b, j, none⟩) (Below.heap_setCell w p u b hp)
  exact ⟨by simpa using h0, (hk 0).trans h1, (hk 1).trans h2, (hk 2).trans h3⟩
theorem TankAt.drew {w : World} {b : Nat} {s e h : Int} (H : TankAt w b s e h) : TankAt w.drew b s e h := H
theorem tcheck_told (s e h : Int) (w : World) : Calls Tryz.prog 74 #[tankV s e h] w fun r w' => r = .returned (errV (Ph.tankErr ⟨s, e, h⟩)) ∧ Below w.heap.size w w' := by
  by_cases ht : Ph.tankErr ⟨s, e, h⟩ = 0
  · rw [ht, errV_of rfl]
    have hp := Ph.tankErr_zero.1 ht
    simp only at hp
    exact tcheck_ok s e h w (by omega) (by omega) (by omega)
  · rw [(tankErr_two _).resolve_left ht, errV_ne (by omega)]
    exact tcheck_no s e h w (tank_bad ht)
theorem tmay_told (s e h : Int) (w : World) : Calls Tryz.prog 51 #[tankV s e h] w fun r w' => r = .returned (.tuple #[.int .i64 (kept (Ph.tankErr ⟨s, e, h⟩) (Ph.full ⟨s, e, h⟩)), errV (Ph.tankErr ⟨s, e, h⟩)]) ∧ Below w.heap.size w w' := by
  by_cases ht : Ph.tankErr ⟨s, e, h⟩ = 0
  · rw [ht, errV_of rfl, kept_zero]
    have hp := Ph.tankErr_zero.1 ht
    simp only at hp
    exact tmay_ok s e h w (by omega) (by omega) (by omega)
  · rw [kept_ne ht, (tankErr_two _).resolve_left ht]
    exact tmay_no s e h w ht
end Go.Proofs.YtjdpgakkphdjlaaGreatDoor
