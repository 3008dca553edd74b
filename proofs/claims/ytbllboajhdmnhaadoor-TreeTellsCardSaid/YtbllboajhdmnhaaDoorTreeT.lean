/- What tree.Forward and tree.Inverse tell (chapter 3). -/
import Derived.Test.YtbllboajhdmnhaaDoorTreeF
import Derived.Test.YtbllboajhdmnhaaDoorLap4
namespace Go.Proofs.YtbllboajhdmnhaaDoor
open Go.RowKit

theorem tfwd_no (A : Option Addr) (n c : Nat) (l : List Int) (v : Int) (w : World) (B : Nat) (h : RdI w B A n l) (hB : B ≤ w.heap.size) (hn : n ≤ 100000000000000) (h0 : treeErr l v 1000 ≠ 0) :
    Calls Tryd.prog 27 #[.slice A n c, .int .i64 v] w fun e w' => e = .returned (.tuple #[.slice none 0 0, errV (treeErr l v 1000)]) ∧ Below w.heap.size w w' := by
  have HK := Lib.hid fun W hW hBW => tcheck_any A n c l v 1000 W B hW hBW hn (by omega)
  have he := errV_ne h0
  have H := Lib.hid h
  clear h h0
  go_enter Tryd.func27, Tryd.ntmps27
  go_wp2_with fail
  refine (HK.out _ H.out hB).mono ?_
  rintro e w1 ⟨rfl, hb1⟩
  go_wp2_with fail
  go_ret2
  exact ⟨ret_two rfl he.symm, hb1⟩
theorem tinv_no (A : Option Addr) (n c : Nat) (l : List Int) (v : Int) (w : World) (B : Nat) (h : RdI w B A n l) (hB : B ≤ w.heap.size) (hn : n ≤ 100000000000000) (h0 : treeErr l v 2000 ≠ 0) :
    Calls Tryd.prog 29 #[.slice A n c, .int .i64 v] w fun e w' => e = .returned (.tuple #[.slice none 0 0, errV (treeErr l v 2000)]) ∧ Below w.heap.size w w' := by
  have HK := Lib.hid fun W hW hBW => tcheck_any A n c l v 2000 W B hW hBW hn (by omega)
  have he := errV_ne h0
  have H := Lib.hid h
  clear h h0
  go_enter Tryd.func29, Tryd.ntmps29
  go_wp2_with fail
  refine (HK.out _ H.out hB).mono ?_
  rintro e w1 ⟨rfl, hb1⟩
  go_wp2_with fail
  go_ret2
  exact ⟨ret_two rfl he.symm, hb1⟩
theorem treeErr_nat {l : List Int} {v b : Int} (h : treeErr l v b = 0) : ∃ V : Nat, v = V := ⟨v.toNat, by have := treeErr_zero.1 h; omega⟩
theorem treeErr_mod {l : List Int} {v : Nat} {b : Int} (h : treeErr l v b = 0) : l.length % 2 ^ v = 0 := by
  have := (treeErr_zero.1 h).2.2.2.1
  rwa [Int.toNat_natCast] at this
theorem tfwd_told (A : Option Addr) (n c : Nat) (l : List Int) (v : Int) (w : World) (B : Nat) (h : RdI w B A n l) (hB : B ≤ w.heap.size) (hn : n ≤ 100000000000000) :
    Calls Tryd.prog 27 #[.slice A n c, .int .i64 v] w (ToldI (treeErr l v 1000) (Ph.treeF v.toNat l) n w) := by
  by_cases h0 : treeErr l v 1000 = 0
  · obtain ⟨V, rfl⟩ := treeErr_nat h0
    refine (tfwd_ok A n c V l w B h hB h0).mono ?_
    rintro e w' ⟨A', c', rfl, ho, hb⟩
    exact ⟨_, by rw [h0]; rfl, fun _ => ⟨A', c', rfl, own_cap ho, RdI.own ho⟩, hb⟩
  · refine (tfwd_no A n c l v w B h hB hn h0).mono ?_
    rintro e w' ⟨rfl, hb⟩
    exact ⟨_, rfl, fun hk => absurd hk h0, hb⟩
/-- What is wrong with numbers that shall come back. -/
def tinvErr (l : List Int) (v : Int) : Int := if treeErr l v 2000 ≠ 0 then treeErr l v 2000 else match Ph.treeI v.toNat l with
  | some _ => 0
  | none => 1
def tinvOut (l : List Int) (v : Int) : List Int := (Ph.treeI v.toNat l).getD []
theorem tinvErr_zero {l : List Int} {v : Int} (h : tinvErr l v = 0) : treeErr l v 2000 = 0 ∧ Ph.treeI v.toNat l = some (tinvOut l v) := by
  unfold tinvErr at h
  by_cases h0 : treeErr l v 2000 = 0
  · rw [if_neg (by omega)] at h
    refine ⟨h0, ?_⟩
    unfold tinvOut
    cases hx : Ph.treeI v.toNat l with
    | some s => rfl
    | none => rw [hx] at h; simp at h
  · rw [if_pos h0] at h; exact absurd h h0
theorem tinv_told (A : Option Addr) (n c : Nat) (l : List Int) (v : Int) (w : World) (B : Nat) (h : RdI w B A n l) (hB : B ≤ w.heap.size) (hn : n ≤ 100000000000000) :
    Calls Tryd.prog 29 #[.slice A n c, .int .i64 v] w (ToldI (tinvErr l v) (tinvOut l v) n w) := by
  by_cases h0 : treeErr l v 2000 = 0
  · obtain ⟨V, rfl⟩ := treeErr_nat h0
    have := tinv_ok A n c V l w B h hB h0
    unfold tinvErr tinvOut
    rw [if_neg (by omega), Int.toNat_natCast]
    cases hx : Ph.treeI V l with
    | some s =>
      rw [hx] at this
      refine this.mono ?_
      rintro e w' ⟨A', c', rfl, ho, hb⟩
      exact ⟨_, rfl, fun _ => ⟨A', c', rfl, own_cap ho, RdI.own ho⟩, hb⟩
    | none =>
      rw [hx] at this
      refine this.mono ?_
      rintro e w' ⟨rfl, hb⟩
      exact ⟨_, rfl, fun hk => by simp at hk, hb⟩
  · refine (tinv_no A n c l v w B h hB hn h0).mono ?_
    unfold tinvErr
    rw [if_pos h0]
    rintro e w' ⟨rfl, hb⟩
    exact ⟨_, rfl, fun hk => absurd hk h0, hb⟩
end Go.Proofs.YtbllboajhdmnhaaDoor
