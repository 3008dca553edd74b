/- Walks: pairs (chapter 2). -/
import Derived.Test.YtjdpgakkphdjlaaGreatDoorMem
import Derived.Test.YtjdpgakkphdjlaaGreatDoorPhAll
import Derived.Outline
import Derived.Handy
import Derived.Deep.QuietTactic
import Derived.BigQuiet
import Derived.Shelf.Abstract
namespace Go.Proofs.YtjdpgakkphdjlaaGreatDoor
open Go.RowKit

theorem ret_bool {b c : Bool} (h : b = c) : Ending.returned (.bool b) = .returned (.bool c) := by rw [h]
theorem ret_true {b : Bool} (h : b = true) : Ending.returned (.bool b) = .returned (.bool true) := by rw [h]
theorem within_any (n m : Int) (w : World) (hm : 0 ≤ m ∧ m ≤ 1000000) :
    Calls Tryz.prog 105 #[.int .i64 n, .int .i64 m] w fun e w' => e = .returned (.bool (Ph.within n m)) ∧ w = w' := by
  go_enter Tryz.func105, Tryz.ntmps105
  go_wp2
  · go_ret
    have h : -m ≤ n := by assumption
    exact ⟨ret_bool (by simp [Ph.within, h]), rfl⟩
  · go_ret
    have h : n < -m := by assumption
    exact ⟨ret_bool (Ph.within_false.2 (.inl h)).symm, rfl⟩
theorem rfar_any (n : Int) (w : World) (h : -1000000000000 ≤ n ∧ n ≤ 1000000000000) :
    Calls Tryz.prog 36 #[.int .i64 n] w fun e w' => e = .returned (.int .i64 (Ph.far n)) ∧ w = w' := by
  rw [Ph.far_eq]
  by_cases h0 : n < 0
  · rw [if_pos h0]
    go_enter Tryz.func36, Tryz.ntmps36
    go_wp2
    go_ret
    exact ⟨rfl, rfl⟩
  · rw [if_neg h0]
    go_enter Tryz.func36, Tryz.ntmps36
    go_wp2
    go_ret
    exact ⟨rfl, rfl⟩
end Go.Proofs.YtjdpgakkphdjlaaGreatDoor
/- Walks: samples (chapter 1). -/
namespace Go.Proofs.YtjdpgakkphdjlaaGreatDoor
open Go.RowKit

theorem ret_int {k : IntKind} {a b : Int} (h : a = b) : Ending.returned (.int k a) = .returned (.int k b) := by rw [h]
theorem ret_val {a b : Value} (h : a = b) : Ending.returned a = .returned b := by rw [h]
theorem ret_two {a b a' b' : Value} (h : a = a') (h2 : b = b') : Ending.returned (.tuple #[a, b]) = .returned (.tuple #[a', b']) := by rw [h, h2]
theorem ret_three {a b c a' b' c' : Value} (h : a = a') (h2 : b = b') (h3 : c = c') : Ending.returned (.tuple #[a, b, c]) = .returned (.tuple #[a', b', c']) := by rw [h, h2, h3]
theorem far_any (n : Int) (w : World) (h : -1000000000000 ≤ n ∧ n ≤ 1000000000000) :
    Calls Tryz.prog 87 #[.int .i64 n] w fun e w' => e = .returned (.int .i64 (Ph.far n)) ∧ w = w' := by
  rw [Ph.far]
  go_enter Tryz.func87, Tryz.ntmps87
  go_wp2
  · have h1 : n < -n := by assumption
    go_ret
    exact ⟨rfl, rfl⟩
  · have h1 : -n ≤ n := by assumption
    go_ret
    exact ⟨rfl, rfl⟩
theorem sum_any (A : Option Addr) (n c : Nat) (l : List Int) (w : World) (B : Nat) (h : RdI w B A n l) (hb : Ph.allIn l 8000 = true) (hn : n ≤ 1000000) :
    Calls Tryz.prog 69 #[.slice A n c] w fun e w' => e = .returned (.int .i64 (Ph.loud l)) ∧ w = w' := by
  have hl := h.len
  have H := Lib.hid h
  clear h
  have HL := Lib.hid hl
  clear hl
  have HB := Lib.hid hb
  clear hb
  go_enter Tryz.func69, Tryz.ntmps69
  go_wp2_with fail
  go_loop [3, 8] (fun s i => ∃ k : Nat, k ≤ n ∧ i = .int .i64 k ∧ s = .int .i64 (Ph.loud (l.take k))) (fun _ i => n - (intOf i).toNat)
  case atStart => exact ⟨0, Nat.zero_le _, rfl, rfl⟩
  case round =>
    obtain ⟨k, hk, rfl, rfl⟩ := hrel
    by_cases hlt : k < n
    · obtain ⟨b, off, rfl, _, hc⟩ := H.out.at_ hlt
      have hbd := Ph.allIn_getD HB.out (by omega) k
      have hs0 := Ph.loud_nonneg (l.take k)
      have hs1 : Ph.loud (l.take k) ≤ 8000 * 1000000 := by
        have := Ph.loud_take_le l k
        have h2 := Ph.loud_le HB.out
        rw [HL.out] at h2
        omega
      have hf := Ph.far_nonneg (l.getD k 0)
      have hf2 : Ph.far (l.getD k 0) ≤ 8000 := Ph.far_le.2 hbd
      simp only [List.getD_eq_getElem?_getD] at hbd hf hf2
      go_wp2_with (go_at_call 87; refine (far_any _ _ (by omega)).mono ?_; rintro e w' ⟨rfl, rfl⟩)
      go_round
      case rel => exact ⟨k + 1, by omega, by go_num, by rw [Ph.take_snoc l k (by rw [HL.out]; exact hlt), Ph.loud_snoc, List.getD_eq_getElem?_getD]⟩
      case measure => simp [intOf]; omega
    · go_wp2
      go_ret
      exact ⟨ret_int (by rw [List.take_of_length_le (by rw [HL.out]; omega)]), rfl⟩
/-- An index is told, or none: is there one? -/
def SomeIdx (q : Bool) (w : World) (e : Ending) (w' : World) : Prop := ∃ r : Int, e = .returned (.int .i64 r) ∧ decide (0 ≤ r) = q ∧ w = w'
theorem idx_any (A : Option Addr) (n c g : Nat) (caps : Array Value) (l : List Int) (p : Int → Bool) (w : World) (B : Nat) (h : RdI w B A n l) (hn : n ≤ 100000000000000)
    (he : ∀ args W, (callFunc g args).run Tryz.prog W = .ok (.enter g args) W) (hp : ∀ x ∈ l, Calls Tryz.prog g (#[.int .i64 x] ++ caps) w fun e w' => e = .returned (.bool (p x)) ∧ w = w') :
    Calls Tryz.prog 121 #[.slice A n c, .func (.func g) #[] caps] w (SomeIdx (l.any p) w) := by
  have HL := Lib.hid h.len
  have H := Lib.hid h
  clear h
  have HP := Lib.hid hp
  clear hp
  go_enter Tryz.func121, Tryz.ntmps121
  go_wp2_with fail
  go_loop [8] (fun i => ∃ k : Nat, k ≤ n ∧ i = .int .i64 k ∧ ∀ j, j < k → p (l.getD j 0) = false) (fun i => n - (intOf i).toNat)
  case atStart => exact ⟨0, Nat.zero_le _, rfl, fun j hj => by omega⟩
  case round =>
    obtain ⟨k, hk, rfl, hall⟩ := hrel
    have HA := Lib.hid hall
    clear hall
    by_cases hlt : k < n
    · obtain ⟨b, off, rfl, _, hc⟩ := H.out.at_ hlt
      have HM := Lib.hid (Ph.getD_mem (l := l) (i := k) (by rw [HL.out]; exact hlt))
      go_wp2_with fail
      refine (HP.out _ HM.out).mono ?_
      rintro e w' ⟨rfl, rfl⟩
      cases hpk : p (l[k]?.getD 0)
      · go_wp2
        go_round
        case rel =>
          refine ⟨k + 1, by omega, by go_num, fun j hj => ?_⟩
          by_cases hjk : j < k
          · exact HA.out j hjk
          · have e : j = k := by omega
            rw [e, List.getD_eq_getElem?_getD]; exact hpk
        case measure => simp [intOf]; omega
      · go_wp2
        go_ret
        refine ⟨k, rfl, ?_, rfl⟩
        have h1 : l.any p = true := List.any_eq_true.2 ⟨_, HM.out, by rw [List.getD_eq_getElem?_getD]; exact hpk⟩
        rw [h1]; simp
    · go_wp2
      go_ret
      refine ⟨-1, rfl, ?_, rfl⟩
      have h1 : l.any p = false := by
        rw [List.any_eq_false]
        intro x hx
        obtain ⟨j, hj, rfl⟩ := List.mem_iff_getElem.1 hx
        have hj2 := HL.out
        have := HA.out j (by omega)
        rw [List.getD_eq_getElem?_getD, List.getElem?_eq_getElem hj] at this
        simpa using this
      rw [h1]; simp
theorem any_any (A : Option Addr) (n c g : Nat) (caps : Array Value) (l : List Int) (p : Int → Bool) (w : World) (B : Nat) (h : RdI w B A n l) (hn : n ≤ 100000000000000)
    (he : ∀ args W, (callFunc g args).run Tryz.prog W = .ok (.enter g args) W) (hp : ∀ x ∈ l, Calls Tryz.prog g (#[.int .i64 x] ++ caps) w fun e w' => e = .returned (.bool (p x)) ∧ w = w') :
    Calls Tryz.prog 103 #[.slice A n c, .func (.func g) #[] caps] w fun e w' => e = .returned (.bool (l.any p)) ∧ w = w' := by
  have HI := Lib.hid (idx_any A n c g caps l p w B h hn he hp)
  clear h hp
  go_enter Tryz.func103, Tryz.ntmps103
  go_wp2_with fail
  refine HI.out.mono ?_
  rintro e w' ⟨r, rfl, hr, rfl⟩
  have HR := Lib.hid hr
  clear hr
  go_wp2
  go_ret
  exact ⟨ret_bool HR.out, rfl⟩
theorem all1_any (b : Nat) (w : World) (n m : Int) (hm : 0 ≤ m ∧ m ≤ 1000000) (hc : w.cell? ⟨b, 0, none⟩ = some (.int .i64 m)) :
    Calls Tryz.prog 104 #[.int .i64 n, .pointer (some ⟨b, 0, none⟩)] w fun e w' => e = .returned (.bool (!Ph.within n m)) ∧ w = w' := by
  go_enter Tryz.func104, Tryz.ntmps104
  go_wp2_with (go_at_call 105; refine (within_any _ _ _ (by omega)).mono ?_; rintro e w' ⟨rfl, rfl⟩)
  go_ret
  exact ⟨rfl, rfl⟩
theorem enters_all1 : ∀ args W, (callFunc 104 args).run Tryz.prog W = .ok (.enter 104 args) W :=
  fun args W => enters_of Tryz.func104 (by kernel_rfl) rfl args W
theorem all_any (A : Option Addr) (n c : Nat) (l : List Int) (w : World) (B : Nat) (h : RdI w B A n l) (hB : B ≤ w.heap.size) (m : Int) (hn : n ≤ 100000000000000) (hm : 0 ≤ m ∧ m ≤ 1000000) :
    Calls Tryz.prog 86 #[.slice A n c, .int .i64 m] w fun e w' => e = .returned (.bool (Ph.allIn l m)) ∧ Below w.heap.size w w' := by
  have HC := fun W hR hcell => Lib.hid (any_any A n c 104 #[.pointer (some ⟨w.heap.size, 0, none⟩)] l (fun x => !Ph.within x m) W B hR hn enters_all1 (fun x _ => all1_any w.heap.size W x m hm hcell))
  have HR := Lib.hid (h.alloc hB (.cells #[.int .i64 m] 3))
  clear h
  go_enter Tryz.func86, Tryz.ntmps86
  go_wp2_with fail
  refine (HC _ HR.out (by simp)).out.mono ?_
  rintro e w' ⟨rfl, rfl⟩
  go_wp2
  go_ret
  exact ⟨ret_bool (by unfold Ph.allIn; rw [List.not_any_eq_all_not]; simp), (Below.refl _ _).alloc (Nat.le_refl _) _⟩
/-- What is wrong with samples. -/
theorem check_any (A : Option Addr) (n c : Nat) (l : List Int) (w : World) (B : Nat) (h : RdI w B A n l) (hB : B ≤ w.heap.size) (hn : n ≤ 100000000000000) :
    Calls Tryz.prog 88 #[.slice A n c] w fun e w' => e = .returned (errV (Ph.soundErr l)) ∧ Below w.heap.size w w' := by
  have hl := h.len
  by_cases h32 : 32 < n
  · have e : Ph.soundErr l = 4 := by unfold Ph.soundErr; rw [if_pos (by omega)]
    rw [e, errV_ne (by omega)]
    clear hl h e
    go_enter Tryz.func88, Tryz.ntmps88
    go_wp2
    go_ret
    exact ⟨rfl, Below.refl _ _⟩
  · cases ha : Ph.allIn l 1000
    · have e : Ph.soundErr l = 1 := by unfold Ph.soundErr; rw [if_neg (by omega), if_neg (by simp [ha])]
      rw [e, errV_ne (by omega)]
      clear hl e
      have H := Lib.hid h
      clear h
      go_enter Tryz.func88, Tryz.ntmps88
      go_wp2_with (go_at_call 86; refine (all_any A n c l _ B H.out hB 1000 hn (by omega)).mono ?_; rintro e w1 ⟨rfl, hb1⟩)
      go_ret
      exact ⟨rfl, hb1⟩
    · have e : Ph.soundErr l = 0 := by unfold Ph.soundErr; rw [if_neg (by omega), if_pos ha]
      rw [e, errV_zero]
      clear hl e
      have H := Lib.hid h
      clear h
      go_enter Tryz.func88, Tryz.ntmps88
      go_wp2_with (go_at_call 86; refine (all_any A n c l _ B H.out hB 1000 hn (by omega)).mono ?_; rintro e w1 ⟨rfl, hb1⟩)
      go_ret
      exact ⟨rfl, hb1⟩
/-! ### Two. -/
/-- Two lists of one length: are they the same? -/
def sameI (a b : List Int) : Bool := decide (a = b)
theorem sameI_true {a b : List Int} : sameI a b = true ↔ a = b := by unfold sameI; simp
end Go.Proofs.YtjdpgakkphdjlaaGreatDoor
/- Walks: samples, of two (chapter 1). -/
namespace Go.Proofs.YtjdpgakkphdjlaaGreatDoor
open Go.RowKit
theorem clip_walk (x : Int) : (if -1000 < (if x < 1000 then x else 1000) then (if x < 1000 then x else 1000) else -1000) = Ph.clip x := by
  unfold Ph.clip; repeat' split
  all_goals omega
theorem make_ints (n : Nat) (hn : n ≤ 17592186044416) (W : World) : (Instr.makeSlice 49 (.int .i64 (n : Int)) (.int .i64 (n : Int))).run Tryz.prog W = .ok (.slice (some ⟨W.heap.size, 0, none⟩) n n) (W.alloc (.cells (madeCells #[.int .i64 0] n) 3)) := by
  obtain ⟨i0, hi, hz0, hz1, hz2⟩ := info_parts int_info
  have hr := run_make (P := Tryz.prog) W 49 3 i0 (.int .i64 0) Tryz.underlying49 hi hz0 .i64 .i64 n n (by omega) (Int.le_refl _) (by rw [hz2]; omega) (by omega)
  rw [hz1, Nat.mul_one] at hr
  simpa [Value.cells] using hr
/-- A fresh slice of numbers is told, and no error. -/
def FreshI (T : Nat) (l : List Int) (w : World) (e : Ending) (w' : World) : Prop :=
  ∃ A c, e = .returned (.tuple #[.slice A l.length c, .nilIface]) ∧ w'.ownsRow w.heap.size T 1 (.slice A l.length c) l.length (ivals l) ∧ Below w.heap.size w w'
end Go.Proofs.YtjdpgakkphdjlaaGreatDoor
/- What a call tells: a list of numbers of its own; such a list, and what is wrong. -/
namespace Go.Proofs.YtjdpgakkphdjlaaGreatDoor
open Go.RowKit

/-- A row of the call's own is told. -/
def OwnI (T : Nat) (l : List Int) (w : World) (e : Ending) (w' : World) : Prop :=
  ∃ A c, e = .returned (.slice A l.length c) ∧ w'.ownsRow w.heap.size T 1 (.slice A l.length c) l.length (ivals l) ∧ Below w.heap.size w w'
/-- A list of numbers is told, and what is wrong. -/
def ToldL (T : Nat) (E : Int) (l : List Int) (w : World) (e : Ending) (w' : World) : Prop :=
  ∃ A c, e = .returned (.tuple #[.slice A l.length c, errV E]) ∧ w'.ownsRow w.heap.size T 1 (.slice A l.length c) l.length (ivals l) ∧ Below w.heap.size w w'
/-- What is told, if nothing is wrong. -/
def got (E : Int) (l : List Int) : List Int := if E = 0 then l else []
theorem got_zero (l : List Int) : got 0 l = l := if_pos rfl
theorem got_ne {E : Int} (h : E ≠ 0) (l : List Int) : got E l = [] := if_neg h
theorem ToldL.none (T : Nat) (E : Int) (v : Value) (hv : v = errV E) {w w' : World} (hb : Below w.heap.size w w') : ToldL T E [] w (.returned (.tuple #[.slice none 0 0, v])) w' :=
  ⟨Option.none, 0, by rw [hv]; rfl, own_nil _ _ _, hb⟩
end Go.Proofs.YtjdpgakkphdjlaaGreatDoor
