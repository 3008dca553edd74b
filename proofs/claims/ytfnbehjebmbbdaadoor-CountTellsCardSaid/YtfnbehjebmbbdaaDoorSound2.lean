/- Walks: samples, of two (chapter 1). -/
import Derived.Test.YtfnbehjebmbbdaaDoorSound
namespace Go.Proofs.YtfnbehjebmbbdaaDoor
open Go.RowKit

theorem apart_any (A1 A2 : Option Addr) (n1 c1 n2 c2 : Nat) (a b : List Int) (w : World) (B : Nat) (h1 : RdI w B A1 n1 a) (h2 : RdI w B A2 n2 b) (hB : B ≤ w.heap.size) (hn1 : n1 ≤ 100000000000000) (hn2 : n2 ≤ 100000000000000) :
    Calls Tryd.prog 45 #[.slice A1 n1 c1, .slice A2 n2 c2] w fun e w' => e = .returned (.tuple #[.int .i64 (if Ph.twoErr a b = 0 then Ph.apart a b else 0), errV (Ph.twoErr a b)]) ∧ Below w.heap.size w w' := by
  by_cases h0 : Ph.twoErr a b = 0
  · rw [h0, if_pos rfl, errV_zero]
    have he := errV_of h0
    have hs := Ph.twoErr_zero.1 h0
    have hs1 := Ph.soundErr_zero.1 hs.1
    have hs2 := Ph.soundErr_zero.1 hs.2.1
    have HL1 := Lib.hid h1.len
    have HL2 := Lib.hid h2.len
    have HA1 := Lib.hid hs1.2
    have HA2 := Lib.hid hs2.2
    have hn32 : n1 ≤ 32 := by have := h1.len; omega
    obtain rfl : n1 = n2 := by have := h1.len; have := h2.len; omega
    have H1 := Lib.hid h1
    have H2 := Lib.hid h2
    clear h1 h2 h0 hs hs1 hs2
    go_enter Tryd.func45, Tryd.ntmps45
    go_wp2_with (go_at_call 77; refine (two_any A1 A2 n1 c1 n1 c2 a b _ B H1.out H2.out hB hn1 hn1).mono ?_; rintro e w1 ⟨rfl, hb1⟩)
    clear he
    have H1' := Lib.hid (H1.out.below (hb1.mono hB))
    have H2' := Lib.hid (H2.out.below (hb1.mono hB))
    go_loop [7, 18] (fun s i => ∃ k : Nat, k ≤ n1 ∧ i = .int .i64 k ∧ s = .int .i64 (Ph.apart (a.take k) (b.take k))) (fun _ i => n1 - (intOf i).toNat)
    case atStart => exact ⟨0, Nat.zero_le _, rfl, rfl⟩
    case round =>
      obtain ⟨k, hk, rfl, rfl⟩ := hrel
      by_cases hlt : k < n1
      · obtain ⟨p1, o1, rfl, _, hc1⟩ := H1'.out.at_ hlt
        obtain ⟨p2, o2, rfl, _, hc2⟩ := H2'.out.at_ hlt
        have b1 := Ph.allIn_getD HA1.out (by omega) k
        have b2 := Ph.allIn_getD HA2.out (by omega) k
        have HT := Lib.hid (Ph.apart_take a b k (by rw [HL1.out]; exact hlt) (by rw [HL2.out]; exact hlt))
        simp only [List.getD_eq_getElem?_getD] at b1 b2
        go_wp2_with (go_at_call 78; refine (far_any _ _ (by omega)).mono ?_; rintro e w' ⟨rfl, rfl⟩)
        go_round
        case rel => exact ⟨k + 1, by omega, by go_num, by rw [HT.out, List.getD_eq_getElem?_getD, List.getD_eq_getElem?_getD]⟩
        case measure => simp [intOf]; omega
      · go_wp2
        go_ret2
        have hall1 : a.take k = a := List.take_of_length_le (by rw [HL1.out]; omega)
        have hall2 : b.take k = b := List.take_of_length_le (by rw [HL2.out]; omega)
        exact ⟨ret_two (congrArg (Value.int .i64) (by rw [hall1, hall2])) rfl, hb1⟩
  · rw [if_neg h0]
    have he := errV_ne h0
    have H1 := Lib.hid h1
    have H2 := Lib.hid h2
    clear h1 h2 h0
    go_enter Tryd.func45, Tryd.ntmps45
    go_wp2_with (go_at_call 77; refine (two_any A1 A2 n1 c1 n2 c2 a b _ B H1.out H2.out hB hn1 hn2).mono ?_; rintro e w1 ⟨rfl, hb1⟩)
    go_ret2
    exact ⟨ret_two rfl he.symm, hb1⟩
theorem clip_walk (x : Int) : (if -1000 < (if x < 1000 then x else 1000) then (if x < 1000 then x else 1000) else -1000) = Ph.clip x := by
  unfold Ph.clip; repeat' split
  all_goals omega
theorem make_ints (n : Nat) (hn : n ≤ 17592186044416) (W : World) : (Instr.makeSlice 31 (.int .i64 (n : Int)) (.int .i64 (n : Int))).run Tryd.prog W = .ok (.slice (some ⟨W.heap.size, 0, none⟩) n n) (W.alloc (.cells (madeCells #[.int .i64 0] n) 3)) := by
  obtain ⟨i0, hi, hz0, hz1, hz2⟩ := info_parts int_info
  have hr := run_make (P := Tryd.prog) W 31 3 i0 (.int .i64 0) Tryd.underlying31 hi hz0 .i64 .i64 n n (by omega) (Int.le_refl _) (by rw [hz2]; omega) (by omega)
  rw [hz1, Nat.mul_one] at hr
  simpa [Value.cells] using hr
/-- A fresh slice of numbers is told, and no error. -/
def FreshI (T : Nat) (l : List Int) (w : World) (e : Ending) (w' : World) : Prop :=
  ∃ A c, e = .returned (.tuple #[.slice A l.length c, .nilIface]) ∧ w'.ownsRow w.heap.size T 1 (.slice A l.length c) l.length (ivals l) ∧ Below w.heap.size w w'
theorem mix_ok (A1 A2 : Option Addr) (n1 c1 n2 c2 : Nat) (a b : List Int) (w : World) (B : Nat) (h1 : RdI w B A1 n1 a) (h2 : RdI w B A2 n2 b) (hB : B ≤ w.heap.size) (hn1 : n1 ≤ 100000000000000) (h0 : Ph.twoErr a b = 0) :
    Calls Tryd.prog 46 #[.slice A1 n1 c1, .slice A2 n2 c2] w (FreshI 3 (Ph.mix a b) w) := by
  have he := errV_of h0
  have hs := Ph.twoErr_zero.1 h0
  have hs1 := Ph.soundErr_zero.1 hs.1
  have hs2 := Ph.soundErr_zero.1 hs.2.1
  have HL1 := Lib.hid h1.len
  have HL2 := Lib.hid h2.len
  have HA1 := Lib.hid hs1.2
  have HA2 := Lib.hid hs2.2
  have hn32 : n1 ≤ 32 := by have := h1.len; omega
  obtain rfl : n1 = n2 := by have := h1.len; have := h2.len; omega
  have H1 := Lib.hid h1
  have H2 := Lib.hid h2
  clear h1 h2 h0 hs hs1 hs2
  have hmk := make_ints n1 (by omega)
  go_enter Tryd.func46, Tryd.ntmps46
  go_wp2_with (go_at_call 77; refine (two_any A1 A2 n1 c1 n1 c2 a b _ B H1.out H2.out hB hn1 hn1).mono ?_; rintro e w1 ⟨rfl, hb1⟩)
  clear he hmk
  have hsz := hb1.size
  have H1' := Lib.hid ((H1.out.below (hb1.mono hB)).more (B' := w1.heap.size) (by omega))
  have H2' := Lib.hid ((H2.out.below (hb1.mono hB)).more (B' := w1.heap.size) (by omega))
  have hrow : (w1.alloc (.cells (madeCells #[.int .i64 0] n1) 3)).ownsRow w1.heap.size 3 1 (.slice (some ⟨w1.heap.size, 0, none⟩) n1 n1) n1 (ivals (List.replicate n1 0)) := by
    have := World.ownsRow_lit (base := w1.heap.size) (e := 3) (size := 1) w1 (madeCells #[.int .i64 0] n1) n1 (Nat.le_refl _) (by unfold maxLen; omega) (by rw [size_madeCells, Nat.mul_one])
    rw [toList_madeCells_one] at this
    rw [show ivals (List.replicate n1 0) = List.replicate n1 (.int .i64 0) by simp [ivals]]
    exact this
  have HR := Lib.hid hrow
  clear hrow
  go_loopw [21] (fun i wr => ∃ k : Nat, k ≤ n1 ∧ i = .int .i64 k ∧ wr.ownsRow w1.heap.size 3 1 (.slice (some ⟨w1.heap.size, 0, none⟩) n1 n1) n1 (ivals (Ph.mix (a.take k) (b.take k) ++ List.replicate (n1 - k) 0)) ∧ Below w1.heap.size w1 wr) (fun i _ => n1 - (intOf i).toNat)
  case atStart => exact ⟨0, Nat.zero_le _, rfl, HR.out, (Below.refl _ _).alloc (Nat.le_refl _) _⟩
  case round =>
    obtain ⟨k, hk, rfl, hown, hbw⟩ := hrel
    by_cases hlt : k < n1
    · obtain ⟨p1, o1, rfl, _, hc1⟩ := (H1'.out.below hbw).at_ hlt
      obtain ⟨p2, o2, rfl, _, hc2⟩ := (H2'.out.below hbw).at_ hlt
      have b1 := Ph.allIn_getD HA1.out (by omega) k
      have b2 := Ph.allIn_getD HA2.out (by omega) k
      have HT := Lib.hid (Ph.mix_take a b k (by rw [HL1.out]; exact hlt) (by rw [HL2.out]; exact hlt))
      have HO := Lib.hid hown
      have hf := hown.frozenAt k
      have hlen : (Ph.mix (a.take k) (b.take k)).length = k := by
        rw [Ph.mix_length (by rw [List.length_take, List.length_take, HL1.out, HL2.out]), List.length_take, HL1.out]; omega
      have HLn := Lib.hid hlen
      have hc3 : wr.cell? ⟨w1.heap.size, k, none⟩ = some (.int .i64 0) := by
        rw [hown.cellAt k (by omega), ivals_get (by rw [List.length_append, hlen, List.length_replicate]; omega), Ph.getD_right _ _ _ (by omega), hlen, Nat.sub_self, List.getD_eq_getElem?_getD, List.getElem?_replicate]
        rw [if_pos (by omega)]; rfl
      clear hlen hown
      simp only [List.getD_eq_getElem?_getD] at b1 b2
      go_wp2
      have HS := (HO.out.stored k (.int .i64 (Ph.clip (a[k]?.getD 0 + b[k]?.getD 0)))).1
      rw [ivals_set] at HS
      have e1 := Ph.set_fill (Ph.mix (a.take k) (b.take k)) n1 (Ph.clip (a[k]?.getD 0 + b[k]?.getD 0)) (by rw [HLn.out]; exact hlt)
      rw [HLn.out] at e1
      rw [e1] at HS
      go_roundw
      case rel =>
        refine ⟨k + 1, by omega, by go_num, ?_, hbw.setCell (p := ⟨w1.heap.size, k, none⟩) (Nat.le_refl _) _⟩
        rw [HT.out, List.getD_eq_getElem?_getD, List.getD_eq_getElem?_getD, clip_walk]
        exact HS
      case measure => simp [intOf]; omega
    · go_wp2
      go_ret2
      obtain rfl : k = n1 := by omega
      have hall1 : a.take k = a := List.take_of_length_le (by rw [HL1.out]; omega)
      have hall2 : b.take k = b := List.take_of_length_le (by rw [HL2.out]; omega)
      have hlen : (Ph.mix a b).length = k := by rw [Ph.mix_length (by rw [HL1.out, HL2.out]), HL1.out]
      rw [hall1, hall2, Nat.sub_self, List.replicate_zero, List.append_nil] at hown
      refine ⟨some ⟨w1.heap.size, 0, none⟩, k, ret_two (congrArg (fun q => Value.slice (some ⟨w1.heap.size, 0, none⟩) q k) hlen.symm) rfl, ?_, hb1.trans (hbw.mono hsz)⟩
      rw [hlen]
      exact own_more hown hsz
theorem mix_no (A1 A2 : Option Addr) (n1 c1 n2 c2 : Nat) (a b : List Int) (w : World) (B : Nat) (h1 : RdI w B A1 n1 a) (h2 : RdI w B A2 n2 b) (hB : B ≤ w.heap.size) (hn1 : n1 ≤ 100000000000000) (hn2 : n2 ≤ 100000000000000) (h0 : Ph.twoErr a b ≠ 0) :
    Calls Tryd.prog 46 #[.slice A1 n1 c1, .slice A2 n2 c2] w fun e w' => e = .returned (.tuple #[.slice none 0 0, errV (Ph.twoErr a b)]) ∧ Below w.heap.size w w' := by
  have he := errV_ne h0
  have H1 := Lib.hid h1
  have H2 := Lib.hid h2
  clear h1 h2 h0
  go_enter Tryd.func46, Tryd.ntmps46
  go_wp2_with (go_at_call 77; refine (two_any A1 A2 n1 c1 n2 c2 a b _ B H1.out H2.out hB hn1 hn2).mono ?_; rintro e w1 ⟨rfl, hb1⟩)
  go_ret2
  exact ⟨ret_two rfl he.symm, hb1⟩
end Go.Proofs.YtfnbehjebmbbdaaDoor
