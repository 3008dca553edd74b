/- The walk of the statement 'RunBegins'. -/
import Derived.Test.YtjdpgakkphdjlaaGreatDoorRunR
namespace Go.Proofs.YtjdpgakkphdjlaaGreatDoor
open Go.RowKit

/-- The answers to a beginning, and to the whole text. -/
theorem begins_ext (s : ByteArray) (q : Nat) (hq : q ≤ s.size) (h3 : s.size ≤ 3000) (hp : q = 0 ∨ q = s.size ∨ s.data.toList.getD (q - 1) 0 = 10) :
    ∃ A B : ByteArray, A = strL (Pr.runL (s.extract 0 q).data.toList) ∧ B = strL (Pr.runL s.data.toList) ∧ A.size ≤ B.size ∧ B.extract 0 A.size = A := by
  have hl : s.data.toList.length = s.size := (Lib.size_eq s).symm
  have hx : (s.extract 0 q).data.toList = s.data.toList.take q := by
    rw [ByteArray.data_extract, Array.toList_extract]
    simp
  obtain ⟨t, ht⟩ : ∃ t, t = s.data.toList := ⟨_, rfl⟩
  rw [← ht] at hl hx hp
  rw [hx, ← ht]
  refine ⟨_, _, rfl, rfl, ?_⟩
  have hr : ∃ r, Pr.runL t = Pr.runL (t.take q) ++ r := by
    by_cases hqs : q = s.size
    · exact ⟨[], by rw [List.take_of_length_le (by omega), List.append_nil]⟩
    · have h := Pr.run_begins (t.take q) (t.drop q) (by rw [List.take_append_drop]; omega) (by
        rcases Nat.eq_zero_or_pos q with h0 | h0
        · left; rw [h0]; rfl
        · right
          have hp2 : t.getD (q - 1) 0 = 10 := by
            rcases hp with h | h | h
            · omega
            · exact absurd h hqs
            · exact h
          rw [List.getLast?_eq_getElem?, List.length_take, List.getElem?_take_of_lt (by omega), show min q t.length - 1 = q - 1 by omega, List.getElem?_eq_getElem (by omega)]
          rw [List.getD_eq_getElem?_getD, List.getElem?_eq_getElem (by omega)] at hp2
          simpa using hp2)
      rwa [List.take_append_drop] at h
  obtain ⟨r, hr⟩ := hr
  rw [hr, strL_size, strL_size]
  refine ⟨by simp, ?_⟩
  apply ByteArray.ext
  rw [ByteArray.data_extract]
  apply Array.ext'
  rw [Array.toList_extract]
  simp [strL]
theorem begins_fact : strL (Pr.runL (⟨#[99, 111, 117, 110, 116, 32, 51, 32, 50, 10, 116, 117, 114, 110, 32, 55, 48, 10, 102, 108, 121, 10, 114, 97, 110, 107, 32, 48, 32, 45, 49, 10, 109, 97, 121, 10, 110, 101, 97, 114, 32, 52, 32, 53, 32, 45, 51, 32, 49, 10]⟩ : ByteArray).data.toList) = ⟨#[49, 56, 10, 51, 48, 10, 98, 97, 100, 10, 49, 10, 53, 48, 10, 50, 32, 45, 49, 32, 49, 10]⟩ := by
  rw [show (⟨#[99, 111, 117, 110, 116, 32, 51, 32, 50, 10, 116, 117, 114, 110, 32, 55, 48, 10, 102, 108, 121, 10, 114, 97, 110, 107, 32, 48, 32, 45, 49, 10, 109, 97, 121, 10, 110, 101, 97, 114, 32, 52, 32, 53, 32, 45, 51, 32, 49, 10]⟩ : ByteArray).data.toList = [99, 111, 117, 110, 116, 32, 51, 32, 50, 10, 116, 117, 114, 110, 32, 55, 48, 10, 102, 108, 121, 10, 114, 97, 110, 107, 32, 48, 32, 45, 49, 10, 109, 97, 121, 10, 110, 101, 97, 114, 32, 52, 32, 53, 32, 45, 51, 32, 49, 10] from rfl, Pr.run_fact]
  rfl
set_option maxHeartbeats 4000000 in
set_option maxRecDepth 100000 in
theorem runBegins_walk (w : World) (s : ByteArray) (hs : s.size ≤ 140737488351232) (many : Int) (hg : RunG w) :
    Calls Tryz.prog 4 #[.string s, .int .i64 many] w fun e w' => e = .returned (.bool true) ∧ Below w.heap.size w w' := by
  have HR := Lib.hid fun (s : ByteArray) W hW => run_any s W hW
  have HF : Hid (Calls Tryz.prog 6 #[.string ⟨#[99, 111, 117, 110, 116, 32, 51, 32, 50, 10, 116, 117, 114, 110, 32, 55, 48, 10, 102, 108, 121, 10, 114, 97, 110, 107, 32, 48, 32, 45, 49, 10, 109, 97, 121, 10, 110, 101, 97, 114, 32, 52, 32, 53, 32, 45, 51, 32, 49, 10]⟩] w fun e w' => e = .returned (.string ⟨#[49, 56, 10, 51, 48, 10, 98, 97, 100, 10, 49, 10, 53, 48, 10, 50, 32, 45, 49, 32, 49, 10]⟩) ∧ Below w.heap.size w w') := Lib.hid (by
    have h := run_any ⟨#[99, 111, 117, 110, 116, 32, 51, 32, 50, 10, 116, 117, 114, 110, 32, 55, 48, 10, 102, 108, 121, 10, 114, 97, 110, 107, 32, 48, 32, 45, 49, 10, 109, 97, 121, 10, 110, 101, 97, 114, 32, 52, 32, 53, 32, 45, 51, 32, 49, 10]⟩ w hg
    rwa [begins_fact] at h)
  have HG := Lib.hid hg
  by_cases h3 : 3000 < s.size
  · have HL : Hid (∀ W, RunG W → Calls Tryz.prog 6 #[.string s] W fun e w' => e = .returned (.string ⟨#[116, 111, 111, 32, 108, 111, 110, 103, 10]⟩) ∧ Below W.heap.size W w') := Lib.hid fun W hW => by
      have h := run_any s W hW
      rwa [show strL (Pr.runL s.data.toList) = ⟨#[116, 111, 111, 32, 108, 111, 110, 103, 10]⟩ from by unfold Pr.runL; rw [if_pos (by rw [← Lib.size_eq]; exact h3)]; rfl] at h
    have h3' : (3000 : Int) < (s.size : Int) := by omega
    clear hg HR h3
    go_enter Tryz.func4, Tryz.ntmps4
    go_wp2_with fail
    refine HF.out.mono ?_
    rintro e w1 ⟨rfl, hb1⟩
    have HB1 := Lib.hid hb1
    have HG1 := Lib.hid (HG.out.below hb1)
    clear hb1 HF
    go_wp2_with fail
    refine (HL.out _ HG1.out).mono ?_
    rintro e w2 ⟨rfl, hb2⟩
    have HB2 := Lib.hid (below_on HB1.out hb2)
    clear hb2 HL
    go_wp2_with fail
    go_ret
    exact ⟨rfl, HB2.out⟩
  · have h3' : ¬ (3000 : Int) < (s.size : Int) := by omega
    have h3n : s.size ≤ 3000 := by omega
    have HE : Hid (∀ q, q ≤ s.size → (q = 0 ∨ q = s.size ∨ s.data.toList.getD (q - 1) 0 = 10) → ∃ A B : ByteArray, (∀ W, RunG W → Calls Tryz.prog 6 #[.string (s.extract 0 q)] W fun e w' => e = .returned (.string A) ∧ Below W.heap.size W w') ∧ (∀ W, RunG W → Calls Tryz.prog 6 #[.string s] W fun e w' => e = .returned (.string B) ∧ Below W.heap.size W w') ∧ A.size ≤ B.size ∧ B.extract 0 A.size = A) := Lib.hid fun q hq hp => by
      obtain ⟨A, B, hA, hB, h1, h2⟩ := begins_ext s q hq h3n hp
      exact ⟨A, B, fun W hW => by rw [hA]; exact run_any _ W hW, fun W hW => by rw [hB]; exact run_any _ W hW, h1, h2⟩
    clear hg HR h3 hs
    go_enter Tryz.func4, Tryz.ntmps4
    go_wp2_with fail
    refine HF.out.mono ?_
    rintro e w1 ⟨rfl, hb1⟩
    have HB1 := Lib.hid hb1
    have HG1 := Lib.hid (HG.out.below hb1)
    clear hb1 HF
    go_wp2_with fail
    go_loopw [7, 8] (fun k n wr => ∃ q c : Nat, k = .int .i64 q ∧ n = .int .i64 c ∧ q ≤ s.size ∧ c ≤ q ∧ Hid (q = 0 ∨ (c : Int) < many ∨ s.data.toList.getD (q - 1) 0 = 10) ∧ wr = w1)
      (fun k _ _ => s.size - (intOf k).toNat)
    case atStart => exact ⟨0, 0, rfl, rfl, Nat.zero_le _, Nat.le_refl _, Lib.hid (.inl rfl), rfl⟩
    case round =>
      obtain ⟨q, c, rfl, rfl, hq, hc, HP, rfl⟩ := hrel
      by_cases hlt : q < s.size
      · have hlt' : (q : Int) < (s.size : Int) := by omega
        by_cases hm : (c : Int) < many
        · have w1 : IntKind.i64.wrap ((c : Int) + 1) = (c : Int) + 1 := IntWalk.i64_in _ (by omega)
          have w2 : IntKind.i64.wrap ((q : Int) + 1) = (q : Int) + 1 := IntWalk.i64_in _ (by omega)
          have hX : (s[q]'hlt) = s.data.toList.getD q 0 := by
            rw [List.getD_eq_getElem?_getD, List.getElem?_eq_getElem (by rw [← Lib.size_eq]; exact hlt)]
            rfl
          have hn : (0 : Int) ≤ (q : Int) := by omega
          by_cases h10 : s.data.toList.getD q 0 = 10
          · have hx : (s[q]'hlt).toNat = 10 := by rw [hX, h10]; rfl
            have HT := Lib.hid h10
            clear hX h10
            go_wp2_with fail
            go_roundw
            case rel => exact ⟨q + 1, c + 1, by go_num, by go_num, hlt, by omega, Lib.hid (.inr (.inr HT.out)), trivial⟩
            case measure => simp [intOf]; omega
          · have hx : ¬ (s[q]'hlt).toNat = 10 := by
              rw [hX]
              intro e
              exact h10 (UInt8.toNat_inj.1 e)
            have hx2 : ¬ ((s[q]'hlt).toNat : Int) = 10 := by omega
            clear hX h10
            go_wp2_with fail
            go_roundw
            case rel => exact ⟨q + 1, c, by go_num, rfl, hlt, by omega, Lib.hid (.inr (.inl hm)), trivial⟩
            case measure => simp [intOf]; omega
        · obtain ⟨A, B, hA, hB, hle, hx⟩ := HE.out q hq (by
            rcases HP.out with h | h | h
            · exact .inl h
            · exact absurd h hm
            · exact .inr (.inr h))
          have HA := Lib.hid hA
          have HB := Lib.hid hB
          have hse : ((B.extract 0 A.size).toList == A.toList) = true := str_eq hx
          have hle' : (A.size : Int) ≤ (B.size : Int) := by omega
          have hq' : (q : Int) ≤ (s.size : Int) := by omega
          have hq0 : (0 : Int) ≤ (q : Int) := by omega
          have hA0 : (0 : Int) ≤ (A.size : Int) := by omega
          clear hA hB hx HE HP hc
          go_wp2_with fail
          refine (HA.out _ HG1.out).mono ?_
          rintro e w2 ⟨rfl, hb2⟩
          have HG2 := Lib.hid (HG1.out.below hb2)
          have HB2 := Lib.hid (below_on HB1.out hb2)
          clear hb2 HA
          go_wp2_with fail
          refine (HB.out _ HG2.out).mono ?_
          rintro e w3 ⟨rfl, hb3⟩
          have HB3 := Lib.hid (below_on HB2.out hb3)
          clear hb3 HB
          go_wp2_with fail
          go_ret
          exact ⟨rfl, HB3.out⟩
      · have hlt' : ¬ (q : Int) < (s.size : Int) := by omega
        obtain ⟨A, B, hA, hB, hle, hx⟩ := HE.out q hq (.inr (.inl (by omega)))
        have HA := Lib.hid hA
        have HB := Lib.hid hB
        have hse : ((B.extract 0 A.size).toList == A.toList) = true := str_eq hx
        have hle' : (A.size : Int) ≤ (B.size : Int) := by omega
        have hq' : (q : Int) ≤ (s.size : Int) := by omega
        have hq0 : (0 : Int) ≤ (q : Int) := by omega
        have hA0 : (0 : Int) ≤ (A.size : Int) := by omega
        clear hA hB hx HE HP hc hlt
        go_wp2_with fail
        refine (HA.out _ HG1.out).mono ?_
        rintro e w2 ⟨rfl, hb2⟩
        have HG2 := Lib.hid (HG1.out.below hb2)
        have HB2 := Lib.hid (below_on HB1.out hb2)
        clear hb2 HA
        go_wp2_with fail
        refine (HB.out _ HG2.out).mono ?_
        rintro e w3 ⟨rfl, hb3⟩
        have HB3 := Lib.hid (below_on HB2.out hb3)
        clear hb3 HB
        go_wp2_with fail
        go_ret
        exact ⟨rfl, HB3.out⟩
end Go.Proofs.YtjdpgakkphdjlaaGreatDoor
