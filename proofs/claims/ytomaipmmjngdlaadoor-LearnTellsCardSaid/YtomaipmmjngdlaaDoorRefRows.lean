/- The document's answers, walked (chapter 12): the fault of rows. -/
import Derived.Test.YtomaipmmjngdlaaDoorLearn2
import Derived.Test.YtomaipmmjngdlaaDoorSRows
namespace Go.Proofs.YtomaipmmjngdlaaDoor
open Go.RowKit

/-- A sign that may not be, of so many. -/
def badSign (m x : Int) : Bool := decide (x < 0) || decide (m ≤ x)
def rowsE (m : Int) : List (List Int) → Int
  | [] => 0
  | r :: ls => if 60 < r.length then 4 else if r.any (badSign m) = true then 1 else rowsE m ls
/-- What is wrong with rows, of so many signs. -/
def rowsErr (ls : List (List Int)) (m : Int) : Int := if m < 1 ∨ 40 < m then 1 else if 60 < ls.length then 4 else rowsE m ls
theorem rowsE_drop {m : Int} {ls : List (List Int)} {k : Nat} (hk : k < ls.length) : rowsE m (ls.drop k) = if 60 < (ls.getD k []).length then 4 else if (ls.getD k []).any (badSign m) = true then 1 else rowsE m (ls.drop (k + 1)) := by
  have e : ls.drop k = ls.getD k [] :: ls.drop (k + 1) := by
    rw [List.getD_eq_getElem?_getD, List.getElem?_eq_getElem hk]; exact List.drop_eq_getElem_cons hk
  rw [e, rowsE]
set_option maxHeartbeats 1000000 in
theorem rrows_any (A : Option Addr) (n c : Nat) (ls : List (List Int)) (m : Int) (w : World) (B : Nat) (h : RdR w B A n ls) :
    Calls Tryd.prog 27 #[.slice A n c, .int .i64 m] w fun e w' => e = .returned (.int .i64 (rowsErr ls m)) ∧ w = w' := by
  have hl := h.len
  have H := Lib.hid h
  by_cases hm : m < 1 ∨ 40 < m
  · have e : rowsErr ls m = 1 := if_pos hm
    have hc : m < 1 ∨ (¬ m < 1 ∧ 40 < m) := by omega
    rw [e]
    clear h hl e hm
    rcases hc with h1 | ⟨h1, h2⟩
    all_goals
      go_enter Tryd.func27, Tryd.ntmps27
      go_wp2_with fail
      go_ret
      exact ⟨rfl, rfl⟩
  · have h1 : ¬ m < 1 := by omega
    have h2 : ¬ 40 < m := by omega
    by_cases h60 : 60 < n
    · have e : rowsErr ls m = 4 := by unfold rowsErr; rw [if_neg hm, if_pos (by omega)]
      rw [e]
      clear h hl e hm
      go_enter Tryd.func27, Tryd.ntmps27
      go_wp2_with fail
      go_ret
      exact ⟨rfl, rfl⟩
    · have HE : Hid (rowsErr ls m = rowsE m ls) := Lib.hid (by unfold rowsErr; rw [if_neg hm, if_neg (by omega)])
      obtain ⟨E, hE⟩ : ∃ E, E = rowsErr ls m := ⟨_, rfl⟩
      rw [← hE] at HE ⊢
      have HL := Lib.hid hl
      clear h hl hE hm
      go_enter Tryd.func27, Tryd.ntmps27
      go_wp2_with fail
      go_loop [5, 6] (fun i _ => ∃ k : Nat, k ≤ n ∧ i = .int .i64 k ∧ Hid (rowsE m (ls.drop k) = E)) (fun i _ => n - (intOf i).toNat)
      case atStart => exact ⟨0, Nat.zero_le _, rfl, Lib.hid (by rw [List.drop_zero]; exact HE.out.symm)⟩
      case round =>
        obtain ⟨k, hk, rfl, HK⟩ := hrel
        by_cases hlt : k < n
        · obtain ⟨b, off, A2, c2, rfl, _, hc, _, hr⟩ := H.out.at_ hlt
          have hst := rowsE_drop (m := m) (ls := ls) (k := k) (by rw [HL.out]; exact hlt)
          rw [HK.out] at hst
          obtain ⟨r, hrr⟩ : ∃ r, r = ls.getD k [] := ⟨_, rfl⟩
          rw [← hrr] at hc hr hst
          obtain ⟨q, hq⟩ : ∃ q, q = r.length := ⟨_, rfl⟩
          rw [← hq] at hc hr hst
          have HR := Lib.hid hr
          have HQ := Lib.hid hq
          have hlt' : (k : Int) < (n : Int) := by omega
          clear hrr hr hq
          by_cases hq60 : 60 < q
          · have HX : Hid (E = 4) := Lib.hid (by rw [hst, if_pos hq60])
            clear hst HK HE
            go_wp2_with fail
            go_ret
            exact ⟨ret_int (by rw [HX.out]), rfl⟩
          · rw [if_neg hq60] at hst
            have HS := Lib.hid hst
            clear hst
            go_wp2_with fail
            go_loop [6] (fun i => ∃ t : Nat, t ≤ q ∧ i = .int .i64 t ∧ Hid (∀ j, j < t → badSign m (r.getD j 0) = false)) (fun i => q - (intOf i).toNat)
            case atStart => exact ⟨0, Nat.zero_le _, rfl, Lib.hid fun j hj => absurd hj (by omega)⟩
            case round =>
              obtain ⟨t, ht, rfl, HJ⟩ := hrel
              by_cases htq : t < q
              · obtain ⟨b2, o2, rfl, _, hc2⟩ := HR.out.at_ htq
                have hbad : badSign m (r.getD t 0) = true → E = 1 := fun hb => by
                  rw [HS.out, if_pos (List.any_eq_true.2 ⟨_, Ph.getD_mem (by rw [← HQ.out]; exact htq), hb⟩)]
                have hext : badSign m (r.getD t 0) = false → ∀ j, j < t + 1 → badSign m (r.getD j 0) = false := fun hx j hj => by
                  by_cases e : j < t
                  · exact HJ.out j e
                  · obtain rfl : j = t := by omega
                    exact hx
                have HBD := Lib.hid hbad
                have HXT := Lib.hid hext
                obtain ⟨x, hx⟩ : ∃ x, x = r.getD t 0 := ⟨_, rfl⟩
                rw [← hx] at hc2 HBD HXT
                have htq' : (t : Int) < (q : Int) := by omega
                clear hx hbad hext
                by_cases hx0 : x < 0
                · have HX : Hid (E = 1) := Lib.hid (HBD.out (by unfold badSign; simp [hx0]))
                  go_wp2_with fail
                  go_ret
                  exact ⟨ret_int (by rw [HX.out]), rfl⟩
                · by_cases hxm : m ≤ x
                  · have HX : Hid (E = 1) := Lib.hid (HBD.out (by unfold badSign; simp [hxm]))
                    go_wp2_with fail
                    go_ret
                    exact ⟨ret_int (by rw [HX.out]), rfl⟩
                  · have HJ2 := Lib.hid (HXT.out (by unfold badSign; simp; omega))
                    go_wp2_with fail
                    go_round
                    case rel => exact ⟨t + 1, by omega, by go_num, HJ2⟩
                    case measure => simp [intOf]; omega
              · have HN : Hid (rowsE m (ls.drop (k + 1)) = E) := Lib.hid (by
                  rw [HS.out, if_neg]
                  rw [List.any_eq_true]
                  rintro ⟨y, hy, hb⟩
                  obtain ⟨i, hi, rfl⟩ := List.mem_iff_getElem.1 hy
                  have := HJ.out i (by have := HQ.out; omega)
                  rw [List.getD_eq_getElem?_getD, List.getElem?_eq_getElem hi] at this
                  simp only [Option.getD_some] at this
                  rw [this] at hb; cases hb)
                go_wp2_with fail
                go_round
                case rel => exact ⟨k + 1, by omega, by go_num, HN⟩
                case measure => simp [intOf]; omega
        · have HX : Hid (E = 0) := Lib.hid (by
            have := HK.out
            rw [List.drop_of_length_le (by rw [HL.out]; omega)] at this
            exact this.symm)
          clear HK HE
          go_wp2_with fail
          go_ret
          exact ⟨ret_int (by rw [HX.out]), rfl⟩
end Go.Proofs.YtomaipmmjngdlaaDoor
