/- Walks: slices joined (slices.Concat), and two lists of lists held against each other (hornsame.Lists). -/
import Derived.Test.YtbllboajhdmnhaaDoorSRows
import Derived.Test.YtbllboajhdmnhaaDoorTells
import Derived.Lib.AppendZeros
namespace Go.Proofs.YtbllboajhdmnhaaDoor
open Go.RowKit

theorem own_head {w : World} {base : Nat} {e : TypeId} {A : Option Addr} {n c : Nat} {xs : List Value} (h : w.ownsRow base e 1 (.slice A n c) n xs) : w.ownsRow base e 1 (.slice A 0 c) 0 [] := by
  refine ⟨rfl, ?_⟩
  rcases h.2 with ⟨h1, h2⟩ | ⟨g, cap, cur, h1, h2, h3, h4, h5, h6, h7⟩
  · injection h1 with e1 e2 e3
    subst e1
    subst e3
    exact .inl ⟨rfl, rfl⟩
  · injection h1 with e1 e2 e3
    exact .inr ⟨g, cap, cur, by rw [e1, e3], h2, h3, Nat.zero_le _, h5, h6, by simp⟩
set_option maxRecDepth 100000 in
theorem grow_any (n : Nat) (w : World) (hn : n ≤ 1000000) :
    Calls Tryd.prog 143 #[.slice none 0 0, .int .i64 n] w fun e w' => ∃ A c, e = .returned (.slice A 0 c) ∧ w'.ownsRow w.heap.size 3 1 (.slice A 0 c) 0 [] ∧ Below w.heap.size w w' := by
  obtain ⟨i0, hi, hz0, hz1, hz2⟩ := info_parts int_info
  rcases Nat.eq_zero_or_pos n with h0 | h0
  · subst h0
    go_enter Tryd.func143, Tryd.ntmps143
    go_wp2_with fail
    go_ret
    exact ⟨none, 0, rfl, own_nil _ _ _, Below.refl _ _⟩
  · have hr := Lib.run_append_nil_zeros (P := Tryd.prog) w 22 3 22 3 i0 (.int .i64 0) .i64 .i64 Tryd.underlying22 Tryd.underlying3 hi hz0 n h0 (by omega) (by omega) (by rw [hz2]; omega)
    have HR := Lib.hid hr
    have hge := grownCap_ge w n 0 3
    have hle := grownCap_le_maxLen w n 0 3 (by unfold maxLen; omega)
    obtain ⟨C, hC⟩ : ∃ C, C = grownCap w n 0 3 := ⟨_, rfl⟩
    rw [← hC] at hge hle HR
    have hsz : (Builtin.zeroCells (Value.int .i64 0).cells n ++ Builtin.zeroCells (Value.int .i64 0).cells (C - n)).size = C := by
      simp [Value.cells, Builtin.zeroCells]; omega
    obtain ⟨Z, hZ⟩ : ∃ Z, Z = Builtin.zeroCells (Value.int .i64 0).cells n ++ Builtin.zeroCells (Value.int .i64 0).cells (C - n) := ⟨_, rfl⟩
    rw [← hZ] at HR hsz
    have hown := World.ownsRow_lit (base := w.heap.size) (e := 3) (size := 1) w.drew Z C (Nat.le_refl _) hle (by rw [hsz, Nat.mul_one])
    have HO := Lib.hid (own_head hown)
    have hC0 : (0 : Int) ≤ (C : Int) := by omega
    have HM := Lib.hid hle
    clear hr hC hZ hown hsz hle
    go_enter Tryd.func143, Tryd.ntmps143
    go_wp2_with (at_builtin; refine Lib.wpList_append_run _ (by rfl) _ _ _ _ (by rfl) _ _ (by rfl) (by rfl) _ _ HR.out ?_)
    go_ret
    exact ⟨_, _, rfl, HO.out, below_same ((Below.refl _ _).alloc (Nat.le_refl _) _) rfl rfl rfl rfl⟩
theorem flat_take {ls : List (List Int)} {k : Nat} (h : k < ls.length) : (ls.take (k + 1)).flatten = (ls.take k).flatten ++ ls.getD k [] := by
  rw [List.take_succ_eq_append_getElem h, List.flatten_append, List.getD_eq_getElem?_getD, List.getElem?_eq_getElem h]
  simp
theorem flat_bd {ls : List (List Int)} {m : Nat} (h : ∀ l ∈ ls, l.length ≤ m) : ls.flatten.length ≤ ls.length * m := by
  induction ls with
  | nil => simp
  | cons l ls ih =>
    have h1 := ih fun x hx => h x (by simp [hx])
    have h2 := h l (by simp)
    rw [List.flatten_cons, List.length_append, List.length_cons, Nat.add_mul]
    omega
theorem mem_getD {ls : List (List Int)} {k : Nat} (h : k < ls.length) : ls.getD k [] ∈ ls := by
  rw [List.getD_eq_getElem?_getD, List.getElem?_eq_getElem h]; exact List.getElem_mem h
set_option maxRecDepth 100000 in
set_option maxHeartbeats 1000000 in
theorem concat_any (A : Option Addr) (n c : Nat) (ls : List (List Int)) (w : World) (B : Nat) (h : RdR w B A n ls) (hB : B ≤ w.heap.size) (hn : n ≤ 1000) (hl : ∀ l ∈ ls, l.length ≤ 1000) :
    Calls Tryd.prog 121 #[.slice A n c] w (OwnI 3 ls.flatten w) := by
  have HL := Lib.hid h.len
  have H := Lib.hid h
  have HX := Lib.hid hl
  have HS : Hid (∀ k, (ls.take k).flatten.length ≤ 1000000) := Lib.hid fun k => by
    have h1 := flat_bd (ls := ls.take k) (m := 1000) fun l hl1 => hl l (List.mem_of_mem_take hl1)
    have h2 : (ls.take k).length ≤ 1000 := by rw [List.length_take, h.len]; omega
    omega
  clear h hl
  go_enter Tryd.func121, Tryd.ntmps121
  go_wp2_with fail
  go_loop [3, 5, 11] (fun s _ i => ∃ k : Nat, k ≤ n ∧ i = .int .i64 k ∧ s = .int .i64 ((ls.take k).flatten.length : Nat)) (fun _ _ i => n - (intOf i).toNat)
  case atStart => exact ⟨0, Nat.zero_le _, rfl, rfl⟩
  case round =>
    obtain ⟨k, hk, rfl, rfl⟩ := hrel
    by_cases hlt : k < n
    · obtain ⟨b, off, A2, c2, rfl, _, hc, _, hr⟩ := H.out.at2 hlt
      have hkl : k < ls.length := by rw [HL.out]; exact hlt
      have h1 := HS.out k
      have h2 := HX.out _ (mem_getD hkl)
      have h3 : Hid ((ls.take (k + 1)).flatten.length = (ls.take k).flatten.length + (ls.getD k []).length) := Lib.hid (by rw [flat_take hkl, List.length_append])
      obtain ⟨X, hX⟩ : ∃ X, X = (ls.getD k []).length := ⟨_, rfl⟩
      obtain ⟨Y, hY⟩ : ∃ Y, Y = (ls.take k).flatten.length := ⟨_, rfl⟩
      rw [← hX] at hc h2 h3
      rw [← hY] at h1 h3 ⊢
      have h4 : ¬ (Y : Int) + (X : Int) < 0 := by omega
      clear hX hY hkl hr
      go_wp2_with fail
      go_round
      case rel => exact ⟨k + 1, by omega, by go_num, by rw [h3.out]; go_num⟩
      case measure => simp [intOf]; omega
    · obtain rfl : k = n := by omega
      have hall : ls.take k = ls := List.take_of_length_le (by rw [HL.out]; omega)
      have h1 := HS.out k
      rw [hall] at h1 ⊢
      have HG := Lib.hid fun W => grow_any ls.flatten.length W h1
      obtain ⟨Y, hY⟩ : ∃ Y, Y = ls.flatten.length := ⟨_, rfl⟩
      rw [← hY] at HG h1 ⊢
      clear hall hY
      go_wp2_with fail
      refine (HG.out _).mono ?_
      rintro e w1 ⟨A1, c1, rfl, ho1, hb1⟩
      have HO1 := Lib.hid ho1
      have HB1 := Lib.hid hb1
      clear ho1 hb1 HG
      go_wp2_with fail
      go_loopw [6, 8, 27] (fun v _ i wr => ∃ (q : Nat) (A6 : Option Addr) (c6 : Nat) (o : List Int), q ≤ k ∧ i = .int .i64 q ∧ v = .slice A6 o.length c6 ∧ wr.ownsRow w.heap.size 3 1 (.slice A6 o.length c6) o.length (ivals o) ∧ Hid (o = (ls.take q).flatten) ∧ Below w.heap.size w wr) (fun _ _ i _ => k - (intOf i).toNat)
      case atStart => exact ⟨0, A1, c1, [], Nat.zero_le _, rfl, rfl, HO1.out, Lib.hid rfl, HB1.out⟩
      case round =>
        obtain ⟨q, A6, c6, o, hq, rfl, rfl, hown, HE, hbw⟩ := hrel
        have HO := Lib.hid hown
        have HBW := Lib.hid hbw
        clear hown hbw HO1 HB1
        by_cases hlt2 : q < k
        · obtain ⟨b, off, A2, c2, rfl, _, hc, hnil, hr⟩ := (H.out.below (HBW.out.mono hB)).at2 hlt2
          have hkl : q < ls.length := by rw [HL.out]; exact hlt2
          have HR := Lib.hid hr
          have HN := Lib.hid hnil
          have hol : o.length ≤ 1000000 := by rw [HE.out]; exact HS.out q
          have h2 := HX.out _ (mem_getD hkl)
          have HE2 : Hid (o ++ ls.getD q [] = (ls.take (q + 1)).flatten) := Lib.hid (by rw [flat_take hkl, ← HE.out])
          obtain ⟨L, hL⟩ : ∃ L, L = ls.getD q [] := ⟨_, rfl⟩
          rw [← hL] at hc HR h2 HE2
          clear hL hr hkl hnil
          go_wp2_with (at_builtin; refine wpList_join _ (by rfl) _ _ (by rfl) w w.heap.size A6 o.length c6 _ A2 L.length c2 _ B HO.out HBW.out HBW.out.size HR.out HN.out (by omega) (by rfl) (by rfl) ?_; intro A9 c9 w9 ho9 hb9)
          have HO9 := Lib.hid ho9
          have HB9 := Lib.hid hb9
          clear ho9 hb9
          go_wp2_with fail
          go_roundw
          case rel =>
            refine ⟨q + 1, A9, c9, o ++ L, by omega, by go_num, by rw [List.length_append], ?_, HE2, HB9.out⟩
            rw [List.length_append]; exact HO9.out
          case measure => simp [intOf]; omega
        · obtain rfl : q = k := by omega
          have hall : o = ls.flatten := by rw [HE.out, List.take_of_length_le (by rw [HL.out]; omega)]
          have HALL := Lib.hid hall
          clear hall
          go_wp2_with fail
          go_ret
          exact ⟨A6, c6, by rw [← HALL.out]; rfl, by rw [← HALL.out]; exact HO.out, HBW.out⟩
/-- Two lists of lists: are they the same? -/
def sameR (a b : List (List Int)) : Bool := decide (a = b)
theorem sameR_true {a b : List (List Int)} : sameR a b = true ↔ a = b := by unfold sameR; simp
set_option maxHeartbeats 1000000 in
theorem lists_any (A1 A2 : Option Addr) (n1 c1 n2 c2 : Nat) (a b : List (List Int)) (w : World) (B1 B2 : Nat) (h1 : RdR w B1 A1 n1 a) (h2 : RdR w B2 A2 n2 b) (hB1 : B1 ≤ w.heap.size) (hB2 : B2 ≤ w.heap.size) (hn : n1 ≤ 100000000000000) (ha : ∀ l ∈ a, l.length ≤ 100000000000000) :
    Calls Tryd.prog 73 #[.slice A1 n1 c1, .slice A2 n2 c2] w fun e w' => e = .returned (.bool (sameR a b)) ∧ Below w.heap.size w w' := by
  have hl1 := h1.len
  have hl2 := h2.len
  by_cases hne : n1 = n2
  · subst hne
    have H1 := Lib.hid h1
    have H2 := Lib.hid h2
    have L1 := Lib.hid hl1
    have L2 := Lib.hid hl2
    have HA := Lib.hid ha
    have hb0 : ((n1 : Int) != (n1 : Int)) = false := by simp
    clear h1 h2 hl1 hl2 ha
    go_enter Tryd.func73, Tryd.ntmps73
    go_wp2_with fail
    go_loopw [5] (fun i wr => ∃ k : Nat, k ≤ n1 ∧ i = .int .i64 k ∧ Hid (∀ j, j < k → a.getD j [] = b.getD j []) ∧ Below w.heap.size w wr) (fun i _ => n1 - (intOf i).toNat)
    case atStart => exact ⟨0, Nat.zero_le _, rfl, Lib.hid fun j hj => absurd hj (by omega), Below.refl _ _⟩
    case round =>
      obtain ⟨k, hk, rfl, HE, hbw⟩ := hrel
      have HBW := Lib.hid hbw
      clear hbw
      by_cases hlt : k < n1
      · obtain ⟨b1, o1, X1, d1, rfl, hbb1, hc1, _, hr1⟩ := (H1.out.below (HBW.out.mono hB1)).at_ hlt
        obtain ⟨b2, o2, X2, d2, rfl, hbb2, hc2, _, hr2⟩ := (H2.out.below (HBW.out.mono hB2)).at_ hlt
        have hla := HA.out _ (mem_getD (ls := a) (k := k) (by rw [L1.out]; exact hlt))
        have HI : Hid (∀ W, Below wr.heap.size wr W → Calls Tryd.prog 23 #[.slice X1 (a.getD k []).length d1, .slice X2 (b.getD k []).length d2] W fun e w' => e = .returned (.bool (sameI (a.getD k []) (b.getD k []))) ∧ Below W.heap.size W w') := Lib.hid fun W hW =>
          ints_any X1 X2 _ d1 _ d2 _ _ W B1 B2 (hr1.below (hW.mono (Nat.le_trans hB1 HBW.out.size))) (hr2.below (hW.mono (Nat.le_trans hB2 HBW.out.size))) (Nat.le_trans hB1 (Nat.le_trans HBW.out.size hW.size)) (Nat.le_trans hB2 (Nat.le_trans HBW.out.size hW.size)) hla
        have hlt' : (k : Int) < (n1 : Int) := by omega
        obtain ⟨la, hla1⟩ : ∃ x, x = (a.getD k []).length := ⟨_, rfl⟩
        obtain ⟨lb, hlb1⟩ : ∃ x, x = (b.getD k []).length := ⟨_, rfl⟩
        rw [← hla1] at hc1 HI
        rw [← hlb1] at hc2 HI
        have hS : Hid (sameI (a.getD k []) (b.getD k []) = true → a.getD k [] = b.getD k []) := Lib.hid sameI_true.1
        have hT : Hid (sameI (a.getD k []) (b.getD k []) = false → sameR a b = false) := Lib.hid fun h => by
          rw [← Bool.not_eq_true, sameR_true]
          intro he
          rw [he, ← Bool.not_eq_true, sameI_true] at h
          exact h rfl
        obtain ⟨q, hq⟩ : ∃ q, q = sameI (a.getD k []) (b.getD k []) := ⟨_, rfl⟩
        rw [← hq] at HI hS hT
        have K1 := Lib.hid (And.intro (Nat.lt_of_lt_of_le hbb1 (Nat.le_trans hB1 HBW.out.size)) hc1)
        have K2 := Lib.hid (And.intro (Nat.lt_of_lt_of_le hbb2 (Nat.le_trans hB2 HBW.out.size)) hc2)
        clear hla hla1 hlb1 hr1 hr2 hq hbb1 hbb2
        go_wp2_with fail
        go_region_held3 (fun w' => w'.cell? ⟨b1, o1 + k, none⟩ = some (.slice X1 la d1) ∧ w'.cell? ⟨b2, o2 + k, none⟩ = some (.slice X2 lb d2)) (first | go_keep | exact ⟨(hb3.cell K1.out.1).trans K1.out.2, (hb3.cell K2.out.1).trans K2.out.2⟩) ((go_at_call 23; refine (HI.out wr.drew (below_same (Below.refl _ _) rfl rfl rfl rfl)).mono ?_; rintro e w3 ⟨rfl, hb3⟩))
        have HB3 := Lib.hid (HBW.out.drew.trans (hb3.mono HBW.out.size))
        clear hb3 hc1 hc2
        cases q with
        | true =>
          go_wp2_with fail
          go_roundw
          case rel =>
            refine ⟨k + 1, by omega, by go_num, Lib.hid fun j hj => ?_, HB3.out⟩
            by_cases hjk : j < k
            · exact HE.out j hjk
            · obtain rfl : j = k := by omega
              exact hS.out rfl
          case measure => simp [intOf]; omega
        | false =>
          have hf := Lib.hid (hT.out rfl)
          go_wp2_with fail
          go_ret
          exact ⟨ret_bool hf.out.symm, HB3.out⟩
      · have ht : Hid (sameR a b = true) := Lib.hid (by
          rw [sameR_true]
          apply List.ext_getElem
          · rw [L1.out, L2.out]
          · intro i h1 h2
            have := HE.out i (by have := L1.out; omega)
            rw [List.getD_eq_getElem?_getD, List.getD_eq_getElem?_getD, List.getElem?_eq_getElem h1, List.getElem?_eq_getElem h2] at this
            simpa using this)
        go_wp2_with fail
        go_ret
        exact ⟨ret_bool ht.out.symm, HBW.out⟩
  · have e : sameR a b = false := by
      rw [← Bool.not_eq_true, sameR_true]
      intro h; rw [h] at hl1; omega
    rw [e]
    have hb : ((n1 : Int) != (n2 : Int)) = true := by simp; omega
    clear h1 h2 hl1 hl2 e ha hne
    go_enter Tryd.func73, Tryd.ntmps73
    go_wp2_with fail
    go_ret
    exact ⟨rfl, Below.refl _ _⟩
end Go.Proofs.YtbllboajhdmnhaaDoor
