/- The walk of the law WidthTells. -/
import Derived.Test.YtlilommhdjdblaaDoorTold
import Derived.Test.YtlilommhdjdblaaDoorRefWidth
import Derived.Test.YtlilommhdjdblaaDoorRefWidth2
import Derived.Test.YtlilommhdjdblaaDoorUnpack
import Derived.Test.YtlilommhdjdblaaDoorOpen
import Derived.Deep.DeepCutAuto
import Derived.Deep.CutBlock
import Derived.Deep.Cut
namespace Go.Proofs.YtlilommhdjdblaaDoor
open Go.RowKit

theorem putErr_bd (l ws : List Int) : (Ph.putErr l ws = 0 ∨ Ph.putErr l ws = 1 ∨ Ph.putErr l ws = 3 ∨ Ph.putErr l ws = 4) ∧ (Ph.putErr l ws = 0 → (Ph.spread l ws).length ≤ 400) := by
  unfold Ph.putErr
  split
  · omega
  · split
    · split <;> omega
    · omega
theorem bitsErr_bd (l : List Int) : bitsErr l = 0 ∨ bitsErr l = 1 ∨ bitsErr l = 4 := by
  unfold bitsErr
  split
  · omega
  · split <;> omega
def widesErr (l ws : List Int) : Int := if bitsErr l ≠ 0 then bitsErr l else if (ws.all fun x => decide (0 ≤ x) && decide (x ≤ 20)) = false then 1 else 0
theorem widesErr_bd (l ws : List Int) : -100 ≤ widesErr l ws ∧ widesErr l ws ≤ 100 := by
  have := bitsErr_bd l
  unfold widesErr
  split
  · omega
  · split <;> omega
theorem getErr_wides (l ws : List Int) : getErr l ws = if widesErr l ws ≠ 0 then widesErr l ws else if Ph.total ws ≠ l.length then 3 else 0 := by
  unfold getErr widesErr
  by_cases h : bitsErr l ≠ 0
  · rw [if_pos h, if_pos h, if_pos h]
  · rw [if_neg h, if_neg h]
    by_cases h2 : (ws.all fun x => decide (0 ≤ x) && decide (x ≤ 20)) = false
    · rw [if_pos h2, if_pos h2, if_pos (by omega)]
    · rw [if_neg h2, if_neg h2]; simp
theorem getErr_bd (l ws : List Int) : -100 ≤ getErr l ws ∧ getErr l ws ≤ 100 := by
  have := widesErr_bd l ws
  rw [getErr_wides]
  split
  · omega
  · split <;> omega
theorem widesErr_bad {l ws : List Int} (h : bitsErr l = 0) {k : Nat} (hk : k < ws.length) (hb : ws.getD k 0 < 0 ∨ 20 < ws.getD k 0) : widesErr l ws = 1 := by
  unfold widesErr
  rw [if_neg (by omega), if_pos]
  rw [Bool.eq_false_iff]
  intro ha
  have := List.all_eq_true.1 ha _ (Ph.getD_mem hk)
  rw [Bool.and_eq_true, decide_eq_true_eq, decide_eq_true_eq] at this
  omega
theorem widesErr_good {l ws : List Int} (h : bitsErr l = 0) (hb : ∀ k, k < ws.length → 0 ≤ ws.getD k 0 ∧ ws.getD k 0 ≤ 20) : widesErr l ws = 0 := by
  unfold widesErr
  rw [if_neg (by omega), if_neg]
  rw [Bool.not_eq_false]
  refine List.all_eq_true.2 fun x hx => ?_
  obtain ⟨i, hi, rfl⟩ := List.mem_iff_getElem.1 hx
  have := hb i hi
  rw [List.getD_eq_getElem?_getD, List.getElem?_eq_getElem hi] at this
  simpa using this
theorem drop_has {l : List Int} {M k : Nat} (h1 : M ≤ k) (h2 : k < l.length) (h : l.getD k 0 = 1) : (l.drop M).contains 1 = true := by
  rw [List.contains_iff_mem]
  rw [List.getD_eq_getElem?_getD, List.getElem?_eq_getElem h2] at h
  have h : l[k] = 1 := h
  rw [← h]
  exact List.mem_iff_getElem.2 ⟨k - M, by simp; omega, by simp [show M + (k - M) = k by omega]⟩
theorem drop_not {l : List Int} {M : Nat} (h : ∀ j, M ≤ j → j < l.length → l.getD j 0 ≠ 1) : ¬ (l.drop M).contains 1 = true := by
  rw [List.contains_iff_mem]
  intro hm
  obtain ⟨i, hi, he⟩ := List.mem_iff_getElem.1 hm
  have hi2 : M + i < l.length := by simp at hi; omega
  apply h (M + i) (by omega) hi2
  rw [List.getD_eq_getElem?_getD, List.getElem?_eq_getElem hi2]
  simpa using he
/-- What is wanted of the bits behind the last one: as told so far, or none, a 1 was found. -/
def WantS (x : Int) (v : Value) (A : Option Addr) (M c : Nat) (l : List Int) (k : Nat) (E : Int) : Prop := (x = 0 ∧ v = .slice A M c ∧ ∀ j, M ≤ j → j < k → l.getD j 0 ≠ 1) ∨ (x = 2 ∧ v = .slice none 0 0 ∧ E = 2)
theorem WantS.start (A : Option Addr) (M c : Nat) (l : List Int) (E : Int) : WantS 0 (.slice A M c) A M c l M E := .inl ⟨rfl, rfl, fun j h1 h2 => absurd h1 (by omega)⟩
theorem WantS.next {x : Int} {v : Value} {A : Option Addr} {M c : Nat} {l : List Int} {k : Nat} {E : Int} (h : WantS x v A M c l k E) (hy : l.getD k 0 ≠ 1) : WantS x v A M c l (k + 1) E := by
  rcases h with ⟨a, b, d⟩ | h
  · refine .inl ⟨a, b, fun j h1 h2 => ?_⟩
    by_cases hjk : j < k
    · exact d j h1 hjk
    · obtain rfl : j = k := by omega
      exact hy
  · exact .inr h
theorem WantS.one {A : Option Addr} {M c : Nat} {l : List Int} {k : Nat} {E : Int} (h : E = 2) : WantS 2 (.slice none 0 0) A M c l k E := .inr ⟨rfl, rfl, h⟩
theorem wbitsErr_bd (b : List Nat) (m : Int) : -100 ≤ wbitsErr b m ∧ wbitsErr b m ≤ 100 := by
  unfold wbitsErr
  split
  · omega
  · split
    · omega
    · split <;> omega
set_option maxHeartbeats 16000000 in
set_option maxRecDepth 1000000 in
theorem widthTells_walk (w : World) (A1 : Option Addr) (n1 c1 : Nat) (l : List Int) (h1 : RdI w w.heap.size A1 n1 l) (_ : n1 ≤ c1 ∧ c1 ≤ 17592186044415) (_ : ∀ x ∈ l, Is64 x) (u1 : n1 ≤ 1048576) (A2 : Option Addr) (n2 c2 : Nat) (ws : List Int) (h2 : RdI w w.heap.size A2 n2 ws) (_ : n2 ≤ c2 ∧ c2 ≤ 17592186044415) (_ : ∀ x ∈ ws, Is64 x) (u2 : n2 ≤ 1048576) (A3 : Option Addr) (n3 c3 : Nat) (bs : List Int) (h3 : RdI w w.heap.size A3 n3 bs) (hb3 : n3 ≤ c3 ∧ c3 ≤ 17592186044415) (_ : ∀ x ∈ bs, Is64 x) (u3 : n3 ≤ 1048576) (s : ByteArray) (hs : s.size ≤ 140737488351232) (_ : s.size ≤ 1048576) (m : Int) (hg : Laid w) :
    Calls Tryd.prog 3 #[.slice A1 n1 c1, .slice A2 n2 c2, .slice A3 n3 c3, .string s, .int .i64 m] w fun e w' => e = .returned (.bool true) ∧ Below w.heap.size w w' := by
  have HG := Lib.hid hg
  have H1 := Lib.hid h1
  have H2 := Lib.hid h2
  have H3 := Lib.hid h3
  have HL2 := Lib.hid h2.len
  have HL3 := Lib.hid h3.len
  have HP1 := Lib.hid (rput_any A1 A2 n1 n2 c1 c2 l ws w w.heap.size h1 h2 (Nat.le_refl _) (by omega) (by omega))
  have HP2 := Lib.hid fun W hW1 hW2 hB => put_any A1 A2 n1 n2 c1 c2 l ws W w.heap.size hW1 hW2 hB (by omega) (by omega)
  have HPB := putErr_bd l ws
  have HRB := Lib.hid fun W hW => rbitsOf_any A3 n3 c3 bs W w.heap.size hW
  have HFB := bitsErr_bd bs
  have HWB := Lib.hid fun h k hk hb => widesErr_bad (l := bs) (ws := ws) h (k := k) hk hb
  have HWG := Lib.hid fun h hb => widesErr_good (l := bs) (ws := ws) h hb
  have HWN : Hid (bitsErr bs ≠ 0 → widesErr bs ws = bitsErr bs) := Lib.hid fun h => by unfold widesErr; rw [if_pos h]
  have HGW := Lib.hid (getErr_wides bs ws)
  have HGB := getErr_bd bs ws
  have HGZ := Lib.hid (getErr_zero (l := bs) (ws := ws)).1
  have HGT := Lib.hid fun W hW1 hW2 hB => get_any A3 A2 n3 n2 c3 c2 bs ws W w.heap.size hW1 hW2 hB hb3.1 (by omega)
  have HBZ := Lib.hid (bitsErr_zero (l := bs)).1
  have HRO := Lib.hid fun W hW hB hbits hn => roctets_any A3 n3 c3 bs W w.heap.size hW hB hbits hn
  have HOC := Lib.hid fun W hW hB => octets_any A3 n3 c3 bs W w.heap.size hW hB ⟨hb3.1, by omega⟩
  have HOS1 : Hid (bitsErr bs = 0 → strB (Ph.packed bs) = octS bs) := Lib.hid fun h => by unfold octS; rw [if_pos h]
  have HOS0 : Hid (bitsErr bs ≠ 0 → octS bs = ByteArray.empty) := Lib.hid fun h => by unfold octS; rw [if_neg h]
  have HBI := Lib.hid fun W => bits_any s m W hs
  have HWEB := wbitsErr_bd (bytesOf s) m
  have HWE : Hid (wbitsErr (bytesOf s) m = if m < 0 ∨ 400 < m then 1 else if (s.size : Int) ≠ (m + 7) / 8 then 3 else if ((Ph.opened (bytesOf s)).drop m.toNat).contains 1 = true then 2 else 0) := Lib.hid (by unfold wbitsErr; rw [bytesOf_length])
  have HWL : Hid (wbitsL (bytesOf s) m = if wbitsErr (bytesOf s) m = 0 then (Ph.opened (bytesOf s)).take m.toNat else []) := Lib.hid rfl
  have HROP := Lib.hid fun (h : s.size ≤ 1000) W => ropen_any s W h
  have HOL : Hid ((Ph.opened (bytesOf s)).length = 8 * s.size) := Lib.hid (by rw [Ph.opened_length, bytesOf_length])
  obtain ⟨EP, hEP⟩ : ∃ E, E = Ph.putErr l ws := ⟨_, rfl⟩
  obtain ⟨SP, hSP⟩ : ∃ E, E = got EP (Ph.spread l ws) := ⟨_, rfl⟩
  have hspl : SP.length ≤ 400 := by
    rw [hSP]
    by_cases h : EP = 0
    · rw [h, got_zero]; exact HPB.2 (by omega)
    · rw [got_ne h]; simp
  obtain ⟨FB, hFB⟩ : ∃ E, E = bitsErr bs := ⟨_, rfl⟩
  obtain ⟨G1, hG1⟩ : ∃ E, E = widesErr bs ws := ⟨_, rfl⟩
  obtain ⟨GE, hGE⟩ : ∃ E, E = getErr bs ws := ⟨_, rfl⟩
  obtain ⟨GA, hGA⟩ : ∃ E, E = Ph.gather bs ws := ⟨_, rfl⟩
  have hgl : GA.length = n2 := by rw [hGA, Ph.gather_length, h2.len]
  obtain ⟨OS, hOS⟩ : ∃ E, E = octS bs := ⟨_, rfl⟩
  obtain ⟨WE, hWE⟩ : ∃ E, E = wbitsErr (bytesOf s) m := ⟨_, rfl⟩
  obtain ⟨WL, hWL⟩ : ∃ E, E = wbitsL (bytesOf s) m := ⟨_, rfl⟩
  obtain ⟨OP, hOP⟩ : ∃ E, E = Ph.opened (bytesOf s) := ⟨_, rfl⟩
  have HEPB : Hid (-100 ≤ EP ∧ EP ≤ 100) := Lib.hid (by have := HPB.1; omega)
  rw [← hEP, ← hSP] at HP1 HP2
  rw [← hFB] at HRB HFB HWB HWG HWN HBZ HOC HOS1 HOS0 HGZ
  rw [← hG1] at HWB HWG HWN HGW
  rw [← hGE] at HGW HGB HGZ HGT
  rw [← hGA] at HGT
  rw [← hOS] at HOC HOS1 HOS0
  rw [← hWE, ← hWL] at HBI
  rw [← hWE] at HWEB HWE HWL
  rw [← hOP] at HWE HWL HROP HOL
  rw [← hWL] at HWL
  have HFBB : Hid (-100 ≤ FB ∧ FB ≤ 100) := Lib.hid (by omega)
  have HGBB := Lib.hid HGB
  have HWEBB := Lib.hid HWEB
  have HGL := Lib.hid hgl
  have HGAE := Lib.hid hGA
  have HSPL := Lib.hid hspl
  have HU2 := Lib.hid u2
  clear h1 h2 h3 hg HPB hEP hSP hspl hFB hG1 hGE hGA hgl hOS hWE hWL hOP HFB HGB HWEB u1 hs
  go_enter Tryd.func3, Tryd.ntmps3
  go_wp2_with fail
  refine HP1.out.mono ?_
  rintro e w1 ⟨A4, n4, c4, rfl, ho, hb⟩
  have HN4 : Hid (n4 = SP.length) := Lib.hid (by have := own_len ho; rw [ivals_length] at this; omega)
  have HR4 := Lib.hid (RdI.own ho)
  have HB1 := Lib.hid hb
  clear ho hb HP1
  go_wp2_with fail
  refine (HP2.out _ (H1.out.below HB1.out) (H2.out.below HB1.out) HB1.out.size).mono ?_
  intro e w2 ht
  obtain ⟨A5, n5, c5, rfl, hn5, hc5, hr, hb⟩ := ht.any
  have HR5 := Lib.hid hr
  have hn5' : n5 ≤ 100000000000000 := by have := HSPL.out; omega
  have HR4' := Lib.hid (HR4.out.on hb)
  have HB2 := Lib.hid (below_on HB1.out hb)
  clear ht hb hr hn5 HP2 HR4 HB1 hc5
  go_wp2_with fail
  refine (herr_yes EP _ (HG.out.below HB2.out) HEPB.out).mono ?_
  rintro e w3 ⟨rfl, hb⟩
  have HB3 := Lib.hid (below_on HB2.out hb)
  have HI := Lib.hid (ints_any A5 A4 n5 c5 n4 c4 SP SP w3 _ _ (HR5.out.on hb) (HR4'.out.on hb) (Nat.le_refl _) (Nat.le_refl _) hn5')
  rw [sameI_true.2 rfl] at HI
  clear hb HB2 HR5 HR4'
  go_wp2_with fail
  refine HI.out.mono ?_
  rintro e w4 ⟨rfl, hb⟩
  have HB4 := Lib.hid (below_on HB3.out hb)
  clear hb HB3 HI hn5'
  go_wp2_with fail
  refine (HRB.out _ (H3.out.below HB4.out)).mono ?_
  rintro e w' ⟨rfl, rfl⟩
  clear HRB
  go_upto_block 0 with (fail)
  go_cut [12, 17, 18] (fun s12 s17 _ wx => ∃ T : Int, s12 = .int .i64 G1 ∧ s17 = .int .i64 T ∧ Hid (G1 = 0 → T = Ph.total ws) ∧ Hid (Below w.heap.size w wx))
  case first => as_aux_lemma =>
    by_cases hE : FB = 0
    · have HFZ := Lib.hid hE
      subst hE
      go_wp2_with fail
      go_loopw [12, 17, 18] (fun e a i wr => ∃ (k : Nat) (T x : Int), k ≤ n2 ∧ i = .int .i64 k ∧ a = .int .i64 T ∧ e = .int .i64 x ∧ Hid ((x = 0 ∧ T = Ph.total (ws.take k) ∧ ∀ j, j < k → 0 ≤ ws.getD j 0 ∧ ws.getD j 0 ≤ 20) ∨ (x = 1 ∧ G1 = 1)) ∧ Hid (Below w.heap.size w wr)) (fun _ _ i _ => n2 - (intOf i).toNat)
      case atStart => exact ⟨0, 0, 0, Nat.zero_le _, rfl, rfl, rfl, Lib.hid (.inl ⟨rfl, rfl, fun j hj => absurd hj (by omega)⟩), HB4⟩
      case round =>
        obtain ⟨k, T, x, hk, rfl, rfl, rfl, HD, HBW⟩ := hrel
        by_cases hlt : k < n2
        · rcases HD.out with ⟨rfl, hT, hok⟩ | ⟨rfl, hG⟩
          · obtain ⟨b1, o1, rfl, _, hc1⟩ := (H2.out.below HBW.out).at_ hlt
            have hbad := HWB.out trivial k (by rw [HL2.out]; exact hlt)
            have htt := tot_take ws k (by rw [HL2.out]; exact hlt)
            have htb : 0 ≤ T ∧ T ≤ 20971520 := by
              rw [hT]
              have hm : ∀ x ∈ ws.take k, 0 ≤ x ∧ x ≤ 20 := fun x hx => by
                obtain ⟨i, hi, rfl⟩ := List.mem_iff_getElem.1 hx
                have hi' : i < k := by simp at hi; omega
                have := hok i hi'
                rw [List.getD_eq_getElem?_getD, List.getElem?_eq_getElem (by rw [HL2.out]; omega)] at this
                simpa using this
              have a1 := Ph.total_nonneg (l := ws.take k) fun x hx => (hm x hx).1
              have a2 := Ph.total_le (l := ws.take k) (m := 20) fun x hx => (hm x hx).2
              have a3 : (ws.take k).length ≤ 1048576 := by rw [List.length_take]; have := HU2.out; omega
              omega
            have HOK : Hid (0 ≤ ws.getD k 0 ∧ ws.getD k 0 ≤ 20 → ∀ j, j < k + 1 → 0 ≤ ws.getD j 0 ∧ ws.getD j 0 ≤ 20) := Lib.hid fun h j hj => by
              by_cases hjk : j < k
              · exact hok j hjk
              · obtain rfl : j = k := by omega
                exact h
            rw [← hT] at htt
            obtain ⟨y, hy⟩ : ∃ y, y = ws.getD k 0 := ⟨_, rfl⟩
            rw [← hy] at hc1 hbad htt HOK
            have HTT := Lib.hid htt
            have HBAD := Lib.hid hbad
            have hlt' : (k : Int) < (n2 : Int) := by omega
            clear hy hT hok htt hbad HD
            by_cases hy0 : y < 0
            · have hG := HBAD.out (.inl hy0)
              go_wp2_with fail
              go_roundw
              case rel => exact ⟨k + 1, _, 1, by omega, by go_num, rfl, rfl, Lib.hid (.inr ⟨rfl, hG⟩), HBW⟩
              case measure => simp [intOf]; omega
            · by_cases hy20 : 20 < y
              · have hG := HBAD.out (.inr hy20)
                go_wp2_with fail
                go_roundw
                case rel => exact ⟨k + 1, _, 1, by omega, by go_num, rfl, rfl, Lib.hid (.inr ⟨rfl, hG⟩), HBW⟩
                case measure => simp [intOf]; omega
              · have HO2 := Lib.hid (HOK.out ⟨by omega, by omega⟩)
                have kw : IntKind.i64.wrap (T + y) = T + y := IntWalk.i64_in _ (by omega)
                go_wp2_with fail
                go_roundw
                case rel => exact ⟨k + 1, T + y, 0, by omega, by go_num, rfl, rfl, Lib.hid (.inl ⟨rfl, HTT.out.symm, HO2.out⟩), HBW⟩
                case measure => simp [intOf]; omega
          · have hlt' : (k : Int) < (n2 : Int) := by omega
            have HG1 := Lib.hid hG
            clear HD hG
            go_wp2_with fail
            go_meet
            case rel => exact ⟨T, by rw [HG1.out], rfl, Lib.hid fun h => by rw [HG1.out] at h; omega, HBW⟩
        · obtain rfl : k = n2 := by omega
          rcases HD.out with ⟨rfl, hT, hok⟩ | ⟨rfl, hG⟩
          · have hG := HWG.out trivial (by rw [HL2.out]; exact hok)
            have HG1 := Lib.hid hG
            rw [List.take_of_length_le (by rw [HL2.out]; omega)] at hT
            have HTT := Lib.hid hT
            clear HD hG hok hT
            go_wp2_with fail
            go_meet
            case rel => exact ⟨T, by rw [HG1.out], rfl, Lib.hid fun _ => HTT.out, HBW⟩
          · have HG1 := Lib.hid hG
            clear HD hG
            go_wp2_with fail
            go_meet
            case rel => exact ⟨T, by rw [HG1.out], rfl, Lib.hid fun h => by rw [HG1.out] at h; omega, HBW⟩
    · have hG := HWN.out hE
      have HG1 := Lib.hid hG
      have HFN := Lib.hid hE
      have hEb : (FB == 0) = false := by simp [hE]
      clear hG hE
      by_cases hn0 : (0 : Int) < (n2 : Int)
      all_goals
        go_wp2_with fail
        refine wp_loop_rounds 1 ?_
        rw [rounds_succ]
        go_wp2_with fail
        go_meet
        case rel => exact ⟨0, by rw [HG1.out], rfl, Lib.hid fun h => by rw [HG1.out] at h; exact absurd h HFN.out, HB4⟩
  case rest =>
    obtain ⟨T, rfl, rfl, HT, HBX⟩ := hcut
    rename World => wx
    clear HB4 HWB HWG HWN
    have hge := HGW.out
    rw [HL3.out] at hge
    obtain ⟨q, hq⟩ : ∃ q : Bool, q = (decide (G1 = 0) && !decide (T = (n3 : Int))) := ⟨_, rfl⟩
    have HGE : Hid (GE = if q = true then 3 else G1) := Lib.hid (by
      rw [hge]
      by_cases hE : G1 = 0
      · rw [if_neg (by omega), ← HT.out hE]
        by_cases h3 : T = (n3 : Int)
        · rw [if_neg (by omega), if_neg (by rw [hq]; simp [h3])]; exact hE.symm
        · rw [if_pos h3, if_pos (by rw [hq]; simp [h3, hE])]
      · rw [if_pos hE, if_neg (by rw [hq]; simp [hE])])
    have HQ := Lib.hid hq
    clear hge hq
    go_upto_region 13 with (fail)
    go_cut [87] (fun s87 wy => s87 = .bool q ∧ wy = wx)
    case first => as_aux_lemma =>
      by_cases hE : G1 = 0
      · have hEb : (G1 == 0) = true := by simp [hE]
        have HE := Lib.hid hE
        clear hE
        go_wp2_with fail
        go_meet
        case rel => exact ⟨by rw [HQ.out]; simp [HE.out, bne]; rfl, rfl⟩
      · have hEb : (G1 == 0) = false := by simp [hE]
        have HE := Lib.hid hE
        clear hE
        go_wp2_with fail
        go_meet
        case rel => exact ⟨by rw [HQ.out]; simp [HE.out], rfl⟩
    case rest =>
    obtain ⟨rfl, rfl⟩ := hcut
    go_upto_if 87 with (fail)
    go_cut [12] (fun s12 wy => s12 = .int .i64 GE ∧ Hid (Below w.heap.size w wy))
    case first => as_aux_lemma =>
      cases q with
      | false =>
        go_wp2_with fail
        go_meet
        case rel => exact ⟨by rw [HGE.out]; rfl, HBX⟩
      | true =>
        go_wp2_with fail
        go_meet
        case rel => exact ⟨by rw [HGE.out]; rfl, HBX⟩
    case rest =>
      obtain ⟨rfl, HBY⟩ := hcut
      rename World => wy
      clear HBX HT HGW
      go_upto_block 2 with (fail)
      go_cut [11, 19, 20, 21] (fun s11 _ _ _ wz => (∃ A n c, s11 = .slice A n c ∧ n ≤ 100000000 ∧ Hid (RdI wz wz.heap.size A n (got GE GA))) ∧ Hid (Below w.heap.size w wz))
      case first => as_aux_lemma =>
        by_cases hE : GE = 0
        · have hEb : (GE == 0) = true := by simp [hE]
          have HE := Lib.hid hE
          obtain ⟨z1, z2, z3⟩ := HGZ.out hE
          have hbz := HBZ.out z1
          have HBT := Lib.hid hbz.2
          have HZ2 := Lib.hid z2
          have HZ3 : Hid (Ph.total ws = (n3 : Int)) := Lib.hid (by rw [z3, HL3.out])
          have hn3 : n3 ≤ 400 := by have := HL3.out; omega
          clear hE z1 z2 z3 hbz HGZ HBZ
          go_wp2_with fail
          go_loopw [11, 19, 20, 21] (fun o a i _ wr => ∃ (k T : Nat) (A6 : Option Addr) (c6 : Nat) (ol : List Int), k ≤ n2 ∧ i = .int .i64 k ∧ a = .int .i64 T ∧ o = .slice A6 k c6 ∧ Hid (ol ++ Ph.gather (bs.drop T) (ws.drop k) = GA ∧ (T : Int) = Ph.total (ws.take k)) ∧ Hid (wr.ownsRow w.heap.size 3 1 (.slice A6 k c6) k (ivals ol)) ∧ Hid (Below w.heap.size w wr)) (fun _ _ i _ _ => n2 - (intOf i).toNat)
          case atStart => exact ⟨0, 0, none, 0, [], Nat.zero_le _, rfl, rfl, rfl, Lib.hid ⟨HGAE.out.symm, rfl⟩, Lib.hid (own_nil _ _ _), HBY⟩
          case round =>
            obtain ⟨k, T, A6, c6, ol, hk, rfl, rfl, rfl, HD, HO, HBW⟩ := hrel
            by_cases hlt : k < n2
            · obtain ⟨b1, o1, rfl, hbb1, hc0⟩ := H2.out.at_ hlt
              have hc1 := (HBW.out.cell (p := ⟨b1, o1 + k, none⟩) hbb1).trans hc0
              have hws := HZ2.out _ (Ph.getD_mem (l := ws) (i := k) (by rw [HL2.out]; exact hlt))
              have htt := tot_take ws k (by rw [HL2.out]; exact hlt)
              have hle := Ph.total_take_le (l := ws) (fun x hx => (HZ2.out x hx).1) (k + 1)
              have hgs := gather_step (bs.drop T) ws k (by rw [HL2.out]; exact hlt)
              have hd1 := HD.out.1
              have hd2 := HD.out.2
              rw [hgs] at hd1
              rw [← hd2] at htt
              rw [htt, HZ3.out] at hle
              obtain ⟨y, hy⟩ : ∃ y, y = ws.getD k 0 := ⟨_, rfl⟩
              rw [← hy] at hc1 hc0 hws htt hle hd1
              obtain ⟨Y, rfl⟩ := Int.eq_ofNat_of_zero_le hws.1
              simp only [Int.toNat_natCast] at hd1
              have K1 := Lib.hid (And.intro hbb1 hc0)
              clear hc0 hbb1
              have hTY : T + Y ≤ n3 := by omega
              have hr0 := (((H3.out.below HBW.out).drop (k := T) (by omega)).take (k := Y) (by omega))
              have hbits : Ph.isBits ((bs.drop T).take Y) := fun b hb => HBT.out b (List.mem_of_mem_drop (List.mem_of_mem_take hb))
              have HNU := Lib.hid fun c => rnumber_any (A3.map (·.add T)) Y c ((bs.drop T).take Y) wr w.heap.size hr0 hbits (by omega)
              have HNU0 := Lib.hid fun (h : Y = 0) c => rnumber_any A3 Y c ((bs.drop T).take Y) wr w.heap.size (by subst h; exact RdI.nil) hbits (by omega)
              have HTY := Lib.hid hTY
              obtain ⟨R, hR⟩ : ∃ R, R = Ph.number ((bs.drop T).take Y) := ⟨_, rfl⟩
              rw [← hR] at hd1 HNU HNU0
              have HD2 : Hid ((ol ++ [(R : Int)]) ++ Ph.gather (bs.drop (T + Y)) (ws.drop (k + 1)) = GA ∧ ((T + Y : Nat) : Int) = Ph.total (ws.take (k + 1))) := Lib.hid ⟨by rw [← hd1, List.drop_drop]; simp, by rw [htt]; simp⟩
              have hlt' : (k : Int) < (n2 : Int) := by omega
              have hok : ol.length = k := by have := own_len HO.out; rwa [ivals_length] at this
              have HOK := Lib.hid hok
              have ky : IntKind.i64.wrap ((T : Int) + (Y : Int)) = (T : Int) + (Y : Int) := IntWalk.i64_in _ (by omega)
              clear hws htt hle hgs hd1 hd2 hy hr0 hbits hR hok HD
              rcases Nat.lt_or_ge T c3 with hTc | hTc
              · have hTc' : ¬ c3 = T := by omega
                clear hTc
                go_wp2_with fail
                refine (HNU.out _).mono ?_
                rintro e w' ⟨rfl, rfl⟩
                go_wp2_with (at_builtin; refine wpList_push _ (by rfl) _ _ (by rfl) w w.heap.size A6 k c6 ol (R : Int) HO.out HBW.out HBW.out.size (by omega) (by rfl) (by rfl) ?_; intro g cap w2 ho2 hb2; have hc9 := (hb2.cell K1.out.1).trans K1.out.2)
                have HO5 := Lib.hid ho2
                have HB5 := Lib.hid hb2
                clear ho2 hb2
                go_wp2_with fail
                go_roundw
                case rel => exact ⟨k + 1, _, some ⟨g, 0, none⟩, cap, ol ++ [(R : Int)], by omega, by go_num, by go_num, rfl, HD2, HO5, HB5⟩
                case measure => simp [intOf]; omega
              · obtain rfl : T = c3 := by omega
                have HN9 := Lib.hid (HNU0.out (by omega))
                clear hTc
                go_wp2_with fail
                refine (HN9.out _).mono ?_
                rintro e w' ⟨rfl, rfl⟩
                go_wp2_with (at_builtin; refine wpList_push _ (by rfl) _ _ (by rfl) w w.heap.size A6 k c6 ol (R : Int) HO.out HBW.out HBW.out.size (by omega) (by rfl) (by rfl) ?_; intro g cap w2 ho2 hb2; have hc9 := (hb2.cell K1.out.1).trans K1.out.2)
                have HO5 := Lib.hid ho2
                have HB5 := Lib.hid hb2
                clear ho2 hb2
                go_wp2_with fail
                go_roundw
                case rel => exact ⟨k + 1, _, some ⟨g, 0, none⟩, cap, ol ++ [(R : Int)], by omega, by go_num, by go_num, rfl, HD2, HO5, HB5⟩
                case measure => simp [intOf]; omega
            · obtain rfl : k = n2 := by omega
              have hd := HD.out.1
              rw [show ws.drop k = [] from List.drop_of_length_le (by rw [HL2.out]; omega)] at hd
              have hol : got GE GA = ol := by
                rw [HE.out, got_zero, ← hd]; simp [Ph.gather]
              have HOL2 := Lib.hid hol
              clear hd hol HD
              go_wp2_with fail
              go_meet
              case rel => exact ⟨⟨A6, k, c6, rfl, by omega, Lib.hid (by rw [HOL2.out]; exact RdI.own HO.out)⟩, HBW⟩
        · have hEb : (GE == 0) = false := by simp [hE]
          have HE := Lib.hid hE
          clear hE
          by_cases hn0 : (0 : Int) < (n2 : Int)
          all_goals
            go_wp2_with fail
            refine wp_loop_rounds 1 ?_
            rw [rounds_succ]
            go_wp2_with fail
            go_meet
            case rel => exact ⟨⟨none, 0, 0, rfl, by omega, Lib.hid (by rw [got_ne HE.out]; exact RdI.nil)⟩, HBY⟩
      case rest =>
        obtain ⟨⟨A7, n7, c7, rfl, hn7, HW7⟩, HBC⟩ := hcut
        rename World => wz
        clear HBY HU2
        go_wp2_with fail
        refine (HGT.out _ (H3.out.below HBC.out) (H2.out.below HBC.out) HBC.out.size).mono ?_
        intro e w5 ht
        obtain ⟨A8, n8, c8, rfl, hn8, _, hr, hb⟩ := ht.any
        have HR8 := Lib.hid hr
        have HW8 := Lib.hid (HW7.out.on hb)
        have HB5 := Lib.hid (below_on HBC.out hb)
        have hn8' : n8 ≤ 100000000000000 := by have := hr.len; have := HW7.out.len; omega
        clear ht hb hr hn8 HGT HW7 HBC
        go_wp2_with fail
        refine (herr_yes GE _ (HG.out.below HB5.out) HGBB.out).mono ?_
        rintro e w6 ⟨rfl, hb⟩
        have HB6 := Lib.hid (below_on HB5.out hb)
        have HI := Lib.hid (ints_any A8 A7 n8 c8 n7 c7 (got GE GA) (got GE GA) w6 _ _ (HR8.out.on hb) (HW8.out.on hb) (Nat.le_refl _) (Nat.le_refl _) hn8')
        rw [sameI_true.2 rfl] at HI
        clear hb HB5 HR8 HW8
        go_wp2_with fail
        refine HI.out.mono ?_
        rintro e w7 ⟨rfl, hb⟩
        have HB7 := Lib.hid (below_on HB6.out hb)
        clear hb HB6 HI hn8' hn7
        go_upto_if 133 with (fail)
        go_cut [23] (fun s23 wx => s23 = .string OS ∧ Hid (Below w.heap.size w wx))
        case first => as_aux_lemma =>
          by_cases hE : FB = 0
          · have hEb : (FB == 0) = true := by simp [hE]
            have hbz := HBZ.out hE
            have HRX := Lib.hid (HRO.out _ (H3.out.below HB7.out) HB7.out.size hbz.2 (by have := HL3.out; omega))
            rw [HOS1.out hE] at HRX
            clear hE hbz HOS0
            go_wp2_with fail
            refine HRX.out.mono ?_
            rintro e w8 ⟨rfl, hb⟩
            have HB8 := Lib.hid (below_on HB7.out hb)
            clear hb
            go_wp2_with fail
            go_meet
            case rel => exact ⟨rfl, HB8⟩
          · have hEb : (FB == 0) = false := by simp [hE]
            have hos := HOS0.out hE
            have HOE := Lib.hid hos
            clear hE hos
            go_wp2_with fail
            go_meet
            case rel => exact ⟨by rw [HOE.out]; rfl, HB7⟩
        case rest =>
          obtain ⟨rfl, HBD⟩ := hcut
          rename World => wd
          clear HB7 HRO HOS1 HOS0 HBZ
          have hse := str_eq (rfl : OS = OS)
          go_wp2_with fail
          refine (HOC.out _ (H3.out.below HBD.out) HBD.out.size).mono ?_
          rintro e w5 ⟨rfl, hb⟩
          have HB5 := Lib.hid (below_on HBD.out hb)
          clear hb HBD HOC
          go_wp2_with fail
          refine (herr_yes FB _ (HG.out.below HB5.out) HFBB.out).mono ?_
          rintro e w6 ⟨rfl, hb⟩
          have HB6 := Lib.hid (below_on HB5.out hb)
          clear hb HB5
          obtain ⟨q2, hq2⟩ : ∃ q : Bool, q = (decide (m < 0) || decide (400 < m)) := ⟨_, rfl⟩
          have HQ2 := Lib.hid hq2
          clear hq2
          go_upto_region 32 with (fail)
          go_cut [154] (fun s154 wy => s154 = .bool q2 ∧ wy = w6)
          case first => as_aux_lemma =>
            by_cases hm : m < 0
            · have HM := Lib.hid hm
              go_wp2_with fail
              go_meet
              case rel => exact ⟨by rw [HQ2.out]; simp [HM.out], rfl⟩
            · have HM := Lib.hid hm
              go_wp2_with fail
              go_meet
              case rel => exact ⟨by rw [HQ2.out, show decide (m < 0) = false from decide_eq_false (by have := HM.out; omega)]; rfl, rfl⟩
          case rest =>
          obtain ⟨rfl, rfl⟩ := hcut
          clear hse
          go_upto_if 154 with (fail)
          go_cut [11, 12, 26, 27] (fun s11 s12 _ _ wx => s12 = .int .i64 WE ∧ (∃ A n c, s11 = .slice A n c ∧ n ≤ 100000000 ∧ Hid (RdI wx wx.heap.size A n WL)) ∧ Hid (Below w.heap.size w wx))
          case first => as_aux_lemma =>
            have hwe := HWE.out
            have hwl := HWL.out
            cases q2 with
            | true =>
              have hm : m < 0 ∨ 400 < m := by have := HQ2.out; simp at this; omega
              rw [if_pos hm] at hwe
              rw [hwe, if_neg (by omega)] at hwl
              have HE := Lib.hid hwe
              have HL := Lib.hid hwl
              clear hwe hwl hm
              go_wp2_with fail
              go_meet
              case rel => exact ⟨by rw [HE.out], ⟨none, 0, 0, rfl, by omega, Lib.hid (by rw [HL.out]; exact RdI.nil)⟩, HB6⟩
            | false =>
              have hm : 0 ≤ m ∧ m ≤ 400 := by have := HQ2.out; simp at this; omega
              rw [if_neg (by omega)] at hwe
              obtain ⟨M, rfl⟩ := Int.eq_ofNat_of_zero_le hm.1
              have hM4 : M ≤ 400 := by omega
              have k1 : IntKind.i64.wrap ((M : Int) + 7) = (M : Int) + 7 := IntWalk.i64_in _ (by omega)
              obtain ⟨D, hD⟩ : ∃ D, D = ((M : Int) + 7) / 8 := ⟨_, rfl⟩
              have k2 : ((M : Int) + 7).tdiv 8 = D := by rw [hD]; exact Int.tdiv_eq_ediv_of_nonneg (by omega)
              have k3 : IntKind.i64.wrap D = D := IntWalk.i64_in _ (by omega)
              have hDb : 0 ≤ D ∧ D ≤ 51 ∧ (M : Int) ≤ 8 * D := by omega
              rw [← hD] at hwe
              clear hD hm
              by_cases hs : (s.size : Int) = D
              · rw [if_neg (by omega)] at hwe
                have hsb : ((s.size : Int) != D) = false := by simp [hs]
                have hs1 : s.size ≤ 1000 := by omega
                have HRP := Lib.hid (HROP.out hs1)
                have hMo : M ≤ OP.length := by rw [HOL.out]; omega
                have hOl : OP.length ≤ 1000 := by rw [HOL.out]; omega
                have HWE2 := Lib.hid hwe
                have HWL2 := Lib.hid hwl
                clear hwe hwl hs hs1 HROP
                go_wp2_with fail
                refine (HRP.out _).mono ?_
                rintro e w8 ⟨A8, c8, rfl, ho, hb⟩
                have HR8 := Lib.hid (RdI.own ho)
                have hc8 := own_cap ho
                have HB8 := Lib.hid (below_on HB6.out hb)
                obtain ⟨N8, hN8⟩ : ∃ N, N = OP.length := ⟨_, rfl⟩
                rw [← hN8] at hMo hOl hc8 HR8 ⊢
                have HN8 := Lib.hid hN8
                have hMc : M ≤ c8 := by omega
                clear ho hb hN8 HRP
                have HHAS : Hid (∀ k, M ≤ k → k < N8 → OP.getD k 0 = 1 → WE = 2) := Lib.hid fun k h1 h2 h3 => by
                  rw [HWE2.out, Int.toNat_natCast, if_pos (drop_has h1 (by rw [← HN8.out]; exact h2) h3)]
                have HNOT : Hid ((∀ j, M ≤ j → j < N8 → OP.getD j 0 ≠ 1) → WE = 0) := Lib.hid fun h => by
                  rw [HWE2.out, Int.toNat_natCast, if_neg (drop_not (by rw [← HN8.out]; exact h))]
                have HWT : Hid (WE = 0 → WL = OP.take M) := Lib.hid fun h => by rw [HWL2.out, if_pos h, Int.toNat_natCast]
                have HWN2 : Hid (WE = 2 → WL = []) := Lib.hid fun h => by rw [HWL2.out, if_neg (by omega)]
                clear HWE2 HWL2
                go_wp2_with fail
                go_loop [11, 12, 27] (fun o e i => ∃ (k : Nat) (x : Int) (v : Value), k ≤ N8 ∧ M ≤ k ∧ i = .int .i64 k ∧ e = .int .i64 x ∧ o = v ∧ Hid (WantS x v A8 M c8 OP k WE)) (fun _ _ i => N8 - (intOf i).toNat)
                case atStart => exact ⟨M, 0, _, hMo, Nat.le_refl _, rfl, rfl, rfl, Lib.hid (WantS.start _ _ _ _ _)⟩
                case round =>
                  obtain ⟨k, x, v, hk, hMk, rfl, rfl, rfl, HD⟩ := hrel
                  by_cases hlt : k < N8
                  · obtain ⟨b1, o1, rfl, _, hc1⟩ := HR8.out.at_ hlt
                    have hhas := HHAS.out k hMk hlt
                    obtain ⟨y, hy⟩ : ∃ y, y = OP.getD k 0 := ⟨_, rfl⟩
                    rw [← hy] at hc1 hhas
                    have HY := Lib.hid hy
                    have hlt' : (k : Int) < (N8 : Int) := by omega
                    clear hy
                    by_cases hy1 : y = 1
                    · have HW2 := Lib.hid (hhas hy1)
                      have hyb : (y == 1) = true := beq_iff_eq.2 hy1
                      clear hhas hy1
                      go_wp2_with fail
                      go_round
                      case rel => exact ⟨k + 1, 2, _, by omega, by omega, by go_num, rfl, rfl, Lib.hid (WantS.one HW2.out)⟩
                      case measure => simp [intOf]; omega
                    · have hyb : (y == 1) = false := beq_false_of_ne hy1
                      have HD2 := Lib.hid (HD.out.next (by rw [← HY.out]; exact hy1))
                      clear hhas hy1 HD
                      go_wp2_with fail
                      go_round
                      case rel => exact ⟨k + 1, x, _, by omega, by omega, by go_num, rfl, rfl, HD2⟩
                      case measure => simp [intOf]; omega
                  · obtain rfl : k = N8 := by omega
                    rcases HD.out with ⟨rfl, rfl, hok⟩ | ⟨rfl, rfl, hw2⟩
                    · have h0 := HNOT.out hok
                      have hl := HWT.out h0
                      have H0' := Lib.hid h0
                      have HL := Lib.hid hl
                      have HT8 := Lib.hid (HR8.out.take (k := M) hMo)
                      clear h0 hl hok HD
                      go_wp2_with fail
                      go_meet
                      case rel => exact ⟨by rw [H0'.out], ⟨A8, M, c8, rfl, by omega, Lib.hid (by rw [HL.out]; exact HT8.out)⟩, HB8⟩
                    · have hl := HWN2.out hw2
                      have H0' := Lib.hid hw2
                      have HL := Lib.hid hl
                      clear hl hw2 HD
                      go_wp2_with fail
                      go_meet
                      case rel => exact ⟨by rw [H0'.out], ⟨none, 0, 0, rfl, by omega, Lib.hid (by rw [HL.out]; exact RdI.nil)⟩, HB8⟩
              · rw [if_pos hs] at hwe
                rw [hwe, if_neg (by omega)] at hwl
                have hsb : ((s.size : Int) != D) = true := by simp [hs]
                have HE := Lib.hid hwe
                have HL := Lib.hid hwl
                clear hwe hwl hs
                go_wp2_with fail
                go_meet
                case rel => exact ⟨by rw [HE.out], ⟨none, 0, 0, rfl, by omega, Lib.hid (by rw [HL.out]; exact RdI.nil)⟩, HB6⟩
          case rest =>
            obtain ⟨rfl, ⟨A9, n9, c9, rfl, hn9, HW9⟩, HBE⟩ := hcut
            rename World => we
            go_wp2_with fail
            refine (HBI.out _).mono ?_
            intro e w5 ht
            obtain ⟨A8, n8, c8, rfl, hn8, _, hr, hb⟩ := ht.any
            have HR8 := Lib.hid hr
            have HW8 := Lib.hid (HW9.out.on hb)
            have HB5 := Lib.hid (below_on HBE.out hb)
            have hn8' : n8 ≤ 100000000000000 := by have := hr.len; have := HW9.out.len; omega
            clear ht hb hr hn8 HBI HW9 HBE
            go_wp2_with fail
            refine (herr_yes WE _ (HG.out.below HB5.out) HWEBB.out).mono ?_
            rintro e w7 ⟨rfl, hb⟩
            have HB7 := Lib.hid (below_on HB5.out hb)
            have HI := Lib.hid (ints_any A8 A9 n8 c8 n9 c9 WL WL w7 _ _ (HR8.out.on hb) (HW8.out.on hb) (Nat.le_refl _) (Nat.le_refl _) hn8')
            rw [sameI_true.2 rfl] at HI
            clear hb HB5 HR8 HW8
            go_wp2_with fail
            refine HI.out.mono ?_
            rintro e w8 ⟨rfl, hb⟩
            have HB8 := Lib.hid (below_on HB7.out hb)
            clear hb
            go_wp2_with fail
            go_ret
            exact ⟨ret_true (by simp), HB8.out⟩
end Go.Proofs.YtlilommhdjdblaaDoor
