/- The walk of the law WidthBack. -/
import Derived.Test.YtapjnfhbjmeniaaWidth5
import Derived.Test.YtapjnfhbjmeniaaErrQ
import Derived.Test.YtapjnfhbjmeniaaOpen
import Derived.Test.YtapjnfhbjmeniaaRefHorn3
import Derived.Deep.DeepCutAuto
import Derived.Deep.CutBlock
import Derived.Deep.Cut
namespace Go.Proofs.Ytapjnfhbjmeniaa
open Go.RowKit

set_option maxHeartbeats 4000000 in
set_option maxRecDepth 1000000 in
theorem widthBack_walk (w : World) (A1 : Option Addr) (n1 c1 : Nat) (l : List Int) (h1 : RdI w w.heap.size A1 n1 l) (_ : n1 ≤ c1 ∧ c1 ≤ 17592186044415) (_ : ∀ x ∈ l, Is64 x) (u1 : n1 ≤ 1048576) (A2 : Option Addr) (n2 c2 : Nat) (ws : List Int) (h2 : RdI w w.heap.size A2 n2 ws) (_ : n2 ≤ c2 ∧ c2 ≤ 17592186044415) (_ : ∀ x ∈ ws, Is64 x) (u2 : n2 ≤ 1048576) (A3 : Option Addr) (n3 c3 : Nat) (bs : List Int) (h3 : RdI w w.heap.size A3 n3 bs) (hb3 : n3 ≤ c3 ∧ c3 ≤ 17592186044415) (_ : ∀ x ∈ bs, Is64 x) (u3 : n3 ≤ 1048576) (s : ByteArray) (_ : s.size ≤ 140737488351232) (_ : s.size ≤ 1048576) (m : Int) :
    Calls Try.prog 3 #[.slice A1 n1 c1, .slice A2 n2 c2, .slice A3 n3 c3, .string s, .int .i64 m] w fun e w' => e = .returned (.bool true) ∧ Below w.heap.size w w' := by
  have H1 := Lib.hid h1
  have H2 := Lib.hid h2
  have H3 := Lib.hid h3
  have HL3 := Lib.hid h3.len
  have hl1 := h1.len
  have HLN := Lib.hid (show l.length ≤ 100000000000000 by omega)
  have hz0 : Ph.putErr [5, 1] [3, 2] = 0 := by decide +kernel
  have hs0 : Ph.spread [5, 1] [3, 2] = [1, 0, 1, 0, 1] := by decide +kernel
  have HP0 := Lib.hid fun W A1 A2 hW1 hW2 => put_any A1 A2 2 2 2 2 [5, 1] [3, 2] W W.heap.size hW1 hW2 (Nat.le_refl _) (by omega) (by omega)
  rw [hz0, got_zero, hs0] at HP0
  have HP1 := Lib.hid fun W hW1 hW2 hB => put_any A1 A2 n1 n2 c1 c2 l ws W w.heap.size hW1 hW2 hB (by omega) (by omega)
  have HG1 := Lib.hid fun A n c x W (hx : RdI W W.heap.size A n x) hW2 (hB : w.heap.size ≤ W.heap.size) (hc : n ≤ c) => get_any A A2 n n2 c c2 x ws W W.heap.size hx (RdI.more hW2 hB) (Nat.le_refl _) hc (by omega)
  have HG2 := Lib.hid fun W hW1 hW2 hB => get_any A3 A2 n3 n2 c3 c2 bs ws W w.heap.size hW1 hW2 hB hb3.1 (by omega)
  have HP2 := Lib.hid fun A n c x W (hx : RdI W W.heap.size A n x) hW2 (hB : w.heap.size ≤ W.heap.size) (hn : n ≤ 2000000) => put_any A A2 n n2 c c2 x ws W W.heap.size hx (RdI.more hW2 hB) (Nat.le_refl _) hn (by omega)
  have HO3 := Lib.hid fun W hW hB => octets_any A3 n3 c3 bs W w.heap.size hW hB ⟨hb3.1, by omega⟩
  have HB4 := Lib.hid fun (hz : (octS bs).size ≤ 1000) W => bits_any (octS bs) (n3 : Int) W (by omega)
  have HB5 := Lib.hid fun W => bits_any s m W (by omega)
  have F2 := Lib.hid (get_put (l := l) (ws := ws))
  have F3 := Lib.hid (put_get (b := bs) (ws := ws))
  have F4 := Lib.hid (bits_octets (b := bs))
  rw [h3.len] at F4
  have F5 := Lib.hid (octets_bits (s := s) (m := m))
  obtain ⟨E1, hE1⟩ : ∃ E, E = Ph.putErr l ws := ⟨_, rfl⟩
  obtain ⟨E2, hE2⟩ : ∃ E, E = getErr bs ws := ⟨_, rfl⟩
  obtain ⟨E3, hE3⟩ : ∃ E, E = bitsErr bs := ⟨_, rfl⟩
  obtain ⟨E5, hE5⟩ : ∃ E, E = wbitsErr (bytesOf s) m := ⟨_, rfl⟩
  obtain ⟨L5, hL5⟩ : ∃ L, L = wbitsL (bytesOf s) m := ⟨_, rfl⟩
  obtain ⟨SP, hSP⟩ : ∃ L, L = Ph.spread l ws := ⟨_, rfl⟩
  obtain ⟨GA, hGA⟩ : ∃ L, L = Ph.gather bs ws := ⟨_, rfl⟩
  obtain ⟨S3, hS3⟩ : ∃ S, S = octS bs := ⟨_, rfl⟩
  have hgl : GA.length = n2 := by rw [hGA, Ph.gather_length, h2.len]
  rw [← hE1, ← hSP] at HP1 F2
  obtain ⟨X4, hX4⟩ : ∃ X, X = got E1 SP := ⟨_, rfl⟩
  rw [← hX4] at HP1
  have HX4 : Hid (E1 = 0 → X4 = SP) := Lib.hid fun h => by rw [hX4, h, got_zero]
  rw [← hE2, ← hGA] at HG2 F3
  obtain ⟨X6, hX6⟩ : ∃ X, X = got E2 GA := ⟨_, rfl⟩
  rw [← hX6] at HG2
  have HX6 : Hid (E2 = 0 → X6 = GA) := Lib.hid fun h => by rw [hX6, h, got_zero]
  rw [← hE3, ← hS3] at HO3
  rw [← hE3, ← hS3] at F4
  rw [← hS3] at HB4
  rw [← hE5, ← hL5] at HB5 F5
  have HGL := Lib.hid hgl
  have HN2 := Lib.hid u2
  clear h1 h2 h3 hl1 hb3 hz0 hs0 hE1 hE2 hE3 hE5 hL5 hSP hGA hS3 hgl u1 hX4 hX6
  go_enter Try.func3, Try.ntmps3
  go_wp2_with fail
  refine (HP0.out _ _ _ ((RdI.lit' w [5, 1] 3 #[.int .i64 5, .int .i64 1] (by rfl)).onAlloc _) (RdI.litAt (w.alloc (.cells #[.int .i64 5, .int .i64 1] 3)) (w.heap.size + 1) (by simp) [3, 2] 3 #[.int .i64 3, .int .i64 2] (by rfl))).mono ?_
  rintro e w1 ⟨A, c, he, ho, hb⟩
  rw [errV_zero, show ([1, 0, 1, 0, 1] : List Int).length = 5 from rfl] at he
  subst he
  have HB1 := Lib.hid (below_on (below_onAlloc (below_alloc0 w _) _) hb)
  have hr := RdI.own ho
  obtain ⟨b0, o0, rfl, _, d0⟩ := hr.at_ (k := 0) (by decide)
  obtain ⟨b1, o1, e1, _, d1⟩ := hr.at_ (k := 1) (by decide)
  obtain ⟨rfl, rfl⟩ : b0 = b1 ∧ o0 = o1 := by simpa using e1
  obtain ⟨b1, o1, e1, _, d2⟩ := hr.at_ (k := 2) (by decide)
  obtain ⟨rfl, rfl⟩ : b0 = b1 ∧ o0 = o1 := by simpa using e1
  obtain ⟨b1, o1, e1, _, d4⟩ := hr.at_ (k := 4) (by decide)
  obtain ⟨rfl, rfl⟩ : b0 = b1 ∧ o0 = o1 := by simpa using e1
  have d0' : w1.cell? ⟨b0, o0, none⟩ = some (.int .i64 1) := d0
  have d1' : w1.cell? ⟨b0, o0 + 1, none⟩ = some (.int .i64 0) := d1
  have d2' : w1.cell? ⟨b0, o0 + 2, none⟩ = some (.int .i64 1) := d2
  have d4' : w1.cell? ⟨b0, o0 + 4, none⟩ = some (.int .i64 1) := d4
  clear hb HP0 hr d0 d1 d2 d4 e1 ho
  go_wp2_with fail
  clear d0' d1' d2' d4'
  refine (HP1.out _ (H1.out.below HB1.out) (H2.out.below HB1.out) HB1.out.size).mono ?_
  intro e w2 ht
  obtain ⟨A4, n4, c4, rfl, hn4, hc4, hr, hb⟩ := ht.any
  have HB2 := Lib.hid (below_on HB1.out hb)
  have HR4 := Lib.hid hr
  have HN4 := Lib.hid hn4
  have hq1 := errV_eql E1
  have hg1 := errV_geql E1
  clear ht hb hr hn4 HB1 HP1
  go_upto_if 70 with (fail)
  go_cut [13, 14, 15, 16] (fun _ _ _ _ wx => Hid (Below w.heap.size w wx))
  case first =>
    by_cases hE : E1 = 0
    · have hEb : (E1 == 0) = true := by simp [hE]
      obtain ⟨f1, f2⟩ := F2.out hE
      have hx4 := HX4.out hE
      subst hx4
      have HGX := HG1.out A4 n4 c4 X4 w2 HR4.out (H2.out.below HB2.out) HB2.out.size hc4.1
      rw [f1, got_zero, f2] at HGX
      have HX := Lib.hid HGX
      clear hE f1 f2 F2 HX4 HGX HG1
      go_wp2_with fail
      refine HX.out.mono ?_
      intro e w3 ht
      obtain ⟨A5, n5, c5, he, hn5, _, hr, hb⟩ := ht.any
      rw [errV_zero] at he
      subst he
      have HB3 := Lib.hid (below_on HB2.out hb)
      have HR5 := Lib.hid hr
      have hn5' : n5 ≤ 100000000000000 := by rw [hn5]; exact HLN.out
      clear ht hb hr hn5 HX
      go_wp2_with fail
      refine (ints_any A5 A1 n5 c5 n1 c1 _ _ _ _ _ HR5.out (H1.out.below HB3.out) (Nat.le_refl _) HB3.out.size hn5').mono ?_
      rintro e w4 ⟨rfl, hb⟩
      have HB4' := Lib.hid (below_on HB3.out hb)
      rw [sameI_true.2 rfl]
      clear hb
      go_wp2_with fail
      go_meet
      case rel => exact HB4'
    · have hEb : (E1 == 0) = false := by simp [hE]
      clear hE
      go_wp2_with fail
      go_meet
      case rel => exact HB2
  case rest =>
    have HC1 := hcut
    clear hq1 hg1 HB2 HR4 HN4 F2 HX4 HG1 hc4
    go_wp2_with fail
    refine (HG2.out _ (H3.out.below HC1.out) (H2.out.below HC1.out) HC1.out.size).mono ?_
    intro e w2 ht
    obtain ⟨A4, n4, c4, rfl, hn4, hc4, hr, hb⟩ := ht.any
    have HB2 := Lib.hid (below_on HC1.out hb)
    have HR4 := Lib.hid hr
    have HN4 := Lib.hid hn4
    have hq1 := errV_eql E2
    have hg1 := errV_geql E2
    clear ht hb hr hn4 HC1 HG2
    go_upto_if 92 with (fail)
    go_cut [17, 14, 18, 19] (fun _ _ _ _ wx => Hid (Below w.heap.size w wx))
    case first =>
      by_cases hE : E2 = 0
      · have hEb : (E2 == 0) = true := by simp [hE]
        obtain ⟨f1, f2⟩ := F3.out hE
        have hx4 := HX6.out hE
        subst hx4
        have hn4' : n4 ≤ 2000000 := by rw [HN4.out, HGL.out]; have := HN2.out; omega
        have HGX := HP2.out A4 n4 c4 X6 w2 HR4.out (H2.out.below HB2.out) HB2.out.size hn4'
        rw [f1, got_zero, f2] at HGX
        have HX := Lib.hid HGX
        clear hE f1 f2 F3 HX6 HGX HP2 hn4'
        go_wp2_with fail
        refine HX.out.mono ?_
        intro e w3 ht
        obtain ⟨A5, n5, c5, he, hn5, _, hr, hb⟩ := ht.any
        rw [errV_zero] at he
        subst he
        have HB3 := Lib.hid (below_on HB2.out hb)
        have HR5 := Lib.hid hr
        have hn5' : n5 ≤ 100000000000000 := by have := HL3.out; omega
        clear ht hb hr hn5 HX
        go_wp2_with fail
        refine (ints_any A5 A3 n5 c5 n3 c3 _ _ _ _ _ HR5.out (H3.out.below HB3.out) (Nat.le_refl _) HB3.out.size hn5').mono ?_
        rintro e w4 ⟨rfl, hb⟩
        have HB4' := Lib.hid (below_on HB3.out hb)
        rw [sameI_true.2 rfl]
        clear hb
        go_wp2_with fail
        go_meet
        case rel => exact HB4'
      · have hEb : (E2 == 0) = false := by simp [hE]
        clear hE
        go_wp2_with fail
        go_meet
        case rel => exact HB2
    case rest =>
      have HC1 := hcut
      clear hq1 hg1 HB2 HR4 HN4 F3 HX6 HP2 hc4
      go_wp2_with fail
      refine (HO3.out _ (H3.out.below HC1.out) HC1.out.size).mono ?_
      rintro e w2 ⟨rfl, hb⟩
      have HB2 := Lib.hid (below_on HC1.out hb)
      have hq1 := errV_eql E3
      have hg1 := errV_geql E3
      clear hb HC1 HO3
      go_upto_if 113 with (fail)
      go_cut [20, 14, 21, 22] (fun _ _ _ _ wx => Hid (Below w.heap.size w wx))
      case first =>
        by_cases hE : E3 = 0
        · have hEb : (E3 == 0) = true := by simp [hE]
          obtain ⟨f1, f2, f3⟩ := F4.out hE
          have HGX := HB4.out f3 w2
          rw [f1, f2] at HGX
          have HX := Lib.hid HGX
          clear hE f1 f2 f3 F4 HGX HB4
          go_wp2_with fail
          refine HX.out.mono ?_
          intro e w3 ht
          obtain ⟨A5, n5, c5, he, hn5, _, hr, hb⟩ := ht.any
          rw [errV_zero] at he
          subst he
          have HB3 := Lib.hid (below_on HB2.out hb)
          have HR5 := Lib.hid hr
          have hn5' : n5 ≤ 100000000000000 := by have := HL3.out; omega
          clear ht hb hr hn5 HX
          go_wp2_with fail
          refine (ints_any A5 A3 n5 c5 n3 c3 _ _ _ _ _ HR5.out (H3.out.below HB3.out) (Nat.le_refl _) HB3.out.size hn5').mono ?_
          rintro e w4 ⟨rfl, hb⟩
          have HB4' := Lib.hid (below_on HB3.out hb)
          rw [sameI_true.2 rfl]
          clear hb
          go_wp2_with fail
          go_meet
          case rel => exact HB4'
        · have hEb : (E3 == 0) = false := by simp [hE]
          clear hE
          go_wp2_with fail
          go_meet
          case rel => exact HB2
      case rest =>
        have HC1 := hcut
        clear hq1 hg1 HB2 F4 HB4
        go_wp2_with fail
        refine (HB5.out _).mono ?_
        intro e w2 ht
        obtain ⟨A4, n4, c4, rfl, hn4, hc4, hr, hb⟩ := ht.any
        have HB2 := Lib.hid (below_on HC1.out hb)
        have HR4 := Lib.hid hr
        clear ht hb hr HC1 HB5
        by_cases hE : E5 = 0
        · obtain ⟨f1, f2, f3⟩ := F5.out hE
          rw [hE, errV_zero]
          have hnm : (n4 : Int) = m := by rw [hn4]; exact f3
          subst hnm
          have hn400 : n4 ≤ 400 := by rw [hn4]; exact (bitsErr_zero.1 f1).1
          have HX := Lib.hid (octets_any A4 n4 c4 L5 w2 w2.heap.size HR4.out (Nat.le_refl _) hc4)
          rw [f1, errV_zero, f2] at HX
          have hse := str_eq (rfl : s = s)
          clear hE f1 f2 f3 F5 hn4
          go_wp2_with fail
          refine HX.out.mono ?_
          rintro e w3 ⟨rfl, hb⟩
          have HB3 := Lib.hid (below_on HB2.out hb)
          clear hb HX
          go_wp2_with fail
          go_ret
          exact ⟨rfl, HB3.out⟩
        · rw [errV_ne hE]
          clear hE
          go_wp2_with fail
          go_ret
          exact ⟨rfl, HB2.out⟩
end Go.Proofs.Ytapjnfhbjmeniaa
