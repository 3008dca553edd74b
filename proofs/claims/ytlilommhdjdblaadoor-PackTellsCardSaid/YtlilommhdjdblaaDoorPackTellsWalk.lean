/- The walk of the law PackTells. -/
import Derived.Test.YtlilommhdjdblaaDoorTold
import Derived.Test.YtlilommhdjdblaaDoorRefPack
import Derived.Test.YtlilommhdjdblaaDoorSameP
import Derived.Test.YtlilommhdjdblaaDoorOpen
import Derived.Deep.DeepCutAuto
import Derived.Deep.CutBlock
import Derived.Deep.Cut
namespace Go.Proofs.YtlilommhdjdblaaDoor
open Go.RowKit

theorem bandErr_bd (s : List Int) : -100 ≤ Ph.bandErr s ∧ Ph.bandErr s ≤ 100 := by
  unfold Ph.bandErr
  split <;> (try split) <;> (try split) <;> (try split) <;> omega
theorem pulsesErr_bd (v : List Int) : -100 ≤ Ph.pulsesErr v ∧ Ph.pulsesErr v ≤ 100 := by unfold Ph.pulsesErr; split <;> (try split) <;> (try split) <;> omega
theorem partsErr_bd : ∀ ps : List Ph.Part, -100 ≤ Ph.partsErr ps ∧ Ph.partsErr ps ≤ 100
  | [] => by simp [Ph.partsErr]
  | p :: ps => by
    have h1 := partsErr_bd ps
    have h2 := pulsesErr_bd p.pulses
    unfold Ph.partsErr
    split
    · omega
    · split <;> omega
theorem frameErr_bd (ps : List Ph.Part) (s : List Int) (bits : Int) : -100 ≤ Ph.frameErr ps s bits ∧ Ph.frameErr ps s bits ≤ 100 := by
  have h1 := bandErr_bd s
  have h2 := partsErr_bd ps
  unfold Ph.frameErr
  split
  · omega
  · split
    · omega
    · split
      · omega
      · split
        · omega
        · split
          · omega
          · split <;> omega
theorem packErr_bd (ps : List Ph.Part) (s : List Int) (bits : Int) : -100 ≤ Ph.packErr ps s bits ∧ Ph.packErr ps s bits ≤ 100 := by
  have h1 := frameErr_bd ps s bits
  unfold Ph.packErr
  split
  · omega
  · split <;> omega
theorem unpE_bd (b : List Nat) (s : List Int) (bits : Int) : -100 ≤ unpE b s bits ∧ unpE b s bits ≤ 100 := by
  have h1 := bandErr_bd s
  unfold unpE
  split
  · omega
  · split
    · omega
    · split
      · omega
      · split <;> omega
theorem longErr_bd (s : List Int) (bits : Int) : -100 ≤ longErr s bits ∧ longErr s bits ≤ 100 := by
  have h1 := bandErr_bd s
  unfold longErr
  split
  · omega
  · split
    · omega
    · split <;> omega
theorem unpL_few {b : List Nat} {s : List Int} {bits : Int} (hlt : ∀ x ∈ b, x < 256) : (unpL b s bits).length ≤ 100000000000000 ∧ ∀ p ∈ unpL b s bits, p.pulses.length ≤ 100000000000000 := by
  by_cases h0 : unpE b s bits = 0
  · have h := unpL_small hlt h0
    exact ⟨by omega, fun p hp => by have := (h.2.2 p hp).2; omega⟩
  · have e : unpL b s bits = [] := by unfold unpL; rw [if_neg h0]
    rw [e]
    simp
set_option maxHeartbeats 4000000 in
set_option maxRecDepth 1000000 in
theorem packTells_walk (w : World) (A0 : Option Addr) (n0 c0 : Nat) (ps : List Ph.Part) (h0 : RdP w w.heap.size A0 n0 ps) (hb0 : n0 ≤ c0 ∧ c0 ≤ 17592186044415) (hm0 : ∀ q ∈ ps, q.pulses.length ≤ 17592186044415 ∧ Is64 q.gain ∧ ∀ x ∈ q.pulses, Is64 x) (A1 : Option Addr) (n1 c1 : Nat) (s : List Int) (h1 : RdI w w.heap.size A1 n1 s) (hb1 : n1 ≤ c1 ∧ c1 ≤ 17592186044415) (_ : ∀ x ∈ s, Is64 x) (bits : Int) (b : ByteArray) (hsb : b.size ≤ 140737488351232) (hg : Laid w) :
    Calls Tryd.prog 5 #[.slice A0 n0 c0, .slice A1 n1 c1, .int .i64 bits, .string b] w fun e w' => e = .returned (.bool true) ∧ Below w.heap.size w w' := by
  have HG := Lib.hid hg
  have H0 := Lib.hid h0
  have H1 := Lib.hid h1
  have hn0 : n0 ≤ 100000000000000 := by omega
  have hn1 : n1 ≤ 100000000000000 := by omega
  have HP6 : Hid (∀ p ∈ ps, p.pulses.length ≤ 100000000000000) := Lib.hid fun p hp => by have := (hm0 p hp).1; omega
  have HRP := Lib.hid (rpack_any A0 n0 c0 ps A1 n1 c1 s bits w w.heap.size h0 h1 (Nat.le_refl _) hn0 hn1 HP6.out)
  have HPK := Lib.hid fun W (hb : Below w.heap.size w W) => pack_any A0 n0 c0 ps A1 n1 c1 s bits W w.heap.size (H0.out.below hb) (H1.out.below hb) hb.size hn0 hn1 HP6.out
  have HRU := Lib.hid fun W (hb : Below w.heap.size w W) => runpack_any b A1 n1 c1 s bits W w.heap.size (H1.out.below hb) hb.size hn1 hsb
  have HUN := Lib.hid fun W (hb : Below w.heap.size w W) => unpack_any b A1 n1 c1 s bits W w.heap.size (H1.out.below hb) hb.size hn1 hsb
  have HRB := Lib.hid fun W (hb : Below w.heap.size w W) => rbands_any A1 n1 c1 s W w.heap.size (H1.out.below hb) hn1
  have HLO := Lib.hid fun W (hb : Below w.heap.size w W) => long_any A1 n1 c1 s bits W w.heap.size (H1.out.below hb) hn1
  have HUF := Lib.hid (unpL_few (b := bytesOf b) (s := s) (bits := bits) (bytesOf_lt b))
  have HB1 := Lib.hid (packErr_bd ps s bits)
  have HB2 := Lib.hid (unpE_bd (bytesOf b) s bits)
  have HB3 := Lib.hid (longErr_bd s bits)
  have hL : longErr s bits = if Ph.bandErr s ≠ 0 then Ph.bandErr s else if bits < 0 ∨ 400 < bits then 1 else if 400 < 6 * (n1 : Int) + bits then 4 else 0 := by unfold longErr; rw [h1.len]
  have hN : longN s bits = if longErr s bits = 0 then (6 * (n1 : Int) + bits + 7) / 8 else 0 := by unfold longN; rw [h1.len]
  have hb8 : Ph.bandErr s = 0 → n1 ≤ 8 := fun h => by have := (Ph.bandErr_zero.1 h).2.1; have := h1.len; omega
  obtain ⟨PS, hPS⟩ : ∃ L, L = packS ps s bits := ⟨_, rfl⟩
  rw [← hPS] at HRP HPK
  obtain ⟨E1, hE1⟩ : ∃ E, E = Ph.packErr ps s bits := ⟨_, rfl⟩
  rw [← hE1] at HRP HPK HB1
  obtain ⟨L2, hL2⟩ : ∃ L, L = unpL (bytesOf b) s bits := ⟨_, rfl⟩
  rw [← hL2] at HRU HUN HUF
  obtain ⟨E2, hE2⟩ : ∃ E, E = unpE (bytesOf b) s bits := ⟨_, rfl⟩
  rw [← hE2] at HRU HUN HB2
  obtain ⟨N3, hN3⟩ : ∃ N, N = longN s bits := ⟨_, rfl⟩
  rw [← hN3] at HLO hN
  obtain ⟨E3, hE3⟩ : ∃ E, E = longErr s bits := ⟨_, rfl⟩
  rw [← hE3] at HLO hL hN HB3
  obtain ⟨BE, hBE⟩ : ∃ E, E = Ph.bandErr s := ⟨_, rfl⟩
  rw [← hBE] at HRB hL hb8
  obtain ⟨BN, hBN⟩ : ∃ E, E = bandN s := ⟨_, rfl⟩
  rw [← hBN] at HRB
  have HL := Lib.hid hL
  have HN := Lib.hid hN
  have H8 := Lib.hid hb8
  have hse := str_eq (rfl : PS = PS)
  clear h0 h1 hb0 hb1 hm0 hg hPS hE1 hL2 hE2 hN3 hE3 hBE hBN hL hN hb8 H0 H1 HP6
  go_enter Tryd.func5, Tryd.ntmps5
  go_wp2_with fail
  refine HRP.out.mono ?_
  rintro e w1 ⟨rfl, hb1⟩
  have HW1 := Lib.hid hb1
  clear hb1 HRP
  go_wp2_with fail
  refine (HPK.out _ HW1.out).mono ?_
  rintro e w2 ⟨rfl, hb2⟩
  have HW2 := Lib.hid (below_on HW1.out hb2)
  clear hb2 HW1 HPK
  go_wp2_with fail
  refine (herr_yes E1 _ (HG.out.below HW2.out) HB1.out).mono ?_
  rintro e w3 ⟨rfl, hb3⟩
  have HW3 := Lib.hid (below_on HW2.out hb3)
  clear hb3 HW2 HB1
  go_wp2_with fail
  refine (HRU.out _ HW3.out).mono ?_
  rintro e w4 ⟨A4, n4, c4, rfl, hr4, hb4⟩
  have HR4 := Lib.hid hr4
  have HW4 := Lib.hid (below_on HW3.out hb4)
  clear hr4 hb4 HW3 HRU
  go_wp2_with fail
  refine (HUN.out _ HW4.out).mono ?_
  rintro e w5 ⟨A5, n5, c5, rfl, ho5, hb5⟩
  have hnn : n5 = n4 := ho5.len.symm.trans HR4.out.len
  subst hnn
  have HR5 := Lib.hid ho5.rd
  have HR6 := Lib.hid (HR4.out.on hb5)
  have HW5 := Lib.hid (below_on HW4.out hb5)
  clear ho5 hb5 HW4 HR4 HUN
  go_wp2_with fail
  refine (herr_yes E2 _ (HG.out.below HW5.out) HB2.out).mono ?_
  rintro e w6 ⟨rfl, hb6⟩
  have HR7 := Lib.hid (HR5.out.on hb6)
  have HR8 := Lib.hid (HR6.out.on hb6)
  have HW6 := Lib.hid (below_on HW5.out hb6)
  have hn5 : n5 ≤ 100000000000000 := by have := HR7.out.len; have := HUF.out.1; omega
  clear hb6 HR5 HR6 HW5 HB2
  go_wp2_with fail
  refine (parts_same A5 A4 n5 c5 c4 L2 w6 _ _ HR7.out HR8.out hn5 HUF.out.2).mono ?_
  rintro e w7 ⟨rfl, q7, rfl⟩
  obtain ⟨W7, hW7⟩ : ∃ W, W = w6.drewN q7 := ⟨_, rfl⟩
  have HW7 : Hid (Below w.heap.size w W7) := Lib.hid (by rw [hW7]; exact below_drewN' HW6.out _)
  rw [← hW7]
  clear hW7 HR7 HR8 HW6 HUF hn5
  go_wp2_with fail
  refine (HRB.out _ HW7.out).mono ?_
  rintro e w8 ⟨rfl, rfl⟩
  clear HRB
  obtain ⟨q1, hq1⟩ : ∃ q, q = (decide (BE = 0) && (decide (bits < 0) || decide (400 < bits))) := ⟨_, rfl⟩
  have HQ := Lib.hid hq1
  clear hq1
  go_upto_region 9 with (fail)
  go_cut [78] (fun s78 wx => s78 = .bool q1 ∧ wx = W7)
  case first =>
    by_cases hE : BE = 0
    · have hEb : (BE == 0) = true := by simp [hE]
      by_cases hb1 : bits < 0
      · obtain rfl : q1 = true := by rw [HQ.out]; simp [hE, hb1]
        clear hE
        go_wp2_with fail
        go_meet
        case rel => exact ⟨rfl, rfl⟩
      · by_cases hb2 : 400 < bits
        · obtain rfl : q1 = true := by rw [HQ.out]; simp [hE, hb1, hb2]
          clear hE
          go_wp2_with fail
          go_meet
          case rel => exact ⟨rfl, rfl⟩
        · obtain rfl : q1 = false := by rw [HQ.out]; simp [hE, hb1, hb2]
          clear hE
          go_wp2_with fail
          go_meet
          case rel => exact ⟨rfl, rfl⟩
    · have hEb : (BE == 0) = false := by simp [hE]
      obtain rfl : q1 = false := by rw [HQ.out]; simp [hE]
      clear hE
      go_wp2_with fail
      go_meet
      case rel => exact ⟨rfl, rfl⟩
  case rest =>
    obtain ⟨rfl, rfl⟩ := hcut
    rename World => W7
    go_upto_if 78 with (fail)
    go_cut [10, 17] (fun s10 s17 wx => s10 = .int .i64 E3 ∧ s17 = .int .i64 N3 ∧ wx = W7)
    case first =>
      by_cases hE : BE = 0
      · have hEb : (BE == 0) = true := by simp [hE]
        have h8 := H8.out hE
        have HE := Lib.hid hE
        by_cases hb1 : bits < 0
        · obtain rfl : q1 = true := by rw [HQ.out]; simp [hE, hb1]
          have HE3 : Hid (E3 = 1 ∧ N3 = 0) := Lib.hid (by
            have h : E3 = 1 := by rw [HL.out, if_neg (by omega), if_pos (.inl hb1)]
            exact ⟨h, by rw [HN.out, if_neg (by omega)]⟩)
          clear hE
          go_wp2_with fail
          go_meet
          case rel => exact ⟨by rw [HE3.out.1], by rw [HE3.out.2], rfl⟩
        · by_cases hb2 : 400 < bits
          · obtain rfl : q1 = true := by rw [HQ.out]; simp [hE, hb1, hb2]
            have HE3 : Hid (E3 = 1 ∧ N3 = 0) := Lib.hid (by
              have h : E3 = 1 := by rw [HL.out, if_neg (by omega), if_pos (.inr hb2)]
              exact ⟨h, by rw [HN.out, if_neg (by omega)]⟩)
            clear hE
            go_wp2_with fail
            go_meet
            case rel => exact ⟨by rw [HE3.out.1], by rw [HE3.out.2], rfl⟩
          · obtain rfl : q1 = false := by rw [HQ.out]; simp [hE, hb1, hb2]
            have hl1 := HL.out
            rw [if_neg (by omega), if_neg (by omega)] at hl1
            have hl2 := HN.out
            have k0 : IntKind.i64.wrap (6 * (n1 : Int)) = 6 * (n1 : Int) := IntWalk.i64_in _ (by omega)
            obtain ⟨X, hX⟩ : ∃ X, X = 6 * (n1 : Int) + bits := ⟨_, rfl⟩
            have k1 : IntKind.i64.wrap (6 * (n1 : Int) + bits) = X := by rw [hX]; exact IntWalk.i64_in _ (by omega)
            have hX0 : 0 ≤ X ∧ X ≤ 1000 := by omega
            rw [← hX] at hl1 hl2
            by_cases h4 : 400 < X
            · rw [if_pos h4] at hl1
              rw [if_neg (by omega)] at hl2
              have HE3 := Lib.hid (And.intro hl1 hl2)
              clear hE hl1 hl2 hX
              go_wp2_with fail
              go_meet
              case rel => exact ⟨by rw [HE3.out.1], by rw [HE3.out.2], rfl⟩
            · rw [if_neg h4] at hl1
              rw [if_pos hl1] at hl2
              have k2 : IntKind.i64.wrap (X + 7) = X + 7 := IntWalk.i64_in _ (by omega)
              have k4 : (X + 7).tdiv 8 = (X + 7) / 8 := Int.tdiv_eq_ediv_of_nonneg (by omega)
              obtain ⟨Y, hY⟩ : ∃ Y, Y = (X + 7) / 8 := ⟨_, rfl⟩
              have k5 : IntKind.i64.wrap Y = Y := IntWalk.i64_in _ (by omega)
              rw [← hY] at k4 hl2
              have HE3 := Lib.hid (And.intro hl1 hl2)
              clear hE hl1 hl2 hX hY
              go_wp2_with fail
              go_meet
              case rel => exact ⟨by rw [HE3.out.1, HE.out], by rw [HE3.out.2], rfl⟩
      · have hEb : (BE == 0) = false := by simp [hE]
        obtain rfl : q1 = false := by rw [HQ.out]; simp [hE]
        have HE3 : Hid (E3 = BE ∧ N3 = 0) := Lib.hid (by
          have h : E3 = BE := by rw [HL.out, if_pos hE]
          exact ⟨h, by rw [HN.out, if_neg (by omega)]⟩)
        clear hE
        go_wp2_with fail
        go_meet
        case rel => exact ⟨by rw [HE3.out.1], by rw [HE3.out.2], rfl⟩
    case rest =>
      obtain ⟨rfl, rfl, rfl⟩ := hcut
      clear HL HN H8
      have hnb : (N3 == N3) = true := by simp
      go_wp2_with fail
      refine (HLO.out _ HW7.out).mono ?_
      rintro e w9 ⟨rfl, rfl⟩
      go_wp2_with fail
      refine (herr_yes E3 _ (HG.out.below HW7.out) HB3.out).mono ?_
      rintro e w10 ⟨rfl, hb10⟩
      have HW10 := Lib.hid (below_on HW7.out hb10)
      clear hb10 HB3 HW7
      go_wp2_with fail
      go_ret
      exact ⟨ret_true (by simp), HW10.out⟩
end Go.Proofs.YtlilommhdjdblaaDoor
