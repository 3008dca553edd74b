/- The walk of the law HornBack. -/
import Derived.Test.YtomaipmmjngdlaaDoorTold
import Derived.Test.YtomaipmmjngdlaaDoorHornE
import Derived.Test.YtomaipmmjngdlaaDoorOpen
import Derived.Test.YtomaipmmjngdlaaDoorErrQ
import Derived.Deep.DeepCutAuto
import Derived.Deep.CutBlock
import Derived.Deep.Cut
namespace Go.Proofs.YtomaipmmjngdlaaDoor
open Go.RowKit

theorem decE_zero {f : List Int} {b : List Nat} {m : Int} (h : decE f b m = 0) : shErr f = 0 ∧ 0 ≤ m ∧ m ≤ 60 ∧ ∃ l x r, Ph.heard f b m.toNat = some (l, x, r) ∧ Ph.bytes f l = b ∧ decL f b m = l ∧ l.length = m.toNat ∧ hornErr f l = 0 := by
  have h' := h
  unfold decE at h
  by_cases h0 : shErr f = 0
  · rw [if_neg (by omega)] at h
    by_cases hm : m < 0 ∨ 60 < m
    · rw [if_pos hm] at h; omega
    · rw [if_neg hm] at h
      cases hH : Ph.heard f b m.toNat with
      | none =>
        have hR : decR f b m.toNat = none := by unfold decR; rw [hH]; rfl
        rw [hR] at h; simp at h
      | some q =>
        obtain ⟨l, x, r⟩ := q
        by_cases hq : Ph.bytes f l = b
        · have hR : decR f b m.toNat = some l := by unfold decR; rw [hH]; simp [hq]
          obtain ⟨hg, hl⟩ := heard_good (shErr_zero.1 h0) hH
          exact ⟨h0, by omega, by omega, l, x, r, rfl, hq, by unfold decL; rw [if_pos h', hR]; rfl, hl, hornErr_zero.2 ⟨shErr_zero.1 h0, by omega, hg⟩⟩
        · have hR : decR f b m.toNat = none := by unfold decR; rw [hH]; simp [hq]
          rw [hR] at h; simp at h
  · rw [if_pos h0] at h; omega
theorem decE_bytes {f l : List Int} (h : hornErr f l = 0) : decE f (Ph.bytes f l) l.length = 0 ∧ decL f (Ph.bytes f l) l.length = l := by
  obtain ⟨hf, hl, hg⟩ := hornErr_zero.1 h
  have hs := shErr_zero.2 hf
  have hH := Ph.heard_bytes hf hg
  have hR : decR f (Ph.bytes f l) l.length = some l := by unfold decR; rw [hH]; simp
  have hE : decE f (Ph.bytes f l) l.length = 0 := by
    unfold decE; rw [if_neg (by omega), if_neg (by omega), Int.toNat_natCast, hR]; rfl
  exact ⟨hE, by unfold decL; rw [if_pos hE, Int.toNat_natCast, hR]; rfl⟩
theorem decE_more {f l : List Int} (h : hornErr f l = 0) (h60 : l.length < 60) (ha : ∀ x ∈ f, x ≠ 256) : decE f (Ph.bytes f l) ((l.length : Int) + 1) = 2 := by
  obtain ⟨hf, hl, hg⟩ := hornErr_zero.1 h
  have hs := shErr_zero.2 hf
  have hH := Ph.heard_more hf hg ha
  have hR : decR f (Ph.bytes f l) (l.length + 1) = none := by unfold decR; rw [hH]; rfl
  unfold decE
  rw [if_neg (by omega), if_neg (by omega), show ((l.length : Int) + 1).toNat = l.length + 1 by omega, hR]; rfl
/-- Has one sign all, of the first k? -/
def oneAll (f : List Int) (k : Nat) : Bool := (f.take k).any fun x => x == 256
theorem oneAll_succ {f : List Int} {k : Nat} (h : k < f.length) : oneAll f (k + 1) = (oneAll f k || f.getD k 0 == 256) := by
  unfold oneAll
  rw [List.take_add_one, List.getElem?_eq_getElem h, List.getD_eq_getElem?_getD, List.getElem?_eq_getElem h, List.any_append]
  simp
theorem oneAll_false {f : List Int} (h : oneAll f f.length = false) : ∀ x ∈ f, x ≠ 256 := by
  unfold oneAll at h
  rw [List.take_length, List.any_eq_false] at h
  intro x hx
  simpa using h x hx
set_option maxHeartbeats 4000000 in
set_option maxRecDepth 1000000 in
theorem hornBack_walk (w : World) (A1 : Option Addr) (n1 c1 : Nat) (f : List Int) (h1 : RdI w w.heap.size A1 n1 f) (hb1 : n1 ≤ c1 ∧ c1 ≤ 17592186044415) (_ : ∀ x ∈ f, Is64 x) (A2 : Option Addr) (n2 c2 : Nat) (l : List Int) (h2 : RdI w w.heap.size A2 n2 l) (hb2 : n2 ≤ c2 ∧ c2 ≤ 17592186044415) (_ : ∀ x ∈ l, Is64 x) (s : ByteArray) (_ : s.size ≤ 140737488351232) (m : Int) (hg : Laid w) :
    Calls Tryd.prog 5 #[.slice A1 n1 c1, .slice A2 n2 c2, .string s, .int .i64 m] w fun e w' => e = .returned (.bool true) ∧ Below w.heap.size w w' := by
  have HG := Lib.hid hg
  have H1 := Lib.hid h1
  have H2 := Lib.hid h2
  have HL2 := Lib.hid h2.len
  have HL1 := Lib.hid h1.len
  have hn1 : n1 ≤ 100000000000000 := by omega
  have hz0 : hornErr [256] [0, 0] = 0 := by decide +kernel
  have hes0 : encS [256] [0, 0] = ⟨#[1, 0, 0]⟩ := by unfold encS; rw [if_pos hz0]; decide +kernel
  have HE0 := Lib.hid fun W A1 A2 hW1 hW2 => hencode_any A1 1 1 [256] A2 2 2 [0, 0] W W.heap.size hW1 hW2 (Nat.le_refl _) (by omega) (by omega)
  rw [hz0, hes0, errV_zero] at HE0
  have HD1 := Lib.hid fun W hW hBW => hdecode_any A1 n1 c1 f s m W w.heap.size hW hBW hn1
  have HEX := Lib.hid fun A n c x W hW1 (hW2 : RdI W W.heap.size A n x) (hc : n ≤ c) (hBW : w.heap.size ≤ W.heap.size) => hencode_any A1 n1 c1 f A n c x W W.heap.size (RdI.more hW1 hBW) hW2 (Nat.le_refl _) hn1 hc
  have HEL := Lib.hid fun W hW1 hW2 hBW => hencode_any A1 n1 c1 f A2 n2 c2 l W w.heap.size hW1 hW2 hBW hn1 hb2.1
  have HMO := Lib.hid fun W hW1 hW2 => hmost_told A1 n1 c1 f A2 n2 c2 l W w.heap.size hW1 hW2 hn1
  have hE1 := fun h => decE_zero (f := f) (b := bytesOf s) (m := m) h
  have HE1 := Lib.hid hE1
  obtain ⟨E1, he1⟩ : ∃ E, E = decE f (bytesOf s) m := ⟨_, rfl⟩
  obtain ⟨X1, hx1⟩ : ∃ X, X = decL f (bytesOf s) m := ⟨_, rfl⟩
  rw [← he1, ← hx1] at HD1
  rw [← he1, ← hx1] at HE1
  clear h1 h2 hb1 hb2 hg hz0 hes0 he1 hx1 hE1
  go_enter Tryd.func5, Tryd.ntmps5
  go_wp2_with fail
  refine (HE0.out _ _ _ ((RdI.lit' w [256] 3 #[.int .i64 256] (by rfl)).onAlloc _) (RdI.litAt (w.alloc (.cells #[.int .i64 256] 3)) (w.heap.size + 1) (by simp) [0, 0] 3 #[.int .i64 0, .int .i64 0] (by rfl))).mono ?_
  rintro e w1 ⟨rfl, hb⟩
  have HB1 := Lib.hid (below_on (below_onAlloc (below_alloc0 w _) _) hb)
  clear hb HE0
  go_wp2_with fail
  refine (HD1.out _ (H1.out.below HB1.out) HB1.out.size).mono ?_
  rintro e w2 ⟨A3, n3, c3, rfl, hn3, hc3, hr3, hb⟩
  have HR3 := Lib.hid hr3
  have HB2 := Lib.hid (below_on HB1.out hb)
  have hq1 := errV_eql E1
  have hg1 := errV_geql E1
  clear hb hr3 HB1 HD1
  go_upto_if 44 with (fail)
  go_cut [12, 13, 14] (fun _ _ _ wx => Hid (Below w.heap.size w wx))
  case first =>
    by_cases hE : E1 = 0
    · obtain ⟨_, hm0, hm60, l', x', r', _, hby, hdl, hlen, hhe⟩ := HE1.out hE
      have hxl : X1 = l' := hdl
      have hen : encS f X1 = s := by
        unfold encS; rw [hxl, if_pos hhe, hby, strB_bytesOf]
      have hX := HEX.out A3 n3 c3 X1 w2 (H1.out.below HB2.out) HR3.out hc3 HB2.out.size
      rw [hen] at hX
      rw [hxl, hhe, errV_zero] at hX
      have HX := Lib.hid hX
      have hn3m : (n3 : Int) = m := by
        have := HR3.out.len
        rw [hxl] at this; omega
      subst hn3m
      have hEb : (E1 == 0) = true := by simp [hE]
      have j1 : ((n3 : Int) != (n3 : Int)) = false := by simp
      clear hE hby hdl hlen hhe hxl hen hX HE1 hm0 hm60
      go_wp2_with fail
      refine HX.out.mono ?_
      rintro e w3 ⟨rfl, hb⟩
      have HB3 := Lib.hid (below_on HB2.out hb)
      clear hb
      go_wp2_with fail
      go_meet
      case rel => exact HB3
    · have hEb : (E1 == 0) = false := by simp [hE]
      clear hE HE1
      go_wp2_with fail
      go_meet
      case rel => exact HB2
  case rest =>
    have HB3 := hcut
    clear hq1 hg1 HE1 HB2 HR3
    by_cases h0 : hornErr f l = 0
    · have hz := hornErr_zero.1 h0
      have hes : encS f l = strB (Ph.bytes f l) := by unfold encS; rw [if_pos h0]
      have hbl := Ph.bytes_le hz.1 hz.2.1 hz.2.2
      have hbt := bytesOf_strB (Ph.bytes_lt hz.1 hz.2.2)
      have hde := decE_bytes h0
      have hmo := fun h60 ha => decE_more h0 h60 ha
      have hn60 : n2 ≤ 60 := by rw [← HL2.out]; exact hz.2.1
      obtain ⟨S, hS⟩ : ∃ S, S = strB (Ph.bytes f l) := ⟨_, rfl⟩
      rw [← hS] at hes hbt
      have hsz : S.size = (Ph.bytes f l).length := by rw [hS]; simp [strB, ByteArray.size]
      have HD1 := Lib.hid fun W hW hBW => hdecode_any A1 n1 c1 f S (n2 : Int) W w.heap.size hW hBW hn1
      have HD2 := Lib.hid fun W hW hBW => hdecode_any A1 n1 c1 f S ((n2 : Int) + 1) W w.heap.size hW hBW hn1
      rw [hbt] at HD1 HD2
      rw [HL2.out] at hde hmo
      rw [hde.1, hde.2, errV_zero] at HD1
      have HEL1 := HEL
      rw [h0, hes, errV_zero] at HEL1
      have HMO1 := HMO
      rw [h0, if_pos rfl, errV_zero] at HMO1
      obtain ⟨N, hN⟩ : ∃ N : Int, N = 4 + ((Ph.needs f l : Nat) : Int) / 8 := ⟨_, rfl⟩
      rw [← hN] at HMO1
      have hs1 : ¬ ((S.size : Int) < 3) := by rw [hsz]; omega
      have hs2 : ¬ (N < (S.size : Int)) := by rw [hsz, hN]; omega
      obtain ⟨E3, hE3⟩ : ∃ E, E = decE f (Ph.bytes f l) ((n2 : Int) + 1) := ⟨_, rfl⟩
      rw [← hE3] at HD2
      have HMR : Hid (n2 < 60 → oneAll f n1 = false → E3 = 2) := Lib.hid fun a b => by rw [hE3]; exact hmo a (oneAll_false (by rw [HL1.out]; exact b))
      clear h0 hz hes hbl hbt hde hmo hS hsz hN hE3 HEL HMO
      go_wp2_with fail
      refine (HEL1.out _ (H1.out.below HB3.out) (H2.out.below HB3.out) HB3.out.size).mono ?_
      rintro e w4 ⟨rfl, hb⟩
      have HB4 := Lib.hid (below_on HB3.out hb)
      clear hb HB3 HEL1
      go_wp2_with fail
      refine (HD1.out _ (H1.out.below HB4.out) HB4.out.size).mono ?_
      rintro e w5 ⟨A5, n5, c5, rfl, hn5, hc5, hr5, hb⟩
      have HB5 := Lib.hid (below_on HB4.out hb)
      have HR5 := Lib.hid hr5
      clear hb hr5 HB4 HD1
      go_wp2_with fail
      refine (HMO1.out _ (H1.out.below HB5.out) (H2.out.below HB5.out)).mono ?_
      rintro e wk ⟨rfl, rfl⟩
      go_wp2_with fail
      refine (ints_any A5 A2 n5 c5 n2 c2 _ _ _ _ _ HR5.out (H2.out.below HB5.out) (Nat.le_refl _) HB5.out.size (by omega)).mono ?_
      rintro e w6 ⟨rfl, hb⟩
      have HB6 := Lib.hid (below_on HB5.out hb)
      rw [sameI_true.2 rfl]
      have H1W := Lib.hid (H1.out.below HB6.out)
      clear hb HB5 HR5 HMO1
      go_wp2_with fail
      go_loop [20, 21] (fun al i => ∃ k : Nat, k ≤ n1 ∧ i = .int .i64 k ∧ al = .bool (oneAll f k)) (fun _ i => n1 - (intOf i).toNat)
      case atStart => exact ⟨0, Nat.zero_le _, rfl, by simp [oneAll]⟩
      case round =>
        obtain ⟨k, hk, rfl, rfl⟩ := hrel
        by_cases hlt : k < n1
        · obtain ⟨b, off, rfl, _, hc⟩ := H1W.out.at_ hlt
          have hst := oneAll_succ (f := f) (k := k) (by rw [HL1.out]; exact hlt)
          obtain ⟨x, hx⟩ : ∃ x, x = f.getD k 0 := ⟨_, rfl⟩
          rw [← hx] at hc hst
          obtain ⟨a, ha⟩ : ∃ a, a = oneAll f k := ⟨_, rfl⟩
          rw [← ha] at hst ⊢
          have HST := Lib.hid hst
          have hlt' : (k : Int) < (n1 : Int) := by omega
          clear hst hx ha
          cases a with
          | true =>
            go_wp2_with fail
            go_round
            case rel => exact ⟨k + 1, by omega, by go_num, by rw [HST.out]; rfl⟩
            case measure => simp [intOf]; omega
          | false =>
            go_wp2_with fail
            go_round
            case rel => exact ⟨k + 1, by omega, by go_num, by rw [HST.out]; simp⟩
            case measure => simp [intOf]; omega
        · obtain rfl : k = n1 := by omega
          obtain ⟨a, ha⟩ : ∃ a, a = oneAll f k := ⟨_, rfl⟩
          rw [← ha] at HMR ⊢
          have k1 : IntKind.i64.wrap ((n2 : Int) + 1) = (n2 : Int) + 1 := IntWalk.i64_in _ (by omega)
          clear ha
          go_wp2_with fail
          refine (HD2.out _ H1W.out HB6.out.size).mono ?_
          rintro e w7 ⟨A7, n7, c7, rfl, _, _, _, hb⟩
          have HB7 := Lib.hid (below_on HB6.out hb)
          clear hb
          cases a with
          | true =>
            go_wp2_with fail
            go_ret
            exact ⟨rfl, HB7.out⟩
          | false =>
            by_cases h60 : 60 ≤ n2
            · have h60' : (60 : Int) ≤ (n2 : Int) := by omega
              go_wp2_with fail
              go_ret
              exact ⟨rfl, HB7.out⟩
            · have h60' : ¬ (60 : Int) ≤ (n2 : Int) := by omega
              have he3 := HMR.out (by omega) rfl
              rw [he3]
              clear he3 HMR
              go_wp2_with fail
              refine (herr_yes 2 _ (HG.out.below HB7.out) (by omega)).mono ?_
              rintro e w8 ⟨rfl, hb⟩
              have HB8 := Lib.hid (below_on HB7.out hb)
              clear hb
              go_wp2_with fail
              go_ret
              exact ⟨rfl, HB8.out⟩
    · have HEL1 := HEL
      rw [errV_ne h0] at HEL1
      clear h0 HEL HMO
      go_wp2_with fail
      refine (HEL1.out _ (H1.out.below HB3.out) (H2.out.below HB3.out) HB3.out.size).mono ?_
      rintro e w4 ⟨rfl, hb⟩
      have HB4 := Lib.hid (below_on HB3.out hb)
      clear hb HB3 HEL1
      go_wp2_with fail
      go_ret
      exact ⟨rfl, HB4.out⟩
end Go.Proofs.YtomaipmmjngdlaaDoor
