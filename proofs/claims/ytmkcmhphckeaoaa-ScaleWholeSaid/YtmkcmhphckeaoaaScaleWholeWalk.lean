/- The walk of the law ScaleWhole. -/
import Derived.Test.YtmkcmhphckeaoaaScale2
import Derived.Test.YtmkcmhphckeaoaaOpen
namespace Go.Proofs.Ytmkcmhphckeaoaa
open Go.RowKit

theorem fact_scale : Ph.scaled [1, 0, 3] = [64, 0, 192] := by decide +kernel
set_option maxHeartbeats 1000000 in
theorem scaleWhole_walk (w : World) (A : Option Addr) (n c : Nat) (l : List Int) (h : RdI w w.heap.size A n l) (hb : n ≤ c ∧ c ≤ 17592186044415) (_ : ∀ x ∈ l, Is64 x) (a : Int) :
    Calls Try.prog 6 #[.slice A n c, .int .i64 a] w fun e w' => e = .returned (.bool true) ∧ Below w.heap.size w w' := by
  have HL := Lib.hid h.len
  have H := Lib.hid h
  have HF := Lib.hid (sof_ok _ 3 3 [1, 0, 3] _ _ (RdI.lit' w [1, 0, 3] 3 #[.int .i64 1, .int .i64 0, .int .i64 3] rfl) (Nat.le_refl _) (by decide +kernel))
  rw [fact_scale] at HF
  have hn := hb.2
  have hnc := hb.1
  clear h hb
  by_cases h0 : scaleErr l = 0
  · have hz := scaleErr_zero.1 h0
    have hlen := (Ph.scaled_ok hz.2.1 (fun x hx => (hz.2.2.1 x hx).1) hz.2.2.2).1
    have HS := Lib.hid (scaled_shares h0)
    have HSO := Lib.hid fun W hW hBW => sof_ok A n c l W w.heap.size hW hBW h0
    have HZ := Lib.hid hz
    have HLN := Lib.hid hlen
    obtain ⟨f, hf⟩ : ∃ f, f = Ph.scaled l := ⟨_, rfl⟩
    rw [← hf] at HS HSO HLN
    have hfl : f.length = n := HLN.out.1.trans HL.out
    have HFL := Lib.hid hfl
    have hn40 : n ≤ 40 := by have := hz.2.1; have := HL.out; omega
    clear h0 hz hlen hf hfl
    go_enter Try.func6, Try.ntmps6
    go_wp2_with fail
    refine HF.out.mono ?_
    rintro e w1 ⟨A1, c1, rfl, ho1, hb1⟩
    have hR1 := RdI.own ho1
    obtain ⟨b1, o1, rfl, _, hc1⟩ := hR1.2 (by decide)
    have d0 : w1.cell? ⟨b1, o1, none⟩ = some (.int .i64 64) := hc1 0 (by decide)
    have d1 : w1.cell? ⟨b1, o1 + 1, none⟩ = some (.int .i64 0) := hc1 1 (by decide)
    have d2 : w1.cell? ⟨b1, o1 + 2, none⟩ = some (.int .i64 192) := hc1 2 (by decide)
    have HB1 := Lib.hid (below_on (below_alloc0 w (.cells #[.int .i64 1, .int .i64 0, .int .i64 3] 3)) hb1)
    clear hc1 hR1 ho1 hb1 HF
    go_wp2_with fail
    refine (HSO.out _ (H.out.below HB1.out) HB1.out.size).mono ?_
    rintro e w2 ⟨A2, c2, rfl, ho2, hb2⟩
    rw [HFL.out] at ho2 ⊢
    have HO2 := Lib.hid ho2
    have HB2 := Lib.hid (below_on HB1.out hb2)
    have HR2 := Lib.hid (H.out.below HB2.out)
    clear d0 d1 d2 ho2 hb2 HSO HB1
    go_wp2_with fail
    go_loopw [9, 10] (fun s i wr => ∃ k q : Nat, k ≤ n ∧ i = .int .i64 k ∧ s = .int .i64 (Ph.total (f.take k)) ∧ wr = w2.drewN q) (fun _ i _ => n - (intOf i).toNat)
    case atStart => exact ⟨0, 0, Nat.zero_le _, rfl, rfl, rfl⟩
    case round =>
      obtain ⟨k, q, hk, rfl, rfl, rfl⟩ := hrel
      by_cases hlt : k < n
      · obtain ⟨b, off, rfl, _, hc⟩ := HR2.out.at_ hlt
        obtain ⟨b3, o3, rfl, _, hc3⟩ := (RdI.own HO2.out).at_ hlt
        have hkl : k < l.length := by rw [HL.out]; exact hlt
        have hkf : k < f.length := by rw [HFL.out]; exact hlt
        have hfit := HLN.out.2 k hkl
        have hx1 := HS.out.2.2.1 _ (Ph.getD_mem (l := f) (i := k) hkf)
        have hp := pre_bd HS.out k
        unfold Ph.pre at hp
        have hs : Hid (Ph.total (f.take (k + 1)) = Ph.total (f.take k) + f.getD k 0) := Lib.hid (by rw [Ph.take_snoc f k hkf, Ph.total_snoc])
        obtain ⟨x, hxe⟩ : ∃ x, x = l.getD k 0 := ⟨_, rfl⟩
        obtain ⟨y, hye⟩ : ∃ y, y = f.getD k 0 := ⟨_, rfl⟩
        rw [← hxe] at hc hfit
        rw [← hye] at hc3 hfit hs hx1
        have hor : (0 < y ∧ 0 < x) ∨ (y = 0 ∧ ¬ 0 < x) := by have := hfit.2; omega
        have hlt1 : (k : Int) < (n : Int) := by omega
        clear hxe hye hkl hkf hfit
        rcases hor with ⟨y1, x1⟩ | ⟨y1, x1⟩
        · have y2 : ¬ y < 0 := by omega
          have y3 : decide (y < 0) = false := by simpa using y2
          go_wp2_with fail
          go_quiet (fail)
          go_wp2_with fail
          go_roundw
          case rel => exact ⟨k + 1, q + nq, by omega, by go_num, by rw [hs.out], rfl⟩
          case measure => simp [intOf]; omega
        · subst y1
          have x2 : decide (0 < x) = false := by simpa using x1
          go_wp2_with fail
          go_quiet (fail)
          go_wp2_with fail
          go_roundw
          case rel => exact ⟨k + 1, q + nq, by omega, by go_num, by rw [hs.out]; simp, rfl⟩
          case measure => simp [intOf]; omega
      · obtain rfl : k = n := by omega
        have hall : f.take k = f := List.take_of_length_le (by rw [HFL.out]; omega)
        rw [hall, HS.out.2.2.2]
        have HST := Lib.hid (starts_ok A2 k c2 f (w2.drewN q) w2.heap.size (RdI.own HO2.out) (by simp) HS.out)
        rw [show FreshI 3 (begins f) (w2.drewN q) = fun e w' => FreshI 3 (begins f) (w2.drewN q) e w' from rfl] at HST
        clear hall
        go_wp2_with fail
        refine HST.out.mono ?_
        rintro e w3 ⟨A3, c3, rfl, ho3, hb3⟩
        rw [begins_length, HFL.out] at ho3 ⊢
        have HO3 := Lib.hid ho3
        have HB3 := Lib.hid (below_on (below_drewN' HB2.out q) hb3)
        have HR3 : Hid (RdI w3 w2.heap.size A2 k f) := Lib.hid ((RdI.own HO2.out : RdI (w2.drewN q) w2.heap.size A2 k f).below hb3)
        clear ho3 hb3 HST
        have HFD := Lib.hid fun W hW => find_any A2 k c2 f a W w2.heap.size hW (by omega)
        by_cases ha : 0 ≤ a ∧ a < 256
        · have e : findErr f a = 0 := by unfold findErr; rw [if_neg (by rw [shErr_zero.2 HS.out]; simp), if_neg (by omega)]
          rw [e, errV_of rfl, if_pos rfl] at HFD
          have hsp := Ph.atL_spec f a ha.1 (by have := HS.out.2.2.2; omega)
          obtain ⟨X, hX⟩ : ∃ X, X = Ph.atL f a := ⟨_, rfl⟩
          rw [← hX] at HFD hsp
          have hXk : X < k := by have := hsp.1; have := HFL.out; omega
          have hpx := pre_bd HS.out X
          have hx1 := HS.out.2.2.1 _ (Ph.getD_mem (l := f) (i := X) (by rw [HFL.out]; exact hXk))
          have hpp := Ph.pre_succ f X (by rw [HFL.out]; exact hXk)
          obtain ⟨b4, o4, hA4, _, hc4⟩ := HR3.out.at_ hXk
          obtain ⟨b5, o5, rfl, _, hc5⟩ := (RdI.own HO3.out).at_ hXk
          rw [begins_getD f X (by rw [HFL.out]; exact hXk)] at hc5
          obtain ⟨y, hye⟩ : ∃ y, y = f.getD X 0 := ⟨_, rfl⟩
          obtain ⟨p, hpe⟩ : ∃ p, p = Ph.pre f X := ⟨_, rfl⟩
          rw [← hye] at hc4 hpp hx1
          rw [← hpe] at hc5 hpp hpx hsp
          rw [hpp] at hsp
          have hs1 := hsp.2.1
          have hs2 := hsp.2.2
          have k1 : IntKind.i64.wrap (p + y) = p + y := IntWalk.i64_in _ (by omega)
          have k2 : (X : Int) < (k : Int) := by omega
          have k3 : (0 : Int) ≤ (X : Int) := by omega
          clear e ha hX hsp hye hpe hpp
          subst hA4
          go_wp2_with fail
          refine (HFD.out _ HR3.out).mono ?_
          rintro e wk ⟨rfl, rfl⟩
          go_wp2_with fail
          go_quiet (fail)
          go_wp2_with fail
          go_ret
          exact ⟨ret_true (by simp), below_drewN' HB3.out _⟩
        · have e : findErr f a = 1 := by unfold findErr; rw [if_neg (by rw [shErr_zero.2 HS.out]; simp), if_pos (by omega)]
          rw [e, errV_ne (by omega), if_neg (by omega)] at HFD
          have hor : a < 0 ∨ (¬ a < 0 ∧ 255 < a) := by omega
          clear e ha
          rcases hor with a1 | ⟨a1, a2⟩
          all_goals
            go_wp2_with fail
            refine (HFD.out _ HR3.out).mono ?_
            rintro e wk ⟨rfl, rfl⟩
            go_wp2_with fail
            go_ret
            exact ⟨ret_true (by simp), HB3.out⟩
  · have HSN := Lib.hid fun W hW => sof_no A n c l W w.heap.size hW (by omega) h0
    have he := errV_ne h0
    rw [he] at HSN
    clear h0 he
    go_enter Try.func6, Try.ntmps6
    go_wp2_with fail
    refine HF.out.mono ?_
    rintro e w1 ⟨A1, c1, rfl, ho1, hb1⟩
    have hR1 := RdI.own ho1
    obtain ⟨b1, o1, rfl, _, hc1⟩ := hR1.2 (by decide)
    have d0 : w1.cell? ⟨b1, o1, none⟩ = some (.int .i64 64) := hc1 0 (by decide)
    have d1 : w1.cell? ⟨b1, o1 + 1, none⟩ = some (.int .i64 0) := hc1 1 (by decide)
    have d2 : w1.cell? ⟨b1, o1 + 2, none⟩ = some (.int .i64 192) := hc1 2 (by decide)
    have HB1 := Lib.hid (below_on (below_alloc0 w (.cells #[.int .i64 1, .int .i64 0, .int .i64 3] 3)) hb1)
    clear hc1 hR1 ho1 hb1 HF
    go_wp2_with fail
    refine (HSN.out _ (H.out.below HB1.out)).mono ?_
    rintro e wk ⟨rfl, rfl⟩
    go_wp2_with fail
    go_ret
    exact ⟨rfl, HB1.out⟩
end Go.Proofs.Ytmkcmhphckeaoaa
