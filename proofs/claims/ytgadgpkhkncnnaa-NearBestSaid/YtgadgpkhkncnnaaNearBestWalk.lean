/- The walk of the law NearBest. -/
import Derived.Test.YtgadgpkhkncnnaaNear3
import Derived.Test.YtgadgpkhkncnnaaOpen
namespace Go.Proofs.Ytgadgpkhkncnnaa
open Go.RowKit

set_option maxHeartbeats 4000000 in
set_option maxRecDepth 1000000 in
theorem nearBest_walk (w : World) (A : Option Addr) (n c : Nat) (v : List Int) (h : RdI w w.heap.size A n v) (hb : n ≤ c ∧ c ≤ 17592186044415) (_ : ∀ x ∈ v, Is64 x) (k r : Int) :
    Calls Try.prog 10 #[.slice A n c, .int .i64 k, .int .i64 r] w fun e w' => e = .returned (.bool true) ∧ Below w.heap.size w w' := by
  have hf0 : nearOfErr [5, -3, 1] 4 = 0 := by decide +kernel
  have hf1 : Ph.near [5, -3, 1] 4 = [2, -1, 1] := by decide +kernel
  have hm := nearOf_ok _ 3 3 [5, -3, 1] 4 _ _ (RdI.lit' w [5, -3, 1] 3 #[.int .i64 5, .int .i64 (-3), .int .i64 1] rfl) (Nat.le_refl _) hf0
  rw [hf1] at hm
  have HM := Lib.hid hm
  have H := Lib.hid (h.onAlloc (.cells #[.int .i64 5, .int .i64 (-3), .int .i64 1] 3))
  have HB := Lib.hid (below_alloc0 w (.cells #[.int .i64 5, .int .i64 (-3), .int .i64 1] 3))
  have HL := Lib.hid h.len
  have HN := Lib.hid fun W hW => nearOf_no A n c v k W W.heap.size hW (Nat.le_refl _) (by omega)
  clear h hf0 hf1 hm
  go_enter Try.func10, Try.ntmps10
  go_wp2_with fail
  refine HM.out.mono ?_
  rintro e w1 ⟨A0, c0, rfl, hown, hbw⟩
  obtain ⟨g, rfl, _, _⟩ := own_form hown (by decide)
  have q0 := hown.cellAt 0 (by decide)
  have q1 := hown.cellAt 1 (by decide)
  have q2 := hown.cellAt 2 (by decide)
  have f0 : w1.cell? ⟨g, 0, none⟩ = some (.int .i64 2) := q0
  have f1 : w1.cell? ⟨g, 1, none⟩ = some (.int .i64 (-1)) := q1
  have f2 : w1.cell? ⟨g, 2, none⟩ = some (.int .i64 1) := q2
  have H1 := Lib.hid (H.out.on hbw)
  have HB1 := Lib.hid (below_on HB.out hbw)
  clear hown hbw q0 q1 q2 H HB HM
  by_cases hE : nearOfErr v k = 0
  · obtain ⟨hv, hk, hL⟩ := nearOfErr_zero.1 hE
    have hv2 := nearErr_zero.1 hv
    have hf := near_facts hE
    have hl := HL.out
    have HO := Lib.hid fun W hW => nearOf_ok A n c v k W W.heap.size hW (Nat.le_refl _) hE
    have HSG := Lib.hid fun i hi => Ph.near_sign hk.1 hL i hi
    have HBT := Lib.hid fun (p : List Int) h1 h2 => Ph.near_best (v := v) (p := p) hk.1 hL h1 h2
    obtain ⟨p, hp⟩ : ∃ p, p = Ph.near v k := ⟨_, rfl⟩
    rw [← hp] at hf HO HSG HBT
    have hpl : p.length = n := by omega
    have HPC := Lib.hid fun W A2 c2 (hW : RdI W W.heap.size A2 n p) => pCheck_any A2 n c2 p W W.heap.size hW (Nat.le_refl _) (by omega)
    rw [hf.1, if_pos rfl, errV_zero, hf.2.1] at HPC
    have HFA := Lib.hid fun W A2 c2 (h1 : RdI W W.heap.size A n v) (h2 : RdI W W.heap.size A2 n p) => nfar_ok A n c v A2 n c2 p W W.heap.size W.heap.size h1 h2 (Nat.le_refl _) (Nat.le_refl _) hf.2.2.2
    have hn6 : n ≤ 6 := by omega
    have HV := Lib.hid hv
    have HPL := Lib.hid hpl
    obtain ⟨D, hD⟩ : ∃ D, D = Ph.farFrom v p := ⟨_, rfl⟩
    rw [← hD] at HFA HBT
    clear hE hv hv2 hf hp hpl hD HN
    go_wp2_with fail
    refine (HO.out _ H1.out).mono ?_
    rintro e w2 ⟨A2, c2, rfl, ho, hbw⟩
    rw [HPL.out] at ho ⊢
    have K1 := Lib.hid (H1.out.on hbw)
    have KP := Lib.hid (RdI.own ho)
    have KB := Lib.hid (below_on HB1.out hbw)
    clear ho hbw H1 HB1 HO f0 f1 f2
    go_wp2_with fail
    refine (HPC.out _ _ _ KP.out).mono ?_
    rintro e w3 ⟨rfl, hbw⟩
    have L1 := Lib.hid (K1.out.on hbw)
    have LP := Lib.hid (KP.out.on hbw)
    have LB := Lib.hid (below_on KB.out hbw)
    clear hbw K1 KP KB HPC
    go_wp2_with fail
    refine (HFA.out _ _ _ L1.out LP.out).mono ?_
    rintro e w4 ⟨rfl, hbw⟩
    have M1 := Lib.hid (L1.out.on hbw)
    have MP := Lib.hid (LP.out.on hbw)
    have MB := Lib.hid (below_on LB.out hbw)
    have hkk : (k != k) = false := by simp
    clear hbw L1 LP LB HFA
    go_wp2_with fail
    go_loop [15] (fun i => ∃ q : Nat, q ≤ n ∧ i = .int .i64 q) (fun i => n - (intOf i).toNat)
    case atStart => exact ⟨0, Nat.zero_le _, rfl⟩
    case round =>
      obtain ⟨q, hq, rfl⟩ := hrel
      by_cases hlt : q < n
      · obtain ⟨b1, o1, rfl, _, c1⟩ := M1.out.at_ hlt
        obtain ⟨b2, o2, rfl, _, c2⟩ := MP.out.at_ hlt
        have hs := HSG.out q (by rw [hl]; exact hlt)
        obtain ⟨x, hx⟩ : ∃ x, x = v.getD q 0 := ⟨_, rfl⟩
        obtain ⟨y, hy⟩ : ∃ y, y = p.getD q 0 := ⟨_, rfl⟩
        rw [← hx] at c1 hs
        rw [← hy] at c2 hs
        have hlt' : (q : Int) < (n : Int) := by omega
        clear hx hy
        by_cases hy0 : y < 0
        · have hx0 : x < 0 := by omega
          have hx1 : ¬ 0 ≤ x := by omega
          have hy1 : ¬ 0 < y := by omega
          go_wp2_with fail
          go_round
          case rel => exact ⟨q + 1, by omega, by go_num⟩
          case measure => simp [intOf]; omega
        · by_cases hy1 : 0 < y
          · have hx1 : ¬ x ≤ 0 := by omega
            go_wp2_with fail
            go_round
            case rel => exact ⟨q + 1, by omega, by go_num⟩
            case measure => simp [intOf]; omega
          · go_wp2_with fail
            go_round
            case rel => exact ⟨q + 1, by omega, by go_num⟩
            case measure => simp [intOf]; omega
      · obtain rfl : q = n := by omega
        cases hok : ofOk (q : Int) k r
        · have HNO := Lib.hid fun W => pOf_no (q : Int) k r W hok
          have he1 : errV 1 = .iface 73 (.int .i64 1) := errV_ne (by decide)
          rw [he1] at HNO
          clear hok he1
          go_wp2_with fail
          refine (HNO.out _).mono ?_
          rintro e w5 ⟨rfl, hbw⟩
          have NB := Lib.hid (below_on MB.out hbw)
          clear hbw
          go_wp2_with fail
          go_ret
          exact ⟨rfl, NB.out⟩
        · have hofs := ofOk_iff.1 hok
          obtain ⟨K, rfl⟩ := Int.eq_ofNat_of_zero_le hofs.1.2.1
          obtain ⟨R, rfl⟩ := Int.eq_ofNat_of_zero_le hofs.2.1
          have hR : R < Ph.cnt q K := by have := hofs.2.2; rw [Int.toNat_natCast, Int.toNat_natCast] at this; omega
          have hK8 : K ≤ 8 := by omega
          have hrf := row_facts hn6 hK8 hR
          have HOF := Lib.hid fun W => pOf_ok q K R W hn6 hK8 hR
          obtain ⟨z, hz⟩ : ∃ z, z = Ph.rowOf q K R := ⟨_, rfl⟩
          rw [← hz] at hrf HOF
          have hfz : farErr v z = 0 := farErr_zero.2 ⟨HV.out, hrf.1, by rw [HL.out, hrf.2.2.2]⟩
          have HFZ := Lib.hid fun W A2 c2 (h1 : RdI W W.heap.size A q v) (h2 : RdI W W.heap.size A2 q z) => nfar_ok A q c v A2 q c2 z W W.heap.size W.heap.size h1 h2 (Nat.le_refl _) (Nat.le_refl _) hfz
          have hbest : D ≤ Ph.farFrom v z := HBT.out z (by rw [HL.out, hrf.2.2.2]) hrf.2.2.1
          obtain ⟨E, hE⟩ : ∃ E, E = Ph.farFrom v z := ⟨_, rfl⟩
          rw [← hE] at HFZ hbest
          clear hok hofs hR hrf hz hfz hE
          go_wp2_with fail
          refine (HOF.out _).mono ?_
          rintro e w5 ⟨A5, c5, rfl, ho, hbw⟩
          have N1 := Lib.hid (M1.out.on hbw)
          have NZ := Lib.hid (RdI.own ho)
          have NB := Lib.hid (below_on MB.out hbw)
          clear ho hbw M1 MP MB HOF
          go_wp2_with fail
          refine (HFZ.out _ _ _ N1.out NZ.out).mono ?_
          rintro e w6 ⟨rfl, hbw⟩
          have PB := Lib.hid (below_on NB.out hbw)
          clear hbw
          go_wp2_with fail
          go_ret
          exact ⟨ret_true (by simp), PB.out⟩
  · have hev := errV_ne hE
    have HX := Lib.hid (HN.out _ H1.out hE)
    rw [hev] at HX
    clear hE hev HN
    go_wp2_with fail
    refine HX.out.mono ?_
    rintro e w2 ⟨rfl, hbw⟩
    have KB := Lib.hid (below_on HB1.out hbw)
    clear hbw HX
    go_wp2_with fail
    go_ret
    exact ⟨rfl, KB.out⟩
end Go.Proofs.Ytgadgpkhkncnnaa
