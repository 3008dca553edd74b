/- The walk of the law NearWhole. -/
import Derived.Test.YtbllboajhdmnhaaDoorNear3
import Derived.Test.YtbllboajhdmnhaaDoorTold
import Derived.Test.YtbllboajhdmnhaaDoorPush
import Derived.Test.YtbllboajhdmnhaaDoorOpen
namespace Go.Proofs.YtbllboajhdmnhaaDoor
open Go.RowKit

theorem scaled_snoc (l : List Int) (y : Int) (k : Nat) (hk : k < l.length) : (l.take k).map (y * ·) ++ [y * l.getD k 0] = (l.take (k + 1)).map (y * ·) := by
  rw [List.take_add_one, List.map_append, List.getD_eq_getElem?_getD, List.getElem?_eq_getElem hk]
  simp
set_option maxHeartbeats 4000000 in
set_option maxRecDepth 1000000 in
theorem nearWhole_walk (w : World) (A : Option Addr) (n c : Nat) (p : List Int) (h : RdI w w.heap.size A n p) (_hb : n ≤ c ∧ c ≤ 17592186044415) (_ : ∀ x ∈ p, Is64 x) (y : Int) (hg : Laid w) :
    Calls Tryd.prog 13 #[.slice A n c, .int .i64 y] w fun e w' => e = .returned (.bool true) ∧ Below w.heap.size w w' := by
  have HG := Lib.hid hg
  have H := Lib.hid h
  have HL := Lib.hid h.len
  have HC := Lib.hid (pCheck_any A n c p w w.heap.size h (Nat.le_refl _) (by omega))
  by_cases hgood : (Ph.pulsesErr p = 0 ∧ Ph.loud p ≠ 0) ∧ 1 ≤ y ∧ y ≤ 100
  · obtain ⟨⟨hp, hk0⟩, hy1, hy2⟩ := hgood
    rw [hp, errV_zero, if_pos rfl] at HC
    have hp2 := Ph.pulsesErr_zero.1 hp
    have hkn := Ph.loud_nonneg p
    have hkpos : 0 < Ph.loud p := by omega
    have hk8 := hp2.2.2
    have hl := h.len
    have hn6 : n ≤ 6 := by omega
    obtain ⟨v, hv⟩ : ∃ v, v = p.map (y * ·) := ⟨_, rfl⟩
    have hvl : v.length = n := by rw [hv, List.length_map]; exact hl
    have hPB : ∀ i, -8 ≤ p.getD i 0 ∧ p.getD i 0 ≤ 8 := fun i => Ph.allIn_getD hp2.2.1 (by omega) i
    have hvin : Ph.allIn v 1000 = true := Ph.allIn_iff.2 fun x hx => by
      rw [hv] at hx
      obtain ⟨z, hz, rfl⟩ := List.mem_map.1 hx
      have hzb := Ph.allIn_iff.1 hp2.2.1 z hz
      have := mul_abs (a := y) (b := z) (M := 100) (N := 8) ⟨by omega, hy2⟩ hzb
      omega
    have hve : nearErr v = 0 := nearErr_zero.2 ⟨by omega, hvin⟩
    have hlv : Ph.loud v = y * Ph.loud p := by rw [hv]; exact Ph.loud_scale y (by omega) p
    have hlvp : 0 < Ph.loud v := by rw [hlv]; exact Int.mul_pos (by omega) hkpos
    have hoe : nearOfErr v (Ph.loud p) = 0 := nearOfErr_zero.2 ⟨hve, ⟨hkn, hk8⟩, .inr hlvp⟩
    have hfe : farErr v p = 0 := farErr_zero.2 ⟨hve, hp, by omega⟩
    have hnear : Ph.near v (Ph.loud p) = p := by rw [hv]; exact Ph.near_whole (by omega) hkpos
    have hfar : Ph.farFrom v p = 0 := by rw [hv]; exact Ph.farFrom_whole (by omega)
    have HO := Lib.hid fun W A2 c2 (hW : RdI W W.heap.size A2 n v) => nearOf_ok A2 n c2 v (Ph.loud p) W W.heap.size hW (Nat.le_refl _) hoe
    have HF := Lib.hid fun W A2 c2 (h1 : RdI W W.heap.size A2 n v) (h2 : RdI W W.heap.size A n p) => nfar_ok A2 n c2 v A n c p W W.heap.size W.heap.size h1 h2 (Nat.le_refl _) (Nat.le_refl _) hfe
    rw [hnear] at HO
    rw [hfar] at HF
    have HPB := Lib.hid hPB
    have HVN : Hid ((p.take n).map (y * ·) = v) := Lib.hid (by rw [hv, ← hl, List.take_length])
    obtain ⟨K, hK⟩ : ∃ K, K = Ph.loud p := ⟨_, rfl⟩
    rw [← hK] at HC HO hkpos
    have hK1 : (K == 0) = false := by simp; omega
    have hy3 : ¬ y < 1 := by omega
    have hy4 : ¬ 100 < y := by omega
    clear h hp hk0 hp2 hkn hk8 hl hv hvl hPB hvin hve hlv hlvp hoe hfe hnear hfar hK hkpos hg
    go_enter Tryd.func13, Tryd.ntmps13
    go_wp2_with fail
    refine HC.out.mono ?_
    rintro e w1 ⟨rfl, hb1⟩
    have H1 := Lib.hid (H.out.on hb1)
    have HB1 := Lib.hid hb1
    clear hb1 H HC
    go_wp2_with fail
    go_loopw [9, 10] (fun v i wr => ∃ (k : Nat) (A2 : Option Addr) (c2 : Nat), k ≤ n ∧ i = .int .i64 k ∧ v = .slice A2 k c2 ∧ wr.ownsRow w1.heap.size 3 1 (.slice A2 k c2) k (ivals ((p.take k).map (y * ·))) ∧ Below w1.heap.size w1 wr) (fun _ i _ => n - (intOf i).toNat)
    case atStart => exact ⟨0, none, 0, Nat.zero_le _, rfl, rfl, own_nil _ _ _, Below.refl _ _⟩
    case round =>
      obtain ⟨k, A2, c2, hk, rfl, rfl, hown, hbw⟩ := hrel
      have HOW := Lib.hid hown
      have HBW := Lib.hid hbw
      have HPK := Lib.hid (H1.out.below hbw)
      clear hown hbw
      by_cases hlt : k < n
      · obtain ⟨b1, o1, rfl, _, hc1⟩ := HPK.out.at_ hlt
        have hpb := HPB.out k
        have hsn := Lib.hid (scaled_snoc p y k (by rw [HL.out]; exact hlt))
        obtain ⟨x, hx⟩ : ∃ x, x = p.getD k 0 := ⟨_, rfl⟩
        rw [← hx] at hc1 hpb hsn
        have hma := mul_abs (a := y) (b := x) (M := 100) (N := 8) ⟨by omega, hy2⟩ hpb
        obtain ⟨Z, hZ⟩ : ∃ Z, Z = y * x := ⟨_, rfl⟩
        rw [← hZ] at hma hsn
        have hw1 : IntKind.i64.wrap (y * x) = Z := by rw [← hZ]; exact IntWalk.i64_in _ (by omega)
        have hlt1 : (k : Int) < (n : Int) := by omega
        clear hx hZ
        go_wp2_with (at_builtin; refine wpList_push _ (by rfl) _ _ (by rfl) w1 w1.heap.size A2 k c2 _ Z HOW.out HBW.out (by have := HBW.out.size; omega) (by omega) (by rfl) (by rfl) ?_; intro g2 cap w9 ho2 hb2)
        have HO2 := Lib.hid ho2
        have HB2 := Lib.hid hb2
        clear ho2 hb2
        go_wp2
        go_roundw
        case rel => exact ⟨k + 1, some ⟨g2, 0, none⟩, cap, by omega, by go_num, rfl, by rw [← hsn.out]; exact HO2.out, HB2.out⟩
        case measure => simp [intOf]; omega
      · obtain rfl : k = n := by omega
        rename World => wr
        have HV := Lib.hid (RdI.own HOW.out)
        rw [HVN.out] at HV
        have HPR := Lib.hid (H1.out.on HBW.out)
        have HBR := Lib.hid (below_on HB1.out HBW.out)
        clear HPK HBW HOW H1
        go_wp2_with fail
        refine (HO.out _ _ _ HV.out).mono ?_
        rintro e w3 ⟨A3, c3, rfl, ho, hb⟩
        have HV3 := Lib.hid (HV.out.on hb)
        have HP3 := Lib.hid (HPR.out.on hb)
        have HB3 := Lib.hid (below_on HBR.out hb)
        have hl := HL.out
        rw [hl] at ho ⊢
        have HQ3 := Lib.hid (RdI.own ho)
        clear ho hb HV HPR HBR HO
        go_wp2_with fail
        refine (HF.out _ _ _ HV3.out HP3.out).mono ?_
        rintro e w4 ⟨rfl, hb⟩
        have HP4 := Lib.hid (HP3.out.on hb)
        have HQ4 := Lib.hid (HQ3.out.on hb)
        have HB4 := Lib.hid (below_on HB3.out hb)
        clear hb HV3 HP3 HQ3 HB3 HF
        go_wp2_with fail
        refine (ints_any _ _ _ _ _ _ p p _ _ _ HQ4.out HP4.out (Nat.le_refl _) (Nat.le_refl _) (by omega)).mono ?_
        rintro e w5 ⟨rfl, hb⟩
        have HB5 := Lib.hid (below_on HB4.out hb)
        rw [sameI_true.2 rfl]
        clear hb
        go_wp2_with fail
        go_ret
        exact ⟨rfl, HB5.out⟩
  · have h5 : nearOfErr [0, 0] 3 = 5 := by decide +kernel
    have HX := Lib.hid fun W => nearOf_no _ 2 2 [0, 0] 3 _ _ (RdI.lit' W [0, 0] 3 #[.int .i64 0, .int .i64 0] rfl) (Nat.le_refl _) (by omega) (by rw [h5]; omega)
    rw [h5] at HX
    have hcases : Ph.pulsesErr p ≠ 0 ∨ (Ph.pulsesErr p = 0 ∧ Ph.loud p = 0) ∨ (Ph.pulsesErr p = 0 ∧ Ph.loud p ≠ 0 ∧ y < 1) ∨ (Ph.pulsesErr p = 0 ∧ Ph.loud p ≠ 0 ∧ ¬ y < 1 ∧ 100 < y) := by
      by_cases a : Ph.pulsesErr p = 0
      · by_cases b : Ph.loud p = 0
        · exact .inr (.inl ⟨a, b⟩)
        · by_cases d : y < 1
          · exact .inr (.inr (.inl ⟨a, b, d⟩))
          · exact .inr (.inr (.inr ⟨a, b, d, by
              rcases Int.lt_or_le 100 y with q | q
              · exact q
              · exact absurd ⟨⟨a, b⟩, by omega, q⟩ hgood⟩))
      · exact .inl a
    obtain ⟨K, hK⟩ : ∃ K, K = Ph.loud p := ⟨_, rfl⟩
    rw [← hK] at HC hcases
    obtain ⟨E, hE⟩ : ∃ E, E = Ph.pulsesErr p := ⟨_, rfl⟩
    rw [← hE] at HC hcases
    clear hK hE h5 hgood h hg HL
    rcases hcases with a1 | ⟨a1, a2⟩ | ⟨a1, a2, a3⟩ | ⟨a1, a2, a3, a4⟩
    · rw [if_neg a1, errV_ne a1] at HC
      go_enter Tryd.func13, Tryd.ntmps13
      go_wp2_with fail
      refine (HC.out).mono ?_
      rintro e w1 ⟨rfl, hb1⟩
      have HB1 := Lib.hid hb1
      clear hb1
      go_wp2_with fail
      refine (HX.out _).mono ?_
      rintro e w2 ⟨rfl, hb⟩
      have HB2 := Lib.hid (below_on (below_onAlloc HB1.out _) hb)
      clear hb
      go_wp2_with fail
      refine (herr_yes 5 _ (HG.out.below HB2.out) (by omega)).mono ?_
      rintro e w3 ⟨rfl, hb⟩
      have HB3 := Lib.hid (below_on HB2.out hb)
      go_wp2_with fail
      go_ret
      exact ⟨rfl, HB3.out⟩
    all_goals
      rw [if_pos a1, a1, errV_zero] at HC
      try subst a2
      try (have a5 : (K == 0) = false := by simp; omega)
      go_enter Tryd.func13, Tryd.ntmps13
      go_wp2_with fail
      refine (HC.out).mono ?_
      rintro e w1 ⟨rfl, hb1⟩
      have HB1 := Lib.hid hb1
      clear hb1
      go_wp2_with fail
      refine (HX.out _).mono ?_
      rintro e w2 ⟨rfl, hb⟩
      have HB2 := Lib.hid (below_on (below_onAlloc HB1.out _) hb)
      clear hb
      go_wp2_with fail
      refine (herr_yes 5 _ (HG.out.below HB2.out) (by omega)).mono ?_
      rintro e w3 ⟨rfl, hb⟩
      have HB3 := Lib.hid (below_on HB2.out hb)
      go_wp2_with fail
      go_ret
      exact ⟨rfl, HB3.out⟩
end Go.Proofs.YtbllboajhdmnhaaDoor
