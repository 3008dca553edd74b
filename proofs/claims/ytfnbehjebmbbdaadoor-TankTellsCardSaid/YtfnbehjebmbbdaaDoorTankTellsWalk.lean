/- The walk of the law TankTells. -/
import Derived.Test.YtfnbehjebmbbdaaDoorTold
import Derived.Test.YtfnbehjebmbbdaaDoorOpenT
import Derived.Test.YtfnbehjebmbbdaaDoorRefTank
import Derived.Deep.DeepCutAuto
import Derived.Deep.Cut
import Derived.Deep.RegionWith
namespace Go.Proofs.YtfnbehjebmbbdaaDoor
open Go.RowKit

/-- A tank's three cells. -/
def TankAt (w : World) (b : Nat) (s e h : Int) : Prop := b < w.heap.size ∧ w.cell? ⟨b, 0, none⟩ = some (.int .i64 s) ∧ w.cell? ⟨b, 1, none⟩ = some (.int .i64 e) ∧ w.cell? ⟨b, 2, none⟩ = some (.int .i64 h)
theorem TankAt.below {w w' : World} {b : Nat} {s e h : Int} (H : TankAt w b s e h) (hb : Below w.heap.size w w') : TankAt w' b s e h := by
  obtain ⟨h0, h1, h2, h3⟩ := H
  exact ⟨Nat.lt_of_lt_of_le h0 hb.size, (hb.cell (p := ⟨b, 0, none⟩) h0).trans h1, (hb.cell (p := ⟨b, 1, none⟩) h0).trans h2, (hb.cell (p := ⟨b, 2, none⟩) h0).trans h3⟩
theorem TankAt.new (w : World) (s e h : Int) : TankAt (w.alloc (.cells #[.int .i64 s, .int .i64 e, .int .i64 h] 36)) w.heap.size s e h := by
  refine ⟨by simp, by simp, by simp, by simp⟩
theorem TankAt.set {w : World} {b : Nat} {s e h : Int} (H : TankAt w b s e h) {p : Addr} (hp : b ≠ p.block) (u : Value) : TankAt (w.setCell p u) b s e h := by
  obtain ⟨h0, h1, h2, h3⟩ := H
  have hk := fun (j : Nat) => World.cell?_of_block (w := w) (w' := w.setCell p u) (a := ⟨b, j, none⟩) (Below.heap_setCell w p u b hp)
  exact ⟨by simpa using h0, (hk 0).trans h1, (hk 1).trans h2, (hk 2).trans h3⟩
theorem TankAt.drew {w : World} {b : Nat} {s e h : Int} (H : TankAt w b s e h) : TankAt w.drew b s e h := H
theorem tcheck_told (s e h : Int) (w : World) : Calls Tryd.prog 23 #[tankV s e h] w fun r w' => r = .returned (errV (Ph.tankErr ⟨s, e, h⟩)) ∧ Below w.heap.size w w' := by
  by_cases ht : Ph.tankErr ⟨s, e, h⟩ = 0
  · rw [ht, errV_of rfl]
    have hp := Ph.tankErr_zero.1 ht
    simp only at hp
    exact tcheck_ok s e h w (by omega) (by omega) (by omega)
  · rw [(tankErr_two _).resolve_left ht, errV_ne (by omega)]
    exact tcheck_no s e h w (tank_bad ht)
theorem tmay_told (s e h : Int) (w : World) : Calls Tryd.prog 22 #[tankV s e h] w fun r w' => r = .returned (.tuple #[.int .i64 (kept (Ph.tankErr ⟨s, e, h⟩) (Ph.full ⟨s, e, h⟩)), errV (Ph.tankErr ⟨s, e, h⟩)]) ∧ Below w.heap.size w w' := by
  by_cases ht : Ph.tankErr ⟨s, e, h⟩ = 0
  · rw [ht, errV_of rfl, kept_zero]
    have hp := Ph.tankErr_zero.1 ht
    simp only at hp
    exact tmay_ok s e h w (by omega) (by omega) (by omega)
  · rw [kept_ne ht, (tankErr_two _).resolve_left ht]
    exact tmay_no s e h w ht
set_option maxHeartbeats 4000000 in
set_option maxRecDepth 100000 in
theorem tankTells_walk (w : World) (s e h b : Int) (A : Option Addr) (n c : Nat) (l : List Int) (hr : RdI w w.heap.size A n l) (_hc : n ≤ c ∧ c ≤ 17592186044415) (_hi : ∀ x ∈ l, Is64 x) (hg : Laid w) :
    Calls Tryd.prog 6 #[tankV s e h, .int .i64 b, .slice A n c] w fun r w' => r = .returned (.bool true) ∧ Below w.heap.size w w' := by
  have HG := Lib.hid hg
  have HL := Lib.hid hr.len
  have HRD := Lib.hid hr
  have HTK := Lib.hid fun W => rtank_any s e h W
  have HCK := Lib.hid fun W => tcheck_told s e h W
  have HRT := Lib.hid fun W => rturn_told s e h b W
  have HTT := Lib.hid fun W => turn_told s e h b W
  have HMT := Lib.hid fun W => tmay_told s e h W
  have HMY : Hid (Ph.tankErr ⟨s, e, h⟩ = 0 → ∀ W, Calls Tryd.prog 27 #[tankV s e h] W fun r w' => r = .returned (.int .i64 (Ph.full ⟨s, e, h⟩)) ∧ Below W.heap.size W w') := Lib.hid fun ht W => by
    have hp := Ph.tankErr_zero.1 ht
    simp only at hp
    exact rmay_any s e h W (by omega) (by omega) (by omega)
  have HET := tankErr_two ⟨s, e, h⟩
  have HEK := turnErr_bd ⟨s, e, h⟩ b
  obtain ⟨T, hT⟩ : ∃ T, T = Ph.tankErr ⟨s, e, h⟩ := ⟨_, rfl⟩
  obtain ⟨K, hK⟩ : ∃ K, K = Ph.turnErr ⟨s, e, h⟩ b := ⟨_, rfl⟩
  rw [← hT] at HTK HCK HMT HMY HET
  rw [← hK] at HRT HTT HEK
  obtain ⟨k0, hk0⟩ : ∃ k0, k0 = kept K s := ⟨_, rfl⟩
  obtain ⟨k1, hk1⟩ : ∃ k1, k1 = kept K e := ⟨_, rfl⟩
  obtain ⟨k2, hk2⟩ : ∃ k2, k2 = kept K (Ph.full ⟨s, e, h⟩ - b) := ⟨_, rfl⟩
  rw [← hk0, ← hk1, ← hk2] at HRT HTT
  obtain ⟨M, hM⟩ : ∃ M, M = kept T (Ph.full ⟨s, e, h⟩) := ⟨_, rfl⟩
  rw [← hM] at HMT
  have HM := Lib.hid hM
  have HTE := Lib.hid hT
  have HT2 := Lib.hid HET
  have HK2 := Lib.hid HEK
  clear hg hr hK hk0 hk1 hk2 hM hT HET HEK
  unfold tankV at HTK HCK HRT HTT HMT HMY ⊢
  go_enter Tryd.func6, Tryd.ntmps6
  go_wp2_with fail
  have HB0 := Lib.hid (below_alloc0 w (.cells #[.int .i64 s, .int .i64 e, .int .i64 h] 36))
  have HA0 := Lib.hid (TankAt.new w s e h)
  refine (HTK.out _).mono ?_
  rintro r w1 ⟨rfl, hb1⟩
  have HA1 := Lib.hid (HA0.out.below hb1)
  have HB1 := Lib.hid (below_on HB0.out hb1)
  obtain ⟨_, c0, c1, c2⟩ := HA1.out
  clear hb1 HB0 HA0
  go_wp2_with fail
  refine (HCK.out _).mono ?_
  rintro r w2 ⟨rfl, hb2⟩
  have HA2 := Lib.hid (HA1.out.below hb2)
  have HB2 := Lib.hid (below_on HB1.out hb2)
  obtain ⟨_, d0, d1, d2⟩ := HA2.out
  clear hb2 HB1 HA1 c0 c1 c2
  go_wp2_with fail
  refine (herr_yes T _ (HG.out.below HB2.out) (by have := HT2.out; omega)).mono ?_
  rintro r w3 ⟨rfl, hb3⟩
  have HA3 := Lib.hid (HA2.out.below hb3)
  have HB3 := Lib.hid (below_on HB2.out hb3)
  obtain ⟨_, c0, c1, c2⟩ := HA3.out
  clear hb3 HB2 HA2 d0 d1 d2
  go_wp2_with fail
  refine (HRT.out _).mono ?_
  rintro r w4 ⟨rfl, hb4⟩
  have HA4 := Lib.hid (HA3.out.below hb4)
  have HB4 := Lib.hid (below_on HB3.out hb4)
  obtain ⟨_, d0, d1, d2⟩ := HA4.out
  clear hb4 HB3 HA3 c0 c1 c2
  go_wp2_with fail
  refine (HTT.out _).mono ?_
  rintro r w5 ⟨rfl, hb5⟩
  have HA5 := Lib.hid (((HA4.out).below (below_alloc0 w4 _)).below hb5)
  have HX5 := Lib.hid ((TankAt.new w4 k0 k1 k2).below hb5)
  have HB5 := Lib.hid (below_on (below_onAlloc HB4.out _) hb5)
  clear hb5 HB4 HA4 d0 d1 d2 HTT HRT HTK HCK
  go_wp2_with fail
  refine (herr_yes K _ (HG.out.below (below_onAlloc HB5.out _)) (by have := HK2.out; omega)).mono ?_
  rintro r w6 ⟨rfl, hb6⟩
  have HA6 := Lib.hid (((HA5.out).below (below_alloc0 w5 _)).below hb6)
  have HX6 := Lib.hid (((HX5.out).below (below_alloc0 w5 _)).below hb6)
  have HY6 := Lib.hid ((TankAt.new w5 k0 k1 k2).below hb6)
  have HB6 := Lib.hid (below_on (below_onAlloc HB5.out _) hb6)
  obtain ⟨x3, x0, x1, x2⟩ := HX6.out
  obtain ⟨y3, y0, y1, y2⟩ := HY6.out
  obtain ⟨z3, z0, z1, z2⟩ := HA6.out
  clear hb6 HB5 HA5 HX5
  go_upto_if 48 with (fail)
  go_cut [14] (fun s14 wx => s14 = .int .i64 M ∧ Hid (Below w.heap.size w wx ∧ TankAt wx w.heap.size s e h))
  case first =>
    rcases HT2.out with hT | hT
    · subst hT
      go_wp2_with fail
      refine (HMY.out (by first | rfl | trivial) _).mono ?_
      rintro r w7 ⟨rfl, hb7⟩
      have HB7 := Lib.hid (below_on HB6.out hb7)
      have HA7 := Lib.hid (HA6.out.below hb7)
      go_wp2_with fail
      go_meet
      case rel => exact ⟨by rw [HM.out, kept_zero], Lib.hid ⟨HB7.out, HA7.out⟩⟩
    · subst hT
      go_wp2_with fail
      go_meet
      case rel => exact ⟨by rw [HM.out, kept_ne (by omega)], Lib.hid ⟨HB6.out, HA6.out⟩⟩
  case rest =>
    obtain ⟨rfl, HX⟩ := hcut
    have HB8 := Lib.hid HX.out.1
    have HA8 := Lib.hid HX.out.2
    clear HX HB6 HA6 HX6 HY6 x0 x1 x2 y0 y1 y2 z0 z1 z2 x3 y3 z3
    obtain ⟨_, c0, c1, c2⟩ := HA8.out
    go_wp2_with fail
    refine (HMT.out _).mono ?_
    rintro r w9 ⟨rfl, hb9⟩
    have HB9 := Lib.hid (below_on HB8.out hb9)
    have HA9 := Lib.hid (HA8.out.below hb9)
    clear HB8 HA8 c0 c1 c2 hb9
    go_wp2_with fail
    refine (herr_yes T _ (HG.out.below HB9.out) (by have := HT2.out; omega)).mono ?_
    rintro r w10 ⟨rfl, hb10⟩
    have HB10 := Lib.hid (below_on HB9.out hb10)
    have HA10 := Lib.hid (HA9.out.below hb10)
    clear HB9 HA9 hb10
    go_upto_if 66 with (fail)
    obtain ⟨E0, hE0⟩ : ∃ E0, E0 = (if (60 : Int) < n then 4 else T) := ⟨_, rfl⟩
    have HE0 := Lib.hid hE0
    clear hE0
    go_cut [7] (fun s7 wx => s7 = .int .i64 E0 ∧ Hid (Below w.heap.size w wx ∧ TankAt wx w.heap.size s e h))
    case first =>
      by_cases hn : (60 : Int) < n
      · have HN := Lib.hid hn
        go_wp2_with fail
        go_meet
        case rel => exact ⟨by rw [HE0.out, if_pos (by have := HN.out; omega)], Lib.hid ⟨HB10.out, HA10.out⟩⟩
      · have HN := Lib.hid hn
        go_wp2_with fail
        go_meet
        case rel => exact ⟨by rw [HE0.out, if_neg (by have := HN.out; omega)], Lib.hid ⟨HB10.out, HA10.out⟩⟩
    case rest =>
      obtain ⟨rfl, HX⟩ := hcut
      have HB11 := Lib.hid HX.out.1
      have HA11 := Lib.hid HX.out.2
      clear HX HB10 HA10
      obtain ⟨_, c0, c1, c2⟩ := HA11.out
      have HR11 := Lib.hid (HRD.out.below HB11.out)
      have HS : Hid ((E0 = 0 → runE l ⟨s, e, h⟩ = Ph.runErr l ⟨s, e, h⟩) ∧ (E0 ≠ 0 → E0 = runE l ⟨s, e, h⟩)) := Lib.hid (by
        have h1 := HE0.out
        have h2 := HT2.out
        have h3 := HTE.out
        rw [h1, h3]
        unfold runE
        rw [HL.out]
        by_cases hn : (60 : Int) < n
        · have hn' : 60 < n := by omega
          rw [if_pos hn, if_pos hn']
          exact ⟨fun h => absurd h (by omega), fun _ => rfl⟩
        · have hn' : ¬ 60 < n := by omega
          rw [if_neg hn, if_neg hn']
          rcases tankErr_two ⟨s, e, h⟩ with h4 | h4
          · rw [h4]; exact ⟨fun _ => rfl, fun h => absurd rfl h⟩
          · rw [h4]; exact ⟨fun h => absurd h (by omega), fun _ => rfl⟩)
      obtain ⟨E, hE⟩ : ∃ E, E = runE l ⟨s, e, h⟩ := ⟨_, rfl⟩
      obtain ⟨V, hV⟩ : ∃ V, V = (Ph.runT l ⟨s, e, h⟩).has := ⟨_, rfl⟩
      rw [← hE] at HS
      have HEE := Lib.hid hE
      have HVV := Lib.hid hV
      clear hE hV HE0
      rename World => w11
      have HN11 := Lib.hid (TankAt.new w11 s e h)
      have HA12 := Lib.hid (HA11.out.below (below_alloc0 w11 (.cells #[.int .i64 s, .int .i64 e, .int .i64 h] 36)))
      have HB12 := Lib.hid (below_onAlloc HB11.out (.cells #[.int .i64 s, .int .i64 e, .int .i64 h] 36))
      have hgt : w.heap.size < w11.heap.size := HA11.out.1
      clear HMY HMT HM HT2 HK2 HTE HA11 HB11 HR11
      go_wp2_with fail
      go_loopw [7, 18] (fun s7 s18 wr => ∃ (k : Nat) (ek ys ye yh : Int), k ≤ n ∧ s7 = .int .i64 ek ∧ s18 = .int .i64 k ∧ Hid (0 ≤ ek ∧ (ek = 0 → E = Ph.runErr (l.drop k) ⟨ys, ye, yh⟩ ∧ V = (Ph.runT (l.drop k) ⟨ys, ye, yh⟩).has) ∧ (ek ≠ 0 → ek = E)) ∧ Hid (TankAt wr w11.heap.size ys ye yh ∧ wr.frozen? ⟨w11.heap.size, 0, none⟩ = false ∧ wr.frozen? ⟨w11.heap.size, 1, none⟩ = false ∧ wr.frozen? ⟨w11.heap.size, 2, none⟩ = false) ∧ Hid (TankAt wr w.heap.size s e h) ∧ Hid (Below w.heap.size w wr)) (fun _ i _ => n - (intOf i).toNat)
      case atStart =>
        refine ⟨0, E0, s, e, h, Nat.zero_le _, rfl, rfl, Lib.hid ⟨?_, ?_, HS.out.2⟩, Lib.hid ⟨HN11.out, by simp, by simp, by simp⟩, HA12, HB12⟩
        · have h1 := HS.out.2
          have h2 := runE_bd l ⟨s, e, h⟩
          have h3 := HEE.out
          by_cases h0 : E0 = 0
          · omega
          · have := h1 h0; omega
        · intro h0
          exact ⟨HS.out.1 h0, HVV.out⟩
      case round =>
        obtain ⟨k, ek, ys, ye, yh, hkn, rfl, rfl, HR, HY, HA, HB⟩ := hrel
        have H2 := Lib.hid (HRD.out.below HB.out)
        obtain ⟨⟨hy3, y0, y1, y2⟩, f0, f1, f2⟩ := HY.out
        obtain ⟨_, c0, c1, c2⟩ := HA.out
        clear HS HN11 HA12 HB12
        by_cases hgo : k < n ∧ ek = 0
        · obtain ⟨hlt, rfl⟩ := hgo
          obtain ⟨b', off, rfl, hbb, hc⟩ := H2.out.at_ hlt
          have hkl : k < l.length := by rw [HL.out]; exact hlt
          have HR2 := Lib.hid fun W => rturn_told ys ye yh (l.getD k 0) W
          have HKL := Lib.hid hkl
          obtain ⟨x, hxe⟩ : ∃ x, x = l.getD k 0 := ⟨_, rfl⟩
          obtain ⟨K2, hK2⟩ : ∃ K2, K2 = Ph.turnErr ⟨ys, ye, yh⟩ x := ⟨_, rfl⟩
          rw [← hxe] at hc HR2
          rw [← hK2] at HR2
          obtain ⟨r0, hr0⟩ : ∃ r0, r0 = kept K2 ys := ⟨_, rfl⟩
          obtain ⟨r1, hr1⟩ : ∃ r1, r1 = kept K2 ye := ⟨_, rfl⟩
          obtain ⟨r2, hr2⟩ : ∃ r2, r2 = kept K2 (Ph.full ⟨ys, ye, yh⟩ - x) := ⟨_, rfl⟩
          rw [← hr0, ← hr1, ← hr2] at HR2
          unfold tankV at HR2
          have HX := Lib.hid hxe
          have HK2 := Lib.hid hK2
          have HR0 := Lib.hid hr0
          have HR1 := Lib.hid hr1
          have HR3 := Lib.hid hr2
          have HRE := Lib.hid (HR.out.2.1 rfl)
          clear hkl hxe hK2 hr0 hr1 hr2 c0 c1 c2 HR
          go_wp2_with fail
          go_region_with (go_at_call 26; refine (HR2.out _).mono ?_; rintro r w13 ⟨rfl, hb13⟩; replace y0 := (hb13.cell (p := ⟨w11.heap.size, 0, none⟩) (by simp; omega)).trans y0; replace y1 := (hb13.cell (p := ⟨w11.heap.size, 1, none⟩) (by simp; omega)).trans y1; replace y2 := (hb13.cell (p := ⟨w11.heap.size, 2, none⟩) (by simp; omega)).trans y2; replace f0 := (hb13.frozen (p := ⟨w11.heap.size, 0, none⟩) (by simp; omega)).trans f0; replace f1 := (hb13.frozen (p := ⟨w11.heap.size, 1, none⟩) (by simp; omega)).trans f1; replace f2 := (hb13.frozen (p := ⟨w11.heap.size, 2, none⟩) (by simp; omega)).trans f2; have HB13 := Lib.hid hb13; clear hb13)
          all_goals go_wp2_with fail
          all_goals go_roundw
          all_goals first
            | (simp [intOf]; omega)
            | (refine ⟨k + 1, K2, r0, r1, r2, by omega, rfl, by go_num, Lib.hid ⟨?_, ?_, ?_⟩, Lib.hid ⟨⟨?_, ?_, ?_, ?_⟩, ?_, ?_, ?_⟩, Lib.hid ?_, Lib.hid ?_⟩
               · rw [HK2.out]; exact (turnErr_bd _ _).1
               · intro h0
                 have hte : Ph.turnErr ⟨ys, ye, yh⟩ (l.getD k 0) = 0 := by rw [← HX.out, ← HK2.out, h0]
                 have ht : (⟨r0, r1, r2⟩ : Ph.Tank) = Ph.turned ⟨ys, ye, yh⟩ (l.getD k 0) := by rw [HR0.out, HR1.out, HR3.out, h0, kept_zero, kept_zero, kept_zero, HX.out]; rfl
                 rw [ht]
                 exact ⟨HRE.out.1.trans (runErr_go HKL.out _ hte), HRE.out.2.trans (congrArg _ (runT_go HKL.out _))⟩
               · intro h0
                 have hte : Ph.turnErr ⟨ys, ye, yh⟩ (l.getD k 0) ≠ 0 := by rw [← HX.out, ← HK2.out]; exact h0
                 rw [HRE.out.1, runErr_stop HKL.out _ hte, ← HX.out]; exact HK2.out
               · have := HB13.out.size; simp at this ⊢; omega
               · go_simp
               · go_simp
               · go_simp
               · go_simp
               · go_simp
               · go_simp
               · exact (((HA.out.drew.below HB13.out).set (by simp; omega) _).set (by simp; omega) _).set (by simp; omega) _
               · exact (((HB.out.drew.trans (HB13.out.mono (by have := HB.out.size; simp; omega))).setCell (by simp; omega) _).setCell (by simp; omega) _).setCell (by simp; omega) _)
        · have hF : ek = E ∧ (ek = 0 → yh = V) ∧ (ek ≠ 0 ∧ k < n ∨ ¬ k < n ∧ ek ≠ 0 ∨ ¬ k < n ∧ ek = 0) := by
            by_cases h0 : ek = 0
            · have hk : ¬ k < n := fun h => hgo ⟨h, h0⟩
              have e1 : l.drop k = [] := List.drop_of_length_le (by rw [HL.out]; omega)
              have h1 := HR.out.2.1 h0
              rw [e1] at h1
              have h2 : E = 0 := h1.1
              have h3 : V = yh := h1.2
              exact ⟨by omega, fun _ => h3.symm, .inr (.inr ⟨hk, h0⟩)⟩
            · exact ⟨HR.out.2.2 h0, fun h => absurd h h0, by by_cases hk : k < n <;> omega⟩
          obtain ⟨hF1, hF2, hF3⟩ := hF
          have HRV : Hid (runV l ⟨s, e, h⟩ = if ek = 0 then yh else 0) := Lib.hid (by
            unfold runV
            rw [← HEE.out, ← HVV.out, ← hF1]
            by_cases h0 : ek = 0
            · rw [if_pos h0, if_pos h0]; exact (hF2 h0).symm
            · rw [if_neg h0, if_neg h0])
          have hRU := fun W hB hr => trun_told s e h A n c l W w.heap.size hr hB
          rw [← HEE.out, HRV.out, ← hF1] at hRU
          unfold tankV at hRU
          have HRU := Lib.hid hRU
          have hbd : 0 ≤ ek ∧ ek ≤ 8 := by rw [hF1, HEE.out]; exact runE_bd _ _
          have HBD := Lib.hid hbd
          clear hRU hF1 hF2 hbd HR hgo HRV HEE HVV
          rcases hF3 with ⟨g1, g2⟩ | ⟨g1, g2⟩ | ⟨g1, g2⟩
          · rw [if_neg g1] at HRU
            go_wp2_with fail
            refine (HRU.out _ HB.out.size H2.out).mono ?_
            rintro r w14 ⟨rfl, hb14⟩
            have HB14 := Lib.hid (below_on HB.out hb14)
            clear hb14 c0 c1 c2 y0 y1 y2 f0 f1 f2 hy3
            go_wp2_with fail
            refine (herr_yes ek _ (HG.out.below HB14.out) (by have := HBD.out; omega)).mono ?_
            rintro r w15 ⟨rfl, hb15⟩
            have HB15 := Lib.hid (below_on HB14.out hb15)
            clear hb15
            go_wp2_with fail
            go_ret
            exact ⟨ret_true (by simp), HB15.out⟩
          · rw [if_neg g2] at HRU
            go_wp2_with fail
            refine (HRU.out _ HB.out.size H2.out).mono ?_
            rintro r w14 ⟨rfl, hb14⟩
            have HB14 := Lib.hid (below_on HB.out hb14)
            clear hb14 c0 c1 c2 y0 y1 y2 f0 f1 f2 hy3
            go_wp2_with fail
            refine (herr_yes ek _ (HG.out.below HB14.out) (by have := HBD.out; omega)).mono ?_
            rintro r w15 ⟨rfl, hb15⟩
            have HB15 := Lib.hid (below_on HB14.out hb15)
            clear hb15
            go_wp2_with fail
            go_ret
            exact ⟨ret_true (by simp), HB15.out⟩
          · rw [if_pos g2] at HRU
            go_wp2_with fail
            refine (HRU.out _ HB.out.size H2.out).mono ?_
            rintro r w14 ⟨rfl, hb14⟩
            have HB14 := Lib.hid (below_on HB.out hb14)
            clear hb14 c0 c1 c2 y0 y1 y2 f0 f1 f2 hy3
            go_wp2_with fail
            refine (herr_yes 0 _ (HG.out.below HB14.out) (by omega)).mono ?_
            rintro r w15 ⟨rfl, hb15⟩
            have HB15 := Lib.hid (below_on HB14.out hb15)
            clear hb15
            go_wp2_with fail
            go_ret
            exact ⟨ret_true (by simp), HB15.out⟩
end Go.Proofs.YtfnbehjebmbbdaaDoor
