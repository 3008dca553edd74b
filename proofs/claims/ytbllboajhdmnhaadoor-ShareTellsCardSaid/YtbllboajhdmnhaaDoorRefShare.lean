/- The document's answers, walked (chapter 14): what pulses cost. -/
import Derived.Test.YtbllboajhdmnhaaDoorShare3
import Derived.Test.YtbllboajhdmnhaaDoorRefCount2
import Derived.Deep.DeepCutAuto
import Derived.Deep.Cut
namespace Go.Proofs.YtbllboajhdmnhaaDoor
open Go.RowKit

theorem keepTwo {a b : Addr} {u v : Value} {w0 W w3 : World} (hb : Below W.heap.size W w3) (h : W.cell? a = some u ∧ W.cell? b = some v ∧ Below w0.heap.size w0 W) (ha : a.block < w0.heap.size) (hb2 : b.block < w0.heap.size) : w3.cell? a = some u ∧ w3.cell? b = some v ∧ Below w0.heap.size w0 w3 :=
  ⟨(hb.cell (Nat.lt_of_lt_of_le ha h.2.2.size)).trans h.1, (hb.cell (Nat.lt_of_lt_of_le hb2 h.2.2.size)).trans h.2.1, below_on h.2.2 hb⟩
set_option maxHeartbeats 2000000 in
set_option maxRecDepth 100000 in
theorem rcost_any (A1 : Option Addr) (n c1 : Nat) (s : List Int) (A2 : Option Addr) (c2 : Nat) (p : List Int) (w : World) (B1 B2 : Nat) (h1 : RdI w B1 A1 n s) (h2 : RdI w B2 A2 n p) (hB1 : B1 ≤ w.heap.size) (hB2 : B2 ≤ w.heap.size) (hn : n ≤ 8) (hs : ∀ x ∈ s, 1 ≤ x ∧ x ≤ 6) (hp : Ph.pulsesOk p) :
    Calls Tryd.prog 39 #[.slice A1 n c1, .slice A2 n c2] w fun e w' => e = .returned (.int .i64 (Ph.cost s p)) ∧ Below w.heap.size w w' := by
  have HL1 := Lib.hid h1.len
  have HL2 := Lib.hid h2.len
  have H1 := Lib.hid h1
  have H2 := Lib.hid h2
  have HS := Lib.hid hs
  have HP := Lib.hid hp
  clear h1 h2 hs hp
  go_enter Tryd.func39, Tryd.ntmps39
  go_wp2_with fail
  go_loopw [5, 6, 7] (fun t i _ wr => ∃ k : Nat, k ≤ n ∧ i = .int .i64 k ∧ t = .int .i64 (Ph.cost (s.take k) (p.take k)) ∧ Below w.heap.size w wr) (fun _ i _ _ => n - (intOf i).toNat)
  case atStart => exact ⟨0, Nat.zero_le _, rfl, rfl, Below.refl _ _⟩
  case round =>
    obtain ⟨k, hk, rfl, rfl, hbw⟩ := hrel
    rename World => wr
    have HBW := Lib.hid hbw
    clear hbw
    by_cases hlt : k < n
    · obtain ⟨b1, o1, hA1, hbb1, hc1⟩ := (H1.out.below (HBW.out.mono hB1)).at_ hlt
      obtain ⟨b2, o2, hA2, hbb2, hc2⟩ := (H2.out.below (HBW.out.mono hB2)).at_ hlt
      have hk1 : k < s.length := by rw [HL1.out]; exact hlt
      have hk2 : k < p.length := by rw [HL2.out]; exact hlt
      have hx := HS.out _ (Ph.getD_mem (l := s) (i := k) hk1)
      have hy := HP.out _ (Ph.getD_mem (l := p) (i := k) hk2)
      have hct := Ph.cost_take s p k hk1 hk2
      have hcb := cost_bd (s.take k) (p.take k) (fun x hx => HS.out x (List.mem_of_mem_take hx)) (pulsesOk_take HP.out k)
      have hln : (s.take k).length ≤ 8 := by rw [List.length_take]; omega
      obtain ⟨x, hxe⟩ : ∃ x, x = s.getD k 0 := ⟨_, rfl⟩
      obtain ⟨y, hye⟩ : ∃ y, y = p.getD k 0 := ⟨_, rfl⟩
      rw [← hxe] at hc1 hx hct
      rw [← hye] at hc2 hy hct
      have hwb := wid_bd x y (by omega) hy
      obtain ⟨N, hN⟩ : ∃ N : Nat, x = N := ⟨x.toNat, by omega⟩
      obtain ⟨K, hK⟩ : ∃ K : Nat, y = K := ⟨y.toNat, by omega⟩
      have hwe : Ph.wid x y = (Ph.bitsOf (Ph.cnt N K) : Nat) := by unfold Ph.wid; rw [hN, hK, Int.toNat_natCast, Int.toNat_natCast]
      have HCN : Hid (∀ W, Calls Tryd.prog 20 #[.int .i64 x, .int .i64 y] W fun e w' => e = .returned (.int .i64 (Ph.cnt N K : Nat)) ∧ Below W.heap.size W w') := Lib.hid fun W => by rw [hN, hK]; exact rcount_any N K W (by omega) (by omega)
      have HBT : Hid (∀ W, Calls Tryd.prog 94 #[.int .i64 (Ph.cnt N K : Nat)] W fun e w' => e = .returned (.int .i64 (Ph.wid x y)) ∧ Below W.heap.size W w') := Lib.hid fun W => by
        rw [hwe]
        refine (rbits_any (Ph.cnt N K) W (Ph.cnt_le N K (by omega) (by omega))).mono ?_
        rintro e w' ⟨rfl, rfl⟩
        exact ⟨rfl, Below.refl _ _⟩
      obtain ⟨C, hC⟩ : ∃ C, C = Ph.cost (s.take k) (p.take k) := ⟨_, rfl⟩
      obtain ⟨D, hD⟩ : ∃ D, D = Ph.wid x y := ⟨_, rfl⟩
      obtain ⟨T, hT⟩ : ∃ T : Int, T = (Ph.cnt N K : Nat) := ⟨_, rfl⟩
      rw [← hC] at hct hcb ⊢
      rw [← hD] at hct hwb HBT
      rw [← hT] at HCN HBT
      have HCT := Lib.hid hct
      have k1 : IntKind.i64.wrap (C + D) = C + D := IntWalk.i64_in _ (by omega)
      have g1 : b1 < wr.heap.size := Nat.lt_of_lt_of_le hbb1 (Nat.le_trans hB1 HBW.out.size)
      have g2 : b2 < wr.heap.size := Nat.lt_of_lt_of_le hbb2 (Nat.le_trans hB2 HBW.out.size)
      have hlt' : (k : Int) < (n : Int) := by omega
      subst hA1
      subst hA2
      clear hxe hye hct hC hD hk1 hk2 hN hK hwe hT hbb1 hbb2
      go_upto_region 5 with (fail)
      go_cut [7] (fun s7 wx => s7 = .int .i64 D ∧ Hid (Below wr.heap.size wr wx))
      case first =>
        go_region_held3 (fun w' => w'.cell? ⟨b1, o1 + k, none⟩ = some (.int .i64 x) ∧ w'.cell? ⟨b2, o2 + k, none⟩ = some (.int .i64 y) ∧ Below wr.heap.size wr w') (first | exact ⟨hc1, hc2, (Below.refl wr.heap.size wr).drew⟩ | exact keepTwo hb3 (by assumption) g1 g2 | exact keepTwo hb4 (by assumption) g1 g2) (first
          | (go_at_call 20; refine (HCN.out _).mono ?_; rintro e w3 ⟨rfl, hb3⟩)
          | (go_at_call 94; refine (HBT.out _).mono ?_; rintro e w4 ⟨rfl, hb4⟩))
        all_goals go_wp2_with fail
        all_goals go_meet
        all_goals exact ⟨rfl, Lib.hid (And.right (And.right (by assumption : _ ∧ _ ∧ Below wr.heap.size wr _)))⟩
      case rest =>
        obtain ⟨rfl, HX⟩ := hcut
        have HB3 := Lib.hid (below_on HBW.out HX.out)
        clear hc1 hc2
        go_wp2_with fail
        go_roundw
        case rel => exact ⟨k + 1, by omega, by go_num, by rw [HCT.out], HB3.out⟩
        case measure => simp [intOf]; omega
    · obtain rfl : k = n := by omega
      have e1 : s.take k = s := List.take_of_length_le (by rw [HL1.out]; omega)
      have e2 : p.take k = p := List.take_of_length_le (by rw [HL2.out]; omega)
      rw [e1, e2]
      go_wp2_with fail
      go_ret
      exact ⟨rfl, HBW.out⟩
end Go.Proofs.YtbllboajhdmnhaaDoor
