/- Walks: how many bits a share needs, how many bytes a row at most (chapter 11), what a row costs (chapter 12). -/
import Derived.Test.YtapjnfhbjmeniaaRefHorn2
namespace Go.Proofs.Ytapjnfhbjmeniaa
open Go.RowKit

set_option maxHeartbeats 1000000 in
theorem hneed_any (F : Nat) (w : World) (h : 1 ≤ F ∧ F ≤ 256) :
    Calls Try.prog 50 #[.int .i64 F] w fun e w' => e = .returned (.int .i64 (Ph.need F : Nat)) ∧ w = w' := by
  have HST := Lib.hid fun j hj => need_step (F := F) (j := j) h.1 h.2 hj
  have hne := Ph.need_le F
  obtain ⟨N, hN⟩ : ∃ N, N = Ph.need F := ⟨_, rfl⟩
  rw [← hN] at HST hne ⊢
  clear hN
  go_enter Try.func50, Try.ntmps50
  go_wp2_with fail
  go_loop [3] (fun t => ∃ j : Nat, j ≤ N ∧ t = .int .i64 j) (fun t => N - (intOf t).toNat)
  case atStart => exact ⟨0, Nat.zero_le _, rfl⟩
  case round =>
    obtain ⟨j, hj, rfl⟩ := hrel
    have hst := HST.out j hj
    have he : (F : Int) * 2 ^ j = ((F * 2 ^ j : Nat) : Int) := by simp
    have hw : IntKind.i64.wrap ((F : Int) * 2 ^ j) = (F : Int) * 2 ^ j := by rw [he]; exact IntWalk.i64_in _ (by omega)
    by_cases hjN : j < N
    · have hs256 : (F : Int) * 2 ^ j < 256 := by rw [he]; have := hst.1.2 hjN; omega
      clear hst he
      go_wp2_with fail
      go_round
      case rel => exact ⟨j + 1, by omega, by go_num⟩
      case measure => simp [intOf]; omega
    · obtain rfl : j = N := by omega
      have hs256 : ¬ (F : Int) * 2 ^ j < 256 := by rw [he]; intro h; have := hst.1.1 (by omega); omega
      clear hst he
      go_wp2_with fail
      go_ret
      exact ⟨rfl, rfl⟩
theorem hmost_told (A1 : Option Addr) (n1 c1 : Nat) (f : List Int) (A2 : Option Addr) (n2 c2 : Nat) (l : List Int) (w : World) (B : Nat) (h1 : RdI w B A1 n1 f) (h2 : RdI w B A2 n2 l) (hn1 : n1 ≤ 100000000000000) :
    Calls Try.prog 33 #[.slice A1 n1 c1, .slice A2 n2 c2] w fun e w' => e = .returned (.tuple #[.int .i64 (if hornErr f l = 0 then 4 + ((Ph.needs f l : Nat) : Int) / 8 else 0), errV (hornErr f l)]) ∧ w = w' := by
  have HC := Lib.hid fun W hW1 hW2 => hcheck_any A1 n1 c1 f A2 n2 c2 l W B hW1 hW2 hn1
  have H1 := Lib.hid h1
  have H2 := Lib.hid h2
  by_cases h0 : hornErr f l = 0
  · obtain ⟨hf, hl60, hgood⟩ := hornErr_zero.1 h0
    rw [if_pos h0]
    rw [h0, errV_zero] at HC ⊢
    have HL1 := Lib.hid h1.len
    have HL2 := Lib.hid h2.len
    have hn60 : n2 ≤ 60 := by rw [← h2.len]; exact hl60
    have HF := Lib.hid hf
    have HGD := Lib.hid hgood
    clear h1 h2 h0 hf hl60 hgood
    go_enter Try.func33, Try.ntmps33
    go_wp2_with fail
    refine (HC.out _ H1.out H2.out).mono ?_
    rintro e wk ⟨rfl, rfl⟩
    go_wp2_with fail
    go_loop [7, 9, 18] (fun t _ i => ∃ k : Nat, k ≤ n2 ∧ i = .int .i64 k ∧ t = .int .i64 (Ph.needs f (l.take k) : Nat)) (fun _ _ i => n2 - (intOf i).toNat)
    case atStart => exact ⟨0, Nat.zero_le _, rfl, rfl⟩
    case round =>
      obtain ⟨k, hk, rfl, rfl⟩ := hrel
      have hnl := needs_le f (l.take k)
      have hlen : (l.take k).length ≤ 60 := by rw [List.length_take]; omega
      by_cases hlt : k < n2
      · obtain ⟨b, off, rfl, _, hc⟩ := H2.out.at_ hlt
        have hkl : k < l.length := by rw [HL2.out]; exact hlt
        have hg := HGD.out _ (Ph.getD_mem (l := l) (i := k) hkl)
        have hgb := Ph.good_bd HF.out hg
        have HNT := Lib.hid (needs_take f l k hkl)
        obtain ⟨x, hx⟩ : ∃ x, x = l.getD k 0 := ⟨_, rfl⟩
        rw [← hx] at hc hg hgb HNT
        obtain ⟨X, rfl⟩ := Int.eq_ofNat_of_zero_le hg.1
        rw [Int.toNat_natCast] at hgb HNT
        have hXf : X < f.length := by have := hg.2.1; omega
        have hXn : X < n1 := by rw [← HL1.out]; exact hXf
        obtain ⟨b1, o1, rfl, _, hc1⟩ := H1.out.at_ hXn
        have hfx : f.getD X 0 = (Ph.sh f X : Nat) := by unfold Ph.sh; have := (HF.out.2.2.1 _ (Ph.getD_mem hXf)).1; omega
        rw [hfx] at hc1
        have HND := Lib.hid fun W => hneed_any (Ph.sh f X) W ⟨hgb.1, hgb.2.1⟩
        have hne := Ph.need_le (Ph.sh f X)
        obtain ⟨F, hF⟩ : ∃ F, F = Ph.sh f X := ⟨_, rfl⟩
        obtain ⟨N, hN⟩ : ∃ N, N = Ph.need F := ⟨_, rfl⟩
        rw [← hF] at hc1 HND HNT hne
        rw [← hN] at HND HNT hne
        obtain ⟨T, hT⟩ : ∃ T, T = Ph.needs f (l.take k) := ⟨_, rfl⟩
        rw [← hT] at HNT hnl ⊢
        have hTb : T ≤ 480 := by omega
        have hlt' : (k : Int) < (n2 : Int) := by omega
        have hX0 : (0 : Int) ≤ (X : Int) := by omega
        have hX1 : (X : Int) < (n1 : Int) := by omega
        clear hx hg hgb hfx hF hN hT hkl hlen hnl hXf
        go_wp2_with fail
        refine (HND.out _).mono ?_
        rintro e wk ⟨rfl, rfl⟩
        go_wp2_with fail
        go_round
        case rel => exact ⟨k + 1, by omega, by go_num, by rw [HNT.out]; go_num⟩
        case measure => simp [intOf]; omega
      · obtain rfl : k = n2 := by omega
        have hall : Hid (l.take k = l) := Lib.hid (List.take_of_length_le (by rw [HL2.out]; omega))
        rw [hall.out] at hnl ⊢
        have hll : l.length ≤ 60 := by rw [HL2.out]; exact hn60
        obtain ⟨T, hT⟩ : ∃ T, T = Ph.needs f l := ⟨_, rfl⟩
        rw [← hT] at hnl ⊢
        have HT := Lib.hid hT
        have q1 : ((T : Int)).tdiv 8 = (T : Int) / 8 := Int.tdiv_eq_ediv_of_nonneg (by omega)
        have q2 : 0 ≤ (T : Int) / 8 ∧ (T : Int) / 8 ≤ 60 := by omega
        have HFN : Hid (4 + (T : Int) / 8 = 3 + (T : Int) / 8 + 1) := Lib.hid (by omega)
        clear hT hlen hall hlt
        go_wp2_with fail
        go_ret2
        exact ⟨ret_two (by rw [← HT.out, HFN.out]; rfl) rfl, rfl⟩
  · rw [if_neg h0]
    have he := errV_ne h0
    rw [he] at HC ⊢
    clear h1 h2 h0 he
    go_enter Try.func33, Try.ntmps33
    go_wp2_with fail
    refine (HC.out _ H1.out H2.out).mono ?_
    rintro e wk ⟨rfl, rfl⟩
    go_wp2_with fail
    go_ret2
    exact ⟨rfl, rfl⟩
end Go.Proofs.Ytapjnfhbjmeniaa
