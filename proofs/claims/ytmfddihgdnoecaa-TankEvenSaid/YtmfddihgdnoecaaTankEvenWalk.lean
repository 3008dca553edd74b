/- The walk of the law TankEven. -/
import Derived.Test.YtmfddihgdnoecaaTank2
import Derived.Test.YtmfddihgdnoecaaPush
import Derived.Test.YtmfddihgdnoecaaOpen
namespace Go.Proofs.Ytmfddihgdnoecaa
open Go.RowKit

theorem push_rep (x : Int) (k : Nat) : List.replicate k x ++ [x] = List.replicate (k + 1) x := by
  rw [List.replicate_succ']
set_option maxHeartbeats 1000000 in
theorem tankEven_walk (w : World) (s e n : Int) :
    Calls Try.prog 8 #[.int .i64 s, .int .i64 e, .int .i64 n] w fun r w' => r = .returned (.bool true) ∧ Below w.heap.size w w' := by
  by_cases hok : (0 ≤ s ∧ s ≤ 1000000) ∧ (0 ≤ e ∧ e ≤ s)
  · obtain ⟨h1, h2⟩ := hok
    have HC := Lib.hid fun W => tcheck_ok s e (s - e) W h1 h2 (by omega)
    unfold tankV at HC
    have ht : Ph.tankErr ⟨s, e, s - e⟩ = 0 := Ph.tankErr_zero.2 (by simp only; omega)
    rcases Decidable.em (0 ≤ n ∧ n ≤ 60) with hn | hn
    · obtain ⟨n, rfl⟩ := Int.eq_ofNat_of_zero_le hn.1
      have hn60 : n ≤ 60 := by omega
      have hev := Ph.run_even ⟨s, e, s - e⟩ ht rfl n
      simp only at hev
      have HR : Hid (∀ A c W, RdI W W.heap.size A n (List.replicate n e) → Calls Try.prog 24 #[tankV s e (s - e), .slice A n c] W fun r w' => r = .returned (.tuple #[.int .i64 (s - e), .nilIface]) ∧ Below W.heap.size W w') := Lib.hid fun A c W hW => by
        have := trun_ok s e (s - e) A n c (List.replicate n e) W _ hW (Nat.le_refl _) hn60 ht hev.1
        rw [hev.2] at this
        exact this
      unfold tankV at HR
      clear hev ht hn
      go_enter Try.func8, Try.ntmps8
      go_wp2_with fail
      refine (HC.out _).mono ?_
      rintro r w1 ⟨rfl, hb1⟩
      have c0 : w1.cell? ⟨w.heap.size, 0, none⟩ = some (.int .i64 s) := (hb1.cell (p := ⟨w.heap.size, 0, none⟩) (by simp)).trans (by simp)
      have c1 : w1.cell? ⟨w.heap.size, 1, none⟩ = some (.int .i64 e) := (hb1.cell (p := ⟨w.heap.size, 1, none⟩) (by simp)).trans (by simp)
      have c2 : w1.cell? ⟨w.heap.size, 2, none⟩ = some (.int .i64 (s - e)) := (hb1.cell (p := ⟨w.heap.size, 2, none⟩) (by simp)).trans (by simp)
      have hsz : w.heap.size < w1.heap.size := by have := hb1.size; simp at this; omega
      have HB1 := Lib.hid ((below_alloc0 w (.cells #[.int .i64 s, .int .i64 e, .int .i64 (s - e)] 41)).trans (hb1.mono (by simp)))
      have HC0 := Lib.hid (And.intro c0 (And.intro c1 c2))
      clear hb1 c0 c1 c2 HC
      go_wp2_with fail
      go_loopw [8, 9] (fun v i wr => ∃ (k : Nat) (A : Option Addr) (c : Nat), k ≤ n ∧ i = .int .i64 k ∧ v = .slice A k c ∧ wr.ownsRow w1.heap.size 3 1 (.slice A k c) k (ivals (List.replicate k e)) ∧ Below w1.heap.size w1 wr) (fun _ i _ => n - (intOf i).toNat)
      case atStart => exact ⟨0, none, 0, Nat.zero_le _, rfl, rfl, own_nil _ _ _, Below.refl _ _⟩
      case round =>
        obtain ⟨k, A, c, hk, rfl, rfl, hown, hbw⟩ := hrel
        have HO := Lib.hid hown
        have HBW := Lib.hid hbw
        clear hown hbw
        by_cases hlt : k < n
        · go_wp2_with (at_builtin; refine wpList_push _ (by rfl) _ _ (by rfl) w1 w1.heap.size A k c _ e HO.out HBW.out (by have := HBW.out.size; omega) (by omega) (by rfl) (by rfl) ?_; intro g cap w2 ho2 hb2)
          have HO2 := Lib.hid ho2
          have HB2 := Lib.hid hb2
          clear ho2 hb2
          go_wp2
          go_roundw
          case rel => exact ⟨k + 1, some ⟨g, 0, none⟩, cap, by omega, by go_num, rfl, by rw [← push_rep]; exact HO2.out, HB2.out⟩
          case measure => simp [intOf]; omega
        · obtain rfl : k = n := by omega
          have HW := Lib.hid (RdI.own HO.out)
          have c0 := (HBW.out.cell (p := ⟨w.heap.size, 0, none⟩) hsz).trans HC0.out.1
          have c1 := (HBW.out.cell (p := ⟨w.heap.size, 1, none⟩) hsz).trans HC0.out.2.1
          have c2 := (HBW.out.cell (p := ⟨w.heap.size, 2, none⟩) hsz).trans HC0.out.2.2
          go_wp2_with fail
          refine (HR.out _ _ _ HW.out).mono ?_
          rintro r w3 ⟨rfl, hb3⟩
          have HB3 := Lib.hid (HB1.out.trans ((HBW.out.trans (hb3.mono HBW.out.size)).mono (by omega)))
          clear hb3 c0 c1 c2 HR
          go_wp2_with fail
          go_ret
          exact ⟨ret_true (by simp), HB3.out⟩
    · clear ht
      rcases Int.lt_or_le n 0 with hn0 | hn0
      all_goals
        try have hn1 : 60 < n := by omega
        clear hn
        go_enter Try.func8, Try.ntmps8
        go_wp2_with fail
        refine (HC.out _).mono ?_
        rintro r w1 ⟨rfl, hb1⟩
        have HB1 := Lib.hid ((below_alloc0 w (.cells #[.int .i64 s, .int .i64 e, .int .i64 (s - e)] 41)).trans (hb1.mono (by simp)))
        clear hb1 HC
        go_wp2_with fail
        go_ret
        exact ⟨rfl, HB1.out⟩
  · have HC := Lib.hid fun W q => tcheck_no s e q W (by omega)
    unfold tankV at HC
    obtain ⟨d, hd⟩ : ∃ d, d = wrap64 (s - e) := ⟨_, rfl⟩
    go_enter Try.func8, Try.ntmps8
    go_wp2_with fail
    refine (HC.out _ _).mono ?_
    rintro r w1 ⟨rfl, hb1⟩
    have HB1 := Lib.hid ((below_alloc0 w _).trans (hb1.mono (by simp)))
    clear hb1 HC
    go_wp2_with fail
    go_ret
    exact ⟨rfl, HB1.out⟩
end Go.Proofs.Ytmfddihgdnoecaa
