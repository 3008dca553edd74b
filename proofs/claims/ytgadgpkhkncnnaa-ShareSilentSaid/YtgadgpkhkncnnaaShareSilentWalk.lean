/- The walk of the law ShareSilent. -/
import Derived.Test.YtgadgpkhkncnnaaShare3
import Derived.Test.YtgadgpkhkncnnaaOpen
namespace Go.Proofs.Ytgadgpkhkncnnaa
open Go.RowKit

theorem made_ownL (W : World) (n : Nat) (hn : n ≤ 17592186044416) : (W.alloc (.cells (madeCells #[.int .i64 0] n) 3)).ownsRow W.heap.size 3 1 (.slice (some ⟨W.heap.size, 0, none⟩) n n) n (ivals (List.replicate n 0)) := by
  have := World.ownsRow_lit (base := W.heap.size) (e := 3) (size := 1) W (madeCells #[.int .i64 0] n) n (Nat.le_refl _) (by unfold maxLen; omega) (by rw [size_madeCells, Nat.mul_one])
  rw [toList_madeCells_one] at this
  rw [show ivals (List.replicate n 0) = List.replicate n (.int .i64 0) by simp [ivals]]
  exact this
theorem zeros_getD (n i : Nat) : (List.replicate n (0 : Int)).getD i 0 = 0 := by
  rw [List.getD_eq_getElem?_getD, List.getElem?_replicate]; split <;> rfl
set_option maxHeartbeats 1000000 in
theorem shareSilent_walk (w : World) (A : Option Addr) (n c : Nat) (s : List Int) (h : RdI w w.heap.size A n s) (hb : n ≤ c ∧ c ≤ 17592186044415) (_ : ∀ x ∈ s, Is64 x) (bits : Int) :
    Calls Try.prog 6 #[.slice A n c, .int .i64 bits] w fun e w' => e = .returned (.bool true) ∧ Below w.heap.size w w' := by
  have hmk := make_ints n (by omega)
  have hown0 := made_ownL w n (by omega)
  have HR0 := Lib.hid (RdI.own hown0)
  have HB0 := Lib.hid (below_alloc0 w (.cells (madeCells #[.int .i64 0] n) 3))
  have hl := h.len
  obtain ⟨z, hz⟩ : ∃ z, z = List.replicate n (0 : Int) := ⟨_, rfl⟩
  rw [← hz] at HR0
  by_cases h0 : shareErr s z bits = 0
  · have hs := shareErr_zero.1 h0
    have hV : Ph.shareOf s z bits = z := by
      rw [hz, Ph.share_silent (fun i => zeros_getD n i), hl]
    have hC : Ph.cost s z = 0 := by rw [hz, ← hl]; exact Ph.cost_zeros s
    have HO := Lib.hid fun W hW1 hW2 hBW => shof_ok A n c s (some ⟨w.heap.size, 0, none⟩) n n z bits W (w.heap.size + 1) hW1 hW2 hBW h0
    have HLF := Lib.hid fun W hW1 hW2 hBW => left_ok A n c s (some ⟨w.heap.size, 0, none⟩) n n z bits W (w.heap.size + 1) hW1 hW2 hBW h0
    rw [hV] at HO HLF
    rw [hC, Int.sub_zero] at HLF
    have hzl : z.length = n := by rw [hz, List.length_replicate]
    have HZL := Lib.hid hzl
    have HZ : Hid (∀ i, z.getD i 0 = 0) := Lib.hid fun i => by rw [hz]; exact zeros_getD n i
    have hsz : (w.alloc (.cells (madeCells #[.int .i64 0] n) 3)).heap.size = w.heap.size + 1 := World.size_alloc _ _
    have H1 := Lib.hid (h.onAlloc (.cells (madeCells #[.int .i64 0] n) 3))
    rw [hsz] at H1 HR0
    have hsz2 : w.heap.size + 1 ≤ (w.alloc (.cells (madeCells #[.int .i64 0] n) 3)).heap.size := by rw [hsz]; exact Nat.le_refl _
    have HSZ := Lib.hid hsz2
    clear h h0 hs hV hC hzl hz hl hsz hsz2 hown0
    go_enter Try.func6, Try.ntmps6
    go_wp2_with fail
    refine (HO.out _ H1.out HR0.out HSZ.out).mono ?_
    rintro e w2 ⟨A2, c2, rfl, ho, hb2⟩
    rw [HZL.out] at ho ⊢
    have HK := Lib.hid (RdI.own ho)
    have H1b := Lib.hid (H1.out.below (hb2.mono HSZ.out))
    have HR1 := Lib.hid (HR0.out.below (hb2.mono HSZ.out))
    have HB2 := Lib.hid (below_on HB0.out hb2)
    have HS2 := Lib.hid (Nat.le_trans HSZ.out hb2.size)
    clear ho hb2 HO
    go_wp2_with fail
    refine (HLF.out _ H1b.out HR1.out HS2.out).mono ?_
    rintro e w3 ⟨rfl, hb3⟩
    have HK3 := Lib.hid (HK.out.on hb3)
    have HB3 := Lib.hid (below_on HB2.out hb3)
    clear hb3 HLF
    go_wp2_with fail
    go_loop [10] (fun i => ∃ k : Nat, k ≤ n ∧ i = .int .i64 k) (fun i => n - (intOf i).toNat)
    case atStart => exact ⟨0, Nat.zero_le _, rfl⟩
    case round =>
      obtain ⟨k, hk, rfl⟩ := hrel
      by_cases hlt : k < n
      · obtain ⟨b, off, rfl, _, hc⟩ := HK3.out.at_ hlt
        rw [HZ.out k] at hc
        have hlt' : (k : Int) < (n : Int) := by omega
        go_wp2_with fail
        go_round
        case rel => exact ⟨k + 1, by omega, by go_num⟩
        case measure => simp [intOf]; omega
      · obtain rfl : k = n := by omega
        go_wp2_with fail
        go_ret
        exact ⟨ret_true (by simp), HB3.out⟩
  · have HO := Lib.hid fun W hW1 hW2 => shof_no A n c s (some ⟨w.heap.size, 0, none⟩) n n z bits W (w.heap.size + 1) hW1 hW2 (by omega) (by omega) h0
    have HLF := Lib.hid fun W hW1 hW2 => left_no A n c s (some ⟨w.heap.size, 0, none⟩) n n z bits W (w.heap.size + 1) hW1 hW2 (by omega) (by omega) h0
    have hev := errV_ne h0
    obtain ⟨E, hE⟩ : ∃ E, E = shareErr s z bits := ⟨_, rfl⟩
    rw [← hE] at HO HLF hev
    rw [hev] at HO HLF
    have hsz : (w.alloc (.cells (madeCells #[.int .i64 0] n) 3)).heap.size = w.heap.size + 1 := World.size_alloc _ _
    have H1 := Lib.hid (h.onAlloc (.cells (madeCells #[.int .i64 0] n) 3))
    rw [hsz] at H1 HR0
    clear h h0 hz hl hsz hown0 hev hE
    go_enter Try.func6, Try.ntmps6
    go_wp2_with fail
    refine (HO.out _ H1.out HR0.out).mono ?_
    rintro e wk ⟨rfl, rfl⟩
    go_wp2_with fail
    refine (HLF.out _ H1.out HR0.out).mono ?_
    rintro e wk ⟨rfl, rfl⟩
    go_wp2_with fail
    go_ret
    exact ⟨ret_true (by simp), HB0.out⟩
end Go.Proofs.Ytgadgpkhkncnnaa
