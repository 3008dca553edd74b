/- The document's answers, walked (chapter 9): how many numbers bands have, and numbers cut. -/
import Derived.Test.YtlilommhdjdblaaDoorJoin
namespace Go.Proofs.YtlilommhdjdblaaDoor
open Go.RowKit

/-- How many numbers bands have, if they are right. -/
def bandN (s : List Int) : Int := if Ph.bandErr s = 0 then Ph.total s else 0
theorem bandErr_bad {s : List Int} {k : Nat} (h0 : s.length ≠ 0) (h8 : s.length ≤ 8) (hk : k < s.length) (hx : ¬ (1 ≤ s.getD k 0 ∧ s.getD k 0 ≤ 6)) : Ph.bandErr s = 1 := by
  unfold Ph.bandErr
  rw [if_neg h0, if_neg (by omega), if_neg]
  intro h
  rw [List.all_eq_true] at h
  have := h _ (Ph.getD_mem hk)
  simp at this
  exact hx (by simpa using this)
theorem bandErr_ok {s : List Int} (h0 : s.length ≠ 0) (h8 : s.length ≤ 8) (hx : ∀ k, k < s.length → 1 ≤ s.getD k 0 ∧ s.getD k 0 ≤ 6) : Ph.bandErr s = if 32 < Ph.total s then 4 else 0 := by
  unfold Ph.bandErr
  rw [if_neg h0, if_neg (by omega), if_pos]
  rw [List.all_eq_true]
  intro x hm
  obtain ⟨i, hi, rfl⟩ := List.mem_iff_getElem.1 hm
  have := hx i hi
  rw [List.getD_eq_getElem?_getD, List.getElem?_eq_getElem hi] at this
  simpa using this
set_option maxHeartbeats 1000000 in
theorem rbands_any (A : Option Addr) (n c : Nat) (s : List Int) (w : World) (B : Nat) (h : RdI w B A n s) (hn : n ≤ 100000000000000) :
    Calls Tryd.prog 29 #[.slice A n c] w fun e w' => e = .returned (.tuple #[.int .i64 (bandN s), .int .i64 (Ph.bandErr s)]) ∧ w = w' := by
  have hl := h.len
  by_cases hz : n = 0
  · have e : Ph.bandErr s = 5 := by unfold Ph.bandErr; rw [if_pos (by omega)]
    have e2 : bandN s = 0 := by unfold bandN; rw [e, if_neg (by omega)]
    rw [e, e2]
    subst hz
    clear hl e e2 h
    go_enter Tryd.func29, Tryd.ntmps29
    go_wp2_with fail
    go_ret2
    exact ⟨rfl, rfl⟩
  · have hnn : ((n : Int) == 0) = false := by simp; omega
    by_cases h8 : 8 < n
    · have e : Ph.bandErr s = 4 := by unfold Ph.bandErr; rw [if_neg (by omega), if_pos (by omega)]
      have e2 : bandN s = 0 := by unfold bandN; rw [e, if_neg (by omega)]
      rw [e, e2]
      clear hl e e2 h
      go_enter Tryd.func29, Tryd.ntmps29
      go_wp2_with fail
      go_ret2
      exact ⟨rfl, rfl⟩
    · have HB := Lib.hid fun k (hk : k < n) hx => bandErr_bad (s := s) (k := k) (by omega) (by omega) (by omega) hx
      have HK := Lib.hid fun hx => bandErr_ok (s := s) (by omega) (by omega) hx
      have HN : Hid (bandN s = if Ph.bandErr s = 0 then Ph.total s else 0) := Lib.hid rfl
      have H := Lib.hid h
      have HL := Lib.hid hl
      obtain ⟨E, hE⟩ : ∃ E, E = Ph.bandErr s := ⟨_, rfl⟩
      obtain ⟨N, hN⟩ : ∃ N, N = bandN s := ⟨_, rfl⟩
      rw [← hE] at HB HK HN ⊢
      rw [← hN] at HN ⊢
      clear hE hN hl h hz
      go_enter Tryd.func29, Tryd.ntmps29
      go_wp2_with fail
      go_loop [4, 5] (fun t i => ∃ k : Nat, k ≤ n ∧ i = .int .i64 k ∧ t = .int .i64 (Ph.total (s.take k)) ∧ Hid (∀ j, j < k → 1 ≤ s.getD j 0 ∧ s.getD j 0 ≤ 6) ∧ (0 ≤ Ph.total (s.take k) ∧ Ph.total (s.take k) ≤ 6 * k)) (fun _ i => n - (intOf i).toNat)
      case atStart => exact ⟨0, Nat.zero_le _, rfl, rfl, Lib.hid fun j hj => absurd hj (by omega), by simp [Ph.total]⟩
      case round =>
        obtain ⟨k, hk, rfl, rfl, HJ, htb⟩ := hrel
        by_cases hlt : k < n
        · obtain ⟨b, off, rfl, _, hc⟩ := H.out.at_ hlt
          have hts : Hid (Ph.total (s.take (k + 1)) = Ph.total (s.take k) + s.getD k 0) := Lib.hid (by rw [Ph.take_snoc s k (by rw [HL.out]; exact hlt), Ph.total_snoc])
          have hbad := HB.out k hlt
          have hext : 1 ≤ s.getD k 0 ∧ s.getD k 0 ≤ 6 → ∀ j, j < k + 1 → 1 ≤ s.getD j 0 ∧ s.getD j 0 ≤ 6 := fun hx j hj => by
            by_cases e : j < k
            · exact HJ.out j e
            · obtain rfl : j = k := by omega
              exact hx
          have HXT := Lib.hid hext
          obtain ⟨x, hx⟩ : ∃ x, x = s.getD k 0 := ⟨_, rfl⟩
          rw [← hx] at hc hts hbad HXT
          obtain ⟨T, hT⟩ : ∃ T, T = Ph.total (s.take k) := ⟨_, rfl⟩
          rw [← hT] at hts htb ⊢
          clear hx hT hext
          have hlt' : (k : Int) < (n : Int) := by omega
          by_cases hx1 : x < 1
          · have hE1 : E = 1 := hbad (by omega)
            have hN0 : N = 0 := by rw [HN.out, hE1, if_neg (by omega)]
            subst hE1
            subst hN0
            clear hbad
            go_wp2_with fail
            go_ret2
            exact ⟨rfl, rfl⟩
          · by_cases hx6 : 6 < x
            · have hE1 : E = 1 := hbad (by omega)
              have hN0 : N = 0 := by rw [HN.out, hE1, if_neg (by omega)]
              subst hE1
              subst hN0
              clear hbad
              go_wp2_with fail
              go_ret2
              exact ⟨rfl, rfl⟩
            · have HT2 := Lib.hid hts
              have HJ2 := Lib.hid (HXT.out (by omega))
              have hxb : 1 ≤ x ∧ x ≤ 6 := by omega
              clear hbad hts
              go_wp2_with fail
              go_round
              case rel => exact ⟨k + 1, by omega, by go_num, by rw [HT2.out.out], HJ2, by rw [HT2.out.out]; omega⟩
              case measure => simp [intOf]; omega
        · obtain rfl : k = n := by omega
          have hall : Hid (s.take k = s) := Lib.hid (List.take_of_length_le (by rw [HL.out]; omega))
          have hE := HK.out fun j hj => HJ.out j (by rw [HL.out] at hj; exact hj)
          have hN := HN.out
          rw [hall.out] at htb ⊢
          obtain ⟨T, hT⟩ : ∃ T, T = Ph.total s := ⟨_, rfl⟩
          rw [← hT] at hE hN htb ⊢
          clear hT hlt
          by_cases h32 : 32 < T
          · rw [if_pos h32] at hE
            rw [hE, if_neg (by omega)] at hN
            subst hE
            subst hN
            go_wp2_with fail
            go_ret2
            exact ⟨rfl, rfl⟩
          · rw [if_neg h32] at hE
            rw [hE, if_pos rfl] at hN
            subst hE
            subst hN
            go_wp2_with fail
            go_ret2
            exact ⟨rfl, rfl⟩
set_option maxHeartbeats 1000000 in
theorem rcut_any (A1 : Option Addr) (n1 c1 : Nat) (l : List Int) (A2 : Option Addr) (n2 c2 : Nat) (s : List Int) (w : World) (B : Nat) (h1 : RdI w B A1 n1 l) (hc1 : n1 ≤ c1) (h2 : RdI w B A2 n2 s) (hB : B ≤ w.heap.size) (hp : ∀ x ∈ s, 1 ≤ x ∧ x ≤ 6) (hn : n2 ≤ 8) (ht : Ph.total s = n1) :
    Calls Tryd.prog 46 #[.slice A1 n1 c1, .slice A2 n2 c2] w fun e w' => ∃ A c, e = .returned (.slice A n2 c) ∧ RdR w' w'.heap.size A n2 (Ph.cut l s) ∧ Below w.heap.size w w' := by
  have H2 := Lib.hid h2
  have HL2 := Lib.hid h2.len
  have HP := Lib.hid hp
  have HT := Lib.hid ht
  have H1 := Lib.hid h1
  have HL1 := Lib.hid h1.len
  have hn32 : n1 ≤ 48 := by
    have := Ph.total_le (l := s) (m := 6) fun x hx => (hp x hx).2
    rw [h2.len] at this; omega
  clear h1 h2 hp ht
  go_enter Tryd.func46, Tryd.ntmps46
  go_wp2_with fail
  go_loopw [5, 6, 7] (fun o t i wr => ∃ (k a : Nat) (A : Option Addr) (c : Nat) (vs : List Value) (ls : List (List Int)), k ≤ n2 ∧ a ≤ 48 ∧ i = .int .i64 k ∧ t = .int .i64 a ∧ o = .slice A k c ∧ wr.ownsRow w.heap.size 22 1 (.slice A k c) k vs ∧ Hid (RowsV w w.heap.size vs ls) ∧ Hid (ls ++ Ph.cut (l.drop a) (s.drop k) = Ph.cut l s ∧ Ph.total (s.drop k) = (n1 : Int) - a) ∧ Below w.heap.size w wr) (fun _ _ i _ => n2 - (intOf i).toNat)
  case atStart => exact ⟨0, 0, none, 0, [], [], Nat.zero_le _, by omega, rfl, rfl, rfl, World.ownsRow_nil w _ _ _, Lib.hid trivial, Lib.hid ⟨rfl, by simpa using HT.out⟩, Below.refl _ _⟩
  case round =>
    obtain ⟨k, a, A, c, vs, ls, hk, ha, rfl, rfl, rfl, hown, HV, HI, hbw⟩ := hrel
    rename World => wr
    have HO := Lib.hid hown
    have HBW := Lib.hid hbw
    clear hown hbw
    by_cases hlt : k < n2
    · obtain ⟨b2, o2, rfl, hbb2, hc2w⟩ := H2.out.at_ hlt
      have hc2 := (HBW.out.cell (p := ⟨b2, o2 + k, none⟩) (Nat.lt_of_lt_of_le hbb2 hB)).trans hc2w
      have hbl2 := Nat.lt_of_lt_of_le hbb2 hB
      have hkl : k < s.length := by rw [HL2.out]; exact hlt
      have hx := HP.out _ (Ph.getD_mem (l := s) (i := k) hkl)
      have hct := cut_step s (l.drop a) k hkl
      have htd := total_drop s k hkl
      have htn := Ph.total_nonneg (l := s.drop (k + 1)) (fun x hx => by have := HP.out x (List.mem_of_mem_drop hx); omega)
      have hti := HI.out.2
      obtain ⟨x, hxe⟩ : ∃ x, x = s.getD k 0 := ⟨_, rfl⟩
      rw [← hxe] at hc2 hc2w hx hct htd
      have hxn : x ≤ (n1 : Int) - a := by omega
      obtain ⟨X, hX⟩ : ∃ X : Nat, x = X := ⟨x.toNat, by omega⟩
      subst hX
      have hX6 : a + X ≤ n1 := by omega
      have hca : ¬ c1 = a := by omega
      have HCT := Lib.hid hct
      have HTD := Lib.hid htd
      have k1 : IntKind.i64.wrap ((a : Int) + (X : Int)) = (a : Int) + (X : Int) := IntWalk.i64_in _ (by omega)
      have k2 : ((a : Int) + (X : Int)).toNat = a + X := by omega
      have k3 : (0 : Int) ≤ (a : Int) + (X : Int) := by omega
      have k4 : (a : Int) + (X : Int) ≤ (c1 : Int) := by omega
      have k5 : (a : Int) ≤ (a : Int) + (X : Int) := by omega
      have k6 : (a : Int) ≤ (c1 : Int) := by omega
      have k7 : a + X - a = X := by omega
      have K2 := Lib.hid (And.intro hbl2 hc2w)
      have hlen : ((l.drop a).take X).length = X := by rw [List.length_take, List.length_drop, HL1.out]; omega
      have HRW : Hid (RowV w w.heap.size (.slice (A1.map fun x => x.add a) X (c1 - a)) ((l.drop a).take X)) := by
        refine Lib.hid ⟨A1.map fun x => x.add a, c1 - a, by rw [hlen], ⟨by rw [hlen]; omega, fun hn => ?_⟩, ?_⟩
        · obtain ⟨b, off, rfl, _, _⟩ := H1.out.at_ (k := 0) (by omega)
          cases hn
        · rw [hlen]
          have hd := (H1.out.more hB).drop_if (k := a) (cap := c1) (by omega) hc1
          rw [if_neg hca] at hd
          exact hd.take (by omega)
      clear hct htd htn hti hxe hc2w hbb2 hbl2 hlen
      go_wp2_with (at_builtin; refine wpList_pushR _ (by rfl) _ _ (by rfl) w w.heap.size A k c vs (.slice (A1.map fun x => x.add a) X (c1 - a)) HO.out HBW.out HBW.out.size (by rfl) (by omega) (by rfl) (by rfl) ?_; intro g cap w6 ho6 hb6 _; have hc6 := (hb6.cell K2.out.1).trans K2.out.2)
      have HO6 := Lib.hid ho6
      have HB6 := Lib.hid hb6
      clear ho6 hb6
      go_wp2_with fail
      go_roundw
      case rel =>
        refine ⟨k + 1, a + X, some ⟨g, 0, none⟩, cap, vs ++ [.slice (A1.map fun x => x.add a) X (c1 - a)], ls ++ [(l.drop a).take X], by omega, by omega, by go_num, by go_num, rfl, HO6.out, Lib.hid (HV.out.snoc HRW.out), Lib.hid ⟨?_, ?_⟩, HB6.out⟩
        · have h1 := HI.out.1
          rw [HCT.out, Int.toNat_natCast, List.drop_drop] at h1
          rw [List.append_assoc]; exact h1
        · have h1 := HI.out.2
          have h2 := HTD.out
          omega
      case measure => simp [intOf]; omega
    · have hkn : k = n2 := by omega
      have hd : s.drop k = [] := List.drop_of_length_le (by rw [HL2.out]; omega)
      have hls : ls = Ph.cut l s := by have := HI.out.1; rw [hd] at this; simpa [Ph.cut] using this
      have HKN := Lib.hid hkn
      have HLS := Lib.hid hls
      clear hkn hd hls
      go_wp2_with fail
      go_ret
      have := HO.out
      rw [HKN.out] at this
      refine ⟨A, c, by rw [HKN.out]; rfl, ?_, HBW.out⟩
      rw [← HLS.out]
      exact RdR.own this ((HV.out.below HBW.out).more HBW.out.size)
end Go.Proofs.YtlilommhdjdblaaDoor
