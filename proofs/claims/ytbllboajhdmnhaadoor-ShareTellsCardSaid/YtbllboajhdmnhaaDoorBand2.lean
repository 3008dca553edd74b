/- Walks: bands cut (chapter 9). -/
import Derived.Test.YtbllboajhdmnhaaDoorBand
import Derived.Test.YtbllboajhdmnhaaDoorSRows
import Derived.Test.YtbllboajhdmnhaaDoorTree2
namespace Go.Proofs.YtbllboajhdmnhaaDoor
open Go.RowKit

theorem cut_step (s l : List Int) (k : Nat) (hk : k < s.length) : Ph.cut (l) (s.drop k) = l.take (s.getD k 0).toNat :: Ph.cut (l.drop (s.getD k 0).toNat) (s.drop (k + 1)) := by
  have e : s.drop k = s.getD k 0 :: s.drop (k + 1) := by
    rw [List.getD_eq_getElem?_getD, List.getElem?_eq_getElem hk]; exact List.drop_eq_getElem_cons hk
  rw [e]; rfl
theorem total_drop (s : List Int) (k : Nat) (hk : k < s.length) : Ph.total (s.drop k) = s.getD k 0 + Ph.total (s.drop (k + 1)) := by
  have e : s.drop k = s.getD k 0 :: s.drop (k + 1) := by
    rw [List.getD_eq_getElem?_getD, List.getElem?_eq_getElem hk]; exact List.drop_eq_getElem_cons hk
  rw [e]; rfl
set_option maxHeartbeats 1000000 in
theorem cut_any (A1 : Option Addr) (n1 c1 : Nat) (l : List Int) (A2 : Option Addr) (n2 c2 : Nat) (s : List Int) (w : World) (B : Nat) (h1 : RdI w B A1 n1 l) (hc1 : n1 ≤ c1) (h2 : RdI w B A2 n2 s) (hB : B ≤ w.heap.size) (hp : ∀ x ∈ s, 1 ≤ x ∧ x ≤ 6) (hn : n2 ≤ 8) (ht : Ph.total s = n1) :
    Calls Tryd.prog 120 #[.slice A1 n1 c1, .slice A2 n2 c2] w fun e w' => ∃ A c vs, e = .returned (.slice A n2 c) ∧ w'.ownsRow w.heap.size 22 1 (.slice A n2 c) n2 vs ∧ OwnsV w' w.heap.size vs (Ph.cut l s) ∧ Below w.heap.size w w' := by
  have H2 := Lib.hid h2
  have HL2 := Lib.hid h2.len
  have HP := Lib.hid hp
  have HT := Lib.hid ht
  have H1 := Lib.hid h1
  have hn32 : n1 ≤ 48 := by
    have := Ph.total_le (l := s) (m := 6) fun x hx => (hp x hx).2
    rw [h2.len] at this; omega
  clear h1 h2 hp ht
  go_enter Tryd.func120, Tryd.ntmps120
  go_wp2_with fail
  go_loopw [0, 5, 10] (fun q o i wr => ∃ (k n' c' : Nat) (A' A : Option Addr) (c : Nat) (vs : List Value) (l' : List Int) (ls : List (List Int)), k ≤ n2 ∧ i = .int .i64 k ∧ q = .slice A' n' c' ∧ n' ≤ c' ∧ n' ≤ 48 ∧ Hid (RdI wr B A' n' l') ∧ o = .slice A k c ∧ wr.ownsRow w.heap.size 22 1 (.slice A k c) k vs ∧ OwnsV wr w.heap.size vs ls ∧ Hid (ls ++ Ph.cut l' (s.drop k) = Ph.cut l s ∧ Ph.total (s.drop k) = (n' : Int)) ∧ Below w.heap.size w wr) (fun _ _ i _ => n2 - (intOf i).toNat)
  case atStart => exact ⟨0, n1, c1, A1, none, 0, [], l, [], Nat.zero_le _, rfl, rfl, hc1, hn32, H1, rfl, World.ownsRow_nil w _ _ _, trivial, Lib.hid ⟨rfl, HT.out⟩, Below.refl _ _⟩
  case round =>
    obtain ⟨k, n', c', A', A, c, vs, l', ls, hk, rfl, rfl, hc', hn', HR, rfl, hown, hvs, HI, hbw⟩ := hrel
    have HO := Lib.hid hown
    have HV := Lib.hid hvs
    have HBW := Lib.hid hbw
    clear hown hvs hbw
    by_cases hlt : k < n2
    · obtain ⟨b2, o2, rfl, _, hc2⟩ := (H2.out.below (HBW.out.mono hB)).at_ hlt
      have hkl : k < s.length := by rw [HL2.out]; exact hlt
      have hx := HP.out _ (Ph.getD_mem (l := s) (i := k) hkl)
      have hct := cut_step s l' k hkl
      have htd := total_drop s k hkl
      have htn := Ph.total_nonneg (l := s.drop (k + 1)) (fun x hx => by have := HP.out x (List.mem_of_mem_drop hx); omega)
      have hti := HI.out.2
      obtain ⟨x, hxe⟩ : ∃ x, x = s.getD k 0 := ⟨_, rfl⟩
      rw [← hxe] at hc2 hx hct htd
      have hxn : x ≤ (n' : Int) := by omega
      obtain ⟨X, hX⟩ : ∃ X : Nat, x = X := ⟨x.toNat, by omega⟩
      subst hX
      have hX6 : X ≤ n' := by omega
      have HCT := Lib.hid hct
      have HTD := Lib.hid htd
      have HC := Lib.hid fun W hW => clone_any A' X c' (l'.take X) W B hW (by omega)
      clear hct htd htn hti hxe
      go_wp2_with fail
      refine (HC.out _ (HR.out.take hX6)).mono ?_
      rintro e w5 ⟨A5, c5, rfl, ho5, hb5⟩
      have HO1 := Lib.hid (own_below' HO.out hb5)
      have HV1 := Lib.hid (HV.out.below hb5)
      have HB5 := Lib.hid (HBW.out.trans (hb5.mono HBW.out.size))
      have HR5 := Lib.hid (HR.out.below (hb5.mono (Nat.le_trans hB HBW.out.size)))
      have hlx : (l'.take X).length = X := by rw [List.length_take, HR.out.len]; omega
      have HNV : Hid (OwnV w5 w.heap.size (.slice A5 X c5) (l'.take X)) := Lib.hid ⟨A5, c5, by rw [hlx], by rw [hlx]; exact own_more ho5 HBW.out.size⟩
      clear ho5 hb5 hlx HC HO HV HR
      go_wp2_with (at_builtin; refine wpList_pushR _ (by rfl) _ _ (by rfl) w w.heap.size A k c vs (.slice A5 X c5) HO1.out HB5.out HB5.out.size (by rfl) (by omega) (by rfl) (by rfl) ?_; intro g cap w6 ho6 hb6 hgr)
      have HO6 := Lib.hid ho6
      have HB6 := Lib.hid hb6
      have HV6 := Lib.hid (((HV1.out.alloc _).grown (HO1.out.alloc _) hgr).snoc ((HNV.out.alloc _).grown (HO1.out.alloc _) hgr))
      clear ho6 hb6 hgr HV1 HO1 HNV
      go_wp2_with fail
      have hR6 : RdI w6 B A' n' l' := Rd.keep HR5.out fun p hp => (HB6.out.cell (Nat.lt_of_lt_of_le hp hB)).trans (HB5.out.cell (Nat.lt_of_lt_of_le hp hB)).symm
      refine ⟨⟨k + 1, n' - X, c' - X, _, some ⟨g, 0, none⟩, cap, vs ++ [.slice A5 X c5], l'.drop X, ls ++ [l'.take X], by omega, by go_num, rfl, by omega, by omega, Lib.hid (hR6.drop_if hX6 hc'), rfl, HO6.out, HV6.out, Lib.hid ⟨?_, ?_⟩, HB6.out⟩, by simp [intOf]; omega⟩
      · have h1 := HI.out.1
        rw [HCT.out, Int.toNat_natCast] at h1
        rw [List.append_assoc]; exact h1
      · have h1 := HI.out.2
        have h2 := HTD.out
        omega
    · have hkn : k = n2 := by omega
      have hd : s.drop k = [] := List.drop_of_length_le (by rw [HL2.out]; omega)
      have hls : ls = Ph.cut l s := by have := HI.out.1; rw [hd] at this; simpa [Ph.cut] using this
      have HKN := Lib.hid hkn
      have HLS := Lib.hid hls
      clear hkn hd hls
      go_wp2_with fail
      go_ret
      refine ⟨A, c, vs, by rw [HKN.out]; rfl, ?_, by rw [← HLS.out]; exact HV.out, HBW.out⟩
      have := HO.out
      rw [HKN.out] at this
      exact this
theorem split_ok (A1 : Option Addr) (n1 c1 : Nat) (l : List Int) (A2 : Option Addr) (n2 c2 : Nat) (s : List Int) (w : World) (B : Nat) (h1 : RdI w B A1 n1 l) (hc1 : n1 ≤ c1) (h2 : RdI w B A2 n2 s) (hB : B ≤ w.heap.size) (h0 : Ph.bandErr s = 0) (ht : Ph.total s = n1) :
    Calls Tryd.prog 72 #[.slice A1 n1 c1, .slice A2 n2 c2] w fun e w' => ∃ A c vs, e = .returned (.tuple #[.slice A n2 c, .nilIface]) ∧ w'.ownsRow w.heap.size 22 1 (.slice A n2 c) n2 vs ∧ OwnsV w' w.heap.size vs (Ph.cut l s) ∧ Below w.heap.size w w' := by
  have hs := Ph.bandErr_zero.1 h0
  have hl2 := h2.len
  have HC := Lib.hid fun W hW => bandCheck_ok A2 n2 c2 s W B hW h0
  have HK := Lib.hid fun W hW1 hW2 hBW => cut_any A1 n1 c1 l A2 n2 c2 s W B hW1 hc1 hW2 hBW hs.2.2.1 (by omega) ht
  rw [ht] at HC
  have H1 := Lib.hid h1
  have H2 := Lib.hid h2
  clear h1 h2 h0 ht hs hl2
  go_enter Tryd.func72, Tryd.ntmps72
  go_wp2_with fail
  refine (HC.out _ H2.out).mono ?_
  rintro e w1 ⟨rfl, rfl⟩
  go_wp2_with fail
  refine (HK.out _ H1.out H2.out hB).mono ?_
  rintro e w2 ⟨A, c, vs, rfl, ho, hv, hb⟩
  have HO := Lib.hid ho
  have HV := Lib.hid hv
  have HBB := Lib.hid hb
  clear ho hv hb HK HC
  go_wp2_with fail
  go_ret2
  exact ⟨A, c, vs, rfl, HO.out, HV.out, HBB.out⟩
theorem split_no (A1 : Option Addr) (n1 c1 : Nat) (A2 : Option Addr) (n2 c2 : Nat) (s : List Int) (w : World) (B : Nat) (h2 : RdI w B A2 n2 s) (hn : n2 ≤ 100000000000000) (h0 : Ph.bandErr s ≠ 0) :
    Calls Tryd.prog 72 #[.slice A1 n1 c1, .slice A2 n2 c2] w fun e w' => e = .returned (.tuple #[.slice none 0 0, errV (Ph.bandErr s)]) ∧ w = w' := by
  have HC := Lib.hid fun W hW => bandCheck_no A2 n2 c2 s W B hW hn h0
  have he := errV_ne h0
  have H2 := Lib.hid h2
  clear h2 h0
  go_enter Tryd.func72, Tryd.ntmps72
  go_wp2_with fail
  refine (HC.out _ H2.out).mono ?_
  rintro e w1 ⟨rfl, rfl⟩
  go_wp2_with fail
  go_ret2
  exact ⟨ret_two rfl he.symm, rfl⟩
end Go.Proofs.YtbllboajhdmnhaaDoor
