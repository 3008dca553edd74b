/- Walks: bands (chapter 9). -/
import Derived.Test.YtmohilfebgahoaaGreatDoorSound
import Derived.Test.YtmohilfebgahoaaGreatDoorMem
import Derived.Test.YtmohilfebgahoaaGreatDoorPhAll
import Derived.Test.YtmohilfebgahoaaGreatDoorShelf
import Derived.Test.YtmohilfebgahoaaGreatDoorTree
import Derived.Outline
namespace Go.Proofs.YtmohilfebgahoaaGreatDoor
open Go.RowKit

/-- A size that may not be. -/
def badSize (x : Int) : Bool := decide (x < 1) || decide (6 < x)
theorem bcheck1_any (n : Int) (w : World) : Calls Tryz.prog 83 #[.int .i64 n] w fun e w' => e = .returned (.bool (badSize n)) ∧ w = w' := by
  unfold badSize
  by_cases h1 : n < 1 <;> by_cases h2 : 6 < n
  all_goals go_enter Tryz.func83, Tryz.ntmps83
  all_goals go_wp2_with fail
  all_goals go_ret
  all_goals exact ⟨ret_bool (by simp [h1, h2]), rfl⟩
theorem enters_bcheck1 : ∀ args W, (callFunc 83 args).run Tryz.prog W = .ok (.enter 83 args) W :=
  fun args W => enters_of Tryz.func83 (by kernel_rfl) rfl args W
theorem sizes_any_bad (s : List Int) : s.any badSize = false ↔ ∀ x ∈ s, 1 ≤ x ∧ x ≤ 6 := by
  rw [List.any_eq_false]
  unfold badSize
  constructor
  · intro h x hx
    have := h x hx
    simp at this; omega
  · intro h x hx
    have := h x hx
    simp; omega
theorem bandCheck_no (A : Option Addr) (n c : Nat) (s : List Int) (w : World) (B : Nat) (h : RdI w B A n s) (hn : n ≤ 100000000000000) (h0 : Ph.bandErr s ≠ 0) :
    Calls Tryz.prog 44 #[.slice A n c] w fun e w' => e = .returned (.tuple #[.int .i64 0, errV (Ph.bandErr s)]) ∧ w = w' := by
  have hl := h.len
  by_cases hz : n = 0
  · have e : Ph.bandErr s = 5 := by unfold Ph.bandErr; rw [if_pos (by omega)]
    rw [e, errV_ne (by omega)]
    subst hz
    clear hl e h h0
    go_enter Tryz.func44, Tryz.ntmps44
    go_wp2_with fail
    go_ret2
    exact ⟨rfl, rfl⟩
  · have hnn : ((n : Int) == 0) = false := by simp; omega
    by_cases h8 : 8 < n
    · have e : Ph.bandErr s = 4 := by unfold Ph.bandErr; rw [if_neg (by omega), if_pos (by omega)]
      rw [e, errV_ne (by omega)]
      clear hl e h h0
      go_enter Tryz.func44, Tryz.ntmps44
      go_wp2_with fail
      go_ret2
      exact ⟨rfl, rfl⟩
    · have HC : Hid (∀ W, RdI W B A n s → Calls Tryz.prog 82 #[.slice A n c, .func (.func 83) #[] #[]] W fun e w' => e = .returned (.bool (s.any badSize)) ∧ W = w') := Lib.hid fun W hW => any_any A n c 83 #[] s badSize W B hW (by omega) enters_bcheck1 (fun x _ => bcheck1_any x W)
      have H := Lib.hid h
      cases hany : s.any badSize
      · have hall := (sizes_any_bad s).1 hany
        have e : Ph.bandErr s = 4 := by
          rcases Int.lt_or_le 32 (Ph.total s) with ht | ht
          · unfold Ph.bandErr
            rw [if_neg (by omega), if_neg (by omega), if_pos (by
              rw [List.all_eq_true]; intro x hx; have := hall x hx; simp; omega), if_pos ht]
          · exact absurd (Ph.bandErr_zero.2 ⟨by omega, by omega, hall, ht⟩) h0
        have h32 : 32 < Ph.total s := by
          rcases Int.lt_or_le 32 (Ph.total s) with ht | ht
          · exact ht
          · exact absurd (Ph.bandErr_zero.2 ⟨by omega, by omega, hall, ht⟩) h0
        have h48 : Ph.total s ≤ 48 := by
          have := Ph.total_le (l := s) (m := 6) fun x hx => (hall x hx).2
          omega
        rw [e, errV_ne (by omega)]
        rw [hany] at HC
        have HS := Lib.hid hall
        have HL := Lib.hid hl
        clear hl e h h0 hany hall hz
        go_enter Tryz.func44, Tryz.ntmps44
        go_wp2_with fail
        refine (HC.out _ H.out).mono ?_
        rintro e w1 ⟨rfl, rfl⟩
        clear HC
        go_wp2_with fail
        go_loop [4, 23] (fun t i => ∃ k : Nat, k ≤ n ∧ i = .int .i64 k ∧ t = .int .i64 (Ph.total (s.take k))) (fun _ i => n - (intOf i).toNat)
        case atStart => exact ⟨0, Nat.zero_le _, rfl, rfl⟩
        case round =>
          obtain ⟨k, hk, rfl, rfl⟩ := hrel
          have hnn0 : ∀ x ∈ s, 0 ≤ x := fun x hx => by have := HS.out x hx; omega
          have ht0 := Ph.total_nonneg (l := s.take k) fun x hx => hnn0 x (List.mem_of_mem_take hx)
          have ht1 := Ph.total_take_le hnn0 k
          clear hnn0
          by_cases hlt : k < n
          · obtain ⟨b, off, rfl, _, hc⟩ := H.out.at_ hlt
            have hx := HS.out _ (Ph.getD_mem (l := s) (i := k) (by rw [HL.out]; exact hlt))
            simp only [List.getD_eq_getElem?_getD] at hx
            go_wp2_with fail
            go_round
            case rel => exact ⟨k + 1, by omega, by go_num, by rw [Ph.take_snoc s k (by rw [HL.out]; exact hlt), Ph.total_snoc, List.getD_eq_getElem?_getD]⟩
            case measure => simp [intOf]; omega
          · have hall : Hid (s.take k = s) := Lib.hid (List.take_of_length_le (by rw [HL.out]; omega))
            rw [hall.out]
            rw [hall.out] at ht0 ht1
            go_wp2_with fail
            go_ret2
            exact ⟨rfl, rfl⟩
      · have e : Ph.bandErr s = 1 := by
          unfold Ph.bandErr
          rw [if_neg (by omega), if_neg (by omega), if_neg (by
            intro hall
            rw [List.all_eq_true] at hall
            have : s.any badSize = false := (sizes_any_bad s).2 fun x hx => by have := hall x hx; simp at this; omega
            rw [this] at hany; cases hany)]
        rw [e, errV_ne (by omega)]
        rw [hany] at HC
        clear hl e h h0 hany hz
        go_enter Tryz.func44, Tryz.ntmps44
        go_wp2_with fail
        refine (HC.out _ H.out).mono ?_
        rintro e w1 ⟨rfl, rfl⟩
        clear HC
        go_wp2_with fail
        go_ret2
        exact ⟨rfl, rfl⟩
theorem bandCheck_ok (A : Option Addr) (n c : Nat) (s : List Int) (w : World) (B : Nat) (h : RdI w B A n s) (h0 : Ph.bandErr s = 0) :
    Calls Tryz.prog 44 #[.slice A n c] w fun e w' => e = .returned (.tuple #[.int .i64 (Ph.total s), .nilIface]) ∧ w = w' := by
  have hs := Ph.bandErr_zero.1 h0
  have hl := h.len
  have hn : n ≤ 8 := by omega
  have hn0 : 0 < n := by omega
  have hany : s.any badSize = false := (sizes_any_bad s).2 hs.2.2.1
  have HC : Hid (∀ W, RdI W B A n s → Calls Tryz.prog 82 #[.slice A n c, .func (.func 83) #[] #[]] W fun e w' => e = .returned (.bool false) ∧ W = w') := Lib.hid fun W hW => by
    have := any_any A n c 83 #[] s badSize W B hW (by omega) enters_bcheck1 (fun x _ => bcheck1_any x W)
    rw [hany] at this
    exact this
  have H := Lib.hid h
  have HL := Lib.hid hl
  have HS := Lib.hid hs
  have h32 : Ph.total s ≤ 32 := hs.2.2.2
  have hnn : ((n : Int) == 0) = false := by simp; omega
  clear h hl hs hany h0
  go_enter Tryz.func44, Tryz.ntmps44
  go_wp2_with fail
  refine (HC.out _ H.out).mono ?_
  rintro e w1 ⟨rfl, rfl⟩
  clear HC
  go_wp2_with fail
  go_loop [4, 23] (fun t i => ∃ k : Nat, k ≤ n ∧ i = .int .i64 k ∧ t = .int .i64 (Ph.total (s.take k))) (fun _ i => n - (intOf i).toNat)
  case atStart => exact ⟨0, Nat.zero_le _, rfl, rfl⟩
  case round =>
    obtain ⟨k, hk, rfl, rfl⟩ := hrel
    have hnn0 : ∀ x ∈ s, 0 ≤ x := fun x hx => by have := HS.out.2.2.1 x hx; omega
    have ht0 := Ph.total_nonneg (l := s.take k) fun x hx => hnn0 x (List.mem_of_mem_take hx)
    have ht1 := Ph.total_take_le hnn0 k
    clear hnn0
    by_cases hlt : k < n
    · obtain ⟨b, off, rfl, _, hc⟩ := H.out.at_ hlt
      have hx := HS.out.2.2.1 _ (Ph.getD_mem (l := s) (i := k) (by rw [HL.out]; exact hlt))
      simp only [List.getD_eq_getElem?_getD] at hx
      go_wp2_with fail
      go_round
      case rel => exact ⟨k + 1, by omega, by go_num, by rw [Ph.take_snoc s k (by rw [HL.out]; exact hlt), Ph.total_snoc, List.getD_eq_getElem?_getD]⟩
      case measure => simp [intOf]; omega
    · have hall : Hid (s.take k = s) := Lib.hid (List.take_of_length_le (by rw [HL.out]; omega))
      rw [hall.out]
      rw [hall.out] at ht0 ht1
      go_wp2_with fail
      go_ret2
      exact ⟨rfl, rfl⟩
end Go.Proofs.YtmohilfebgahoaaGreatDoor
/- Walks: bands cut (chapter 9). -/
namespace Go.Proofs.YtmohilfebgahoaaGreatDoor
open Go.RowKit

theorem cut_step (s l : List Int) (k : Nat) (hk : k < s.length) : Ph.cut (l) (s.drop k) = l.take (s.getD k 0).toNat :: Ph.cut (l.drop (s.getD k 0).toNat) (s.drop (k + 1)) := by
  have e : s.drop k = s.getD k 0 :: s.drop (k + 1) := by
    rw [List.getD_eq_getElem?_getD, List.getElem?_eq_getElem hk]; exact List.drop_eq_getElem_cons hk
  rw [e]; rfl
theorem total_drop (s : List Int) (k : Nat) (hk : k < s.length) : Ph.total (s.drop k) = s.getD k 0 + Ph.total (s.drop (k + 1)) := by
  have e : s.drop k = s.getD k 0 :: s.drop (k + 1) := by
    rw [List.getD_eq_getElem?_getD, List.getElem?_eq_getElem hk]; exact List.drop_eq_getElem_cons hk
  rw [e]; rfl
set_option maxHeartbeats 1000000 in
theorem cut_any (A1 : Option Addr) (n1 c1 : Nat) (l : List Int) (A2 : Option Addr) (n2 c2 : Nat) (s : List Int) (w : World) (B : Nat) (h1 : RdI w B A1 n1 l) (hc1 : n1 ≤ c1) (h2 : RdI w B A2 n2 s) (hB : B ≤ w.heap.size) (hp : ∀ x ∈ s, 1 ≤ x ∧ x ≤ 6) (hn : n2 ≤ 8) (ht : Ph.total s = n1) :
    Calls Tryz.prog 47 #[.slice A1 n1 c1, .slice A2 n2 c2] w fun e w' => ∃ A c vs, e = .returned (.slice A n2 c) ∧ w'.ownsRow w.heap.size 22 1 (.slice A n2 c) n2 vs ∧ OwnsV w' w.heap.size vs (Ph.cut l s) ∧ Below w.heap.size w w' := by
  have H2 := Lib.hid h2
  have HL2 := Lib.hid h2.len
  have HP := Lib.hid hp
  have HT := Lib.hid ht
  have H1 := Lib.hid h1
  have hn32 : n1 ≤ 48 := by
    have := Ph.total_le (l := s) (m := 6) fun x hx => (hp x hx).2
    rw [h2.len] at this; omega
  clear h1 h2 hp ht
  go_enter Tryz.func47, Tryz.ntmps47
  go_wp2_with fail
  go_loopw [0, 5, 10] (fun q o i wr => ∃ (k n' c' : Nat) (A' A : Option Addr) (c : Nat) (vs : List Value) (l' : List Int) (ls : List (List Int)), k ≤ n2 ∧ i = .int .i64 k ∧ q = .slice A' n' c' ∧ n' ≤ c' ∧ n' ≤ 48 ∧ Hid (RdI wr B A' n' l') ∧ o = .slice A k c ∧ wr.ownsRow w.heap.size 22 1 (.slice A k c) k vs ∧ OwnsV wr w.heap.size vs ls ∧ Hid (ls ++ Ph.cut l' (s.drop k) = Ph.cut l s ∧ Ph.total (s.drop k) = (n' : Int)) ∧ Below w.heap.size w wr) (fun _ _ i _ => n2 - (intOf i).toNat)
  case atStart => exact ⟨0, n1, c1, A1, none, 0, [], l, [], Nat.zero_le _, rfl, rfl, hc1, hn32, H1, rfl, World.ownsRow_nil w _ _ _, trivial, Lib.hid ⟨rfl, HT.out⟩, Below.refl _ _⟩
  case round =>
    obtain ⟨k, n', c', A', A, c, vs, l', ls, hk, rfl, rfl, hc', hn', HR, rfl, hown, hvs, HI, hbw⟩ := hrel
    have HO := Lib.hid hown
    have HV := Lib.hid hvs
    have HBW := Lib.hid hbw
    clear hown hvs hbw
    by_cases hlt : k < n2
    · obtain ⟨b2, o2, rfl, _, hc2⟩ := (H2.out.below (HBW.out.mono hB)).at_ hlt
      have hkl : k < s.length := by rw [HL2.out]; exact hlt
      have hx := HP.out _ (Ph.getD_mem (l := s) (i := k) hkl)
      have hct := cut_step s l' k hkl
      have htd := total_drop s k hkl
      have htn := Ph.total_nonneg (l := s.drop (k + 1)) (fun x hx => by have := HP.out x (List.mem_of_mem_drop hx); omega)
      have hti := HI.out.2
      obtain ⟨x, hxe⟩ : ∃ x, x = s.getD k 0 := ⟨_, rfl⟩
      rw [← hxe] at hc2 hx hct htd
      have hxn : x ≤ (n' : Int) := by omega
      obtain ⟨X, hX⟩ : ∃ X : Nat, x = X := ⟨x.toNat, by omega⟩
      subst hX
      have hX6 : X ≤ n' := by omega
      have HCT := Lib.hid hct
      have HTD := Lib.hid htd
      have HC := Lib.hid fun W hW => clone_any A' X c' (l'.take X) W B hW (by omega)
      clear hct htd htn hti hxe
      go_wp2_with fail
      refine (HC.out _ (HR.out.take hX6)).mono ?_
      rintro e w5 ⟨A5, c5, rfl, ho5, hb5⟩
      have HO1 := Lib.hid (own_below' HO.out hb5)
      have HV1 := Lib.hid (HV.out.below hb5)
      have HB5 := Lib.hid (HBW.out.trans (hb5.mono HBW.out.size))
      have HR5 := Lib.hid (HR.out.below (hb5.mono (Nat.le_trans hB HBW.out.size)))
      have hlx : (l'.take X).length = X := by rw [List.length_take, HR.out.len]; omega
      have HNV : Hid (OwnV w5 w.heap.size (.slice A5 X c5) (l'.take X)) := Lib.hid ⟨A5, c5, by rw [hlx], by rw [hlx]; exact own_more ho5 HBW.out.size⟩
      clear ho5 hb5 hlx HC HO HV HR
      go_wp2_with (at_builtin; refine wpList_pushR _ (by rfl) _ _ (by rfl) w w.heap.size A k c vs (.slice A5 X c5) HO1.out HB5.out HB5.out.size (by rfl) (by omega) (by rfl) (by rfl) ?_; intro g cap w6 ho6 hb6 hgr)
      have HO6 := Lib.hid ho6
      have HB6 := Lib.hid hb6
      have HV6 := Lib.hid (((HV1.out.alloc _).grown (HO1.out.alloc _) hgr).snoc ((HNV.out.alloc _).grown (HO1.out.alloc _) hgr))
      clear ho6 hb6 hgr HV1 HO1 HNV
      go_wp2_with fail
      have hR6 : RdI w6 B A' n' l' := Rd.keep HR5.out fun p hp => (HB6.out.cell (Nat.lt_of_lt_of_le hp hB)).trans (HB5.out.cell (Nat.lt_of_lt_of_le hp hB)).symm
      refine ⟨⟨k + 1, n' - X, c' - X, _, some ⟨g, 0, none⟩, cap, vs ++ [.slice A5 X c5], l'.drop X, ls ++ [l'.take X], by omega, by go_num, rfl, by omega, by omega, Lib.hid (hR6.drop_if hX6 hc'), rfl, HO6.out, HV6.out, Lib.hid ⟨?_, ?_⟩, HB6.out⟩, by simp [intOf]; omega⟩
      · have h1 := HI.out.1
        rw [HCT.out, Int.toNat_natCast] at h1
        rw [List.append_assoc]; exact h1
      · have h1 := HI.out.2
        have h2 := HTD.out
        omega
    · have hkn : k = n2 := by omega
      have hd : s.drop k = [] := List.drop_of_length_le (by rw [HL2.out]; omega)
      have hls : ls = Ph.cut l s := by have := HI.out.1; rw [hd] at this; simpa [Ph.cut] using this
      have HKN := Lib.hid hkn
      have HLS := Lib.hid hls
      clear hkn hd hls
      go_wp2_with fail
      go_ret
      refine ⟨A, c, vs, by rw [HKN.out]; rfl, ?_, by rw [← HLS.out]; exact HV.out, HBW.out⟩
      have := HO.out
      rw [HKN.out] at this
      exact this
end Go.Proofs.YtmohilfebgahoaaGreatDoor
