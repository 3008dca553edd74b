/- Walks: signs as bytes, and bytes as signs, whatever comes (chapter 11). -/
import Derived.Test.YtapjnfhbjmeniaaHornD
namespace Go.Proofs.Ytapjnfhbjmeniaa
open Go.RowKit

/-- What is told of a row of signs. -/
def encS (f l : List Int) : ByteArray := if hornErr f l = 0 then strB (Ph.bytes f l) else ByteArray.empty
theorem hencode_any (A1 : Option Addr) (n1 c1 : Nat) (f : List Int) (A2 : Option Addr) (n2 c2 : Nat) (l : List Int) (w : World) (B : Nat) (h1 : RdI w B A1 n1 f) (h2 : RdI w B A2 n2 l) (hB : B ≤ w.heap.size) (hn1 : n1 ≤ 100000000000000) (hc2 : n2 ≤ c2) :
    Calls Try.prog 16 #[.slice A1 n1 c1, .slice A2 n2 c2] w fun e w' => e = .returned (.tuple #[.string (encS f l), errV (hornErr f l)]) ∧ Below w.heap.size w w' := by
  have HC := Lib.hid fun W hW1 hW2 => hcheck_any A1 n1 c1 f A2 n2 c2 l W B hW1 hW2 hn1
  have H1 := Lib.hid h1
  have H2 := Lib.hid h2
  by_cases h0 : hornErr f l = 0
  · obtain ⟨hf, hl60, hgood⟩ := hornErr_zero.1 h0
    have HS := Lib.hid fun W hW1 hW2 hBW => hsound_ok A1 n1 c1 f A2 n2 c2 l W B hW1 hW2 hBW hc2 hf hl60 hgood
    have he : Hid (encS f l = strB (Ph.bytes f l)) := Lib.hid (by unfold encS; rw [if_pos h0])
    rw [h0, errV_zero] at HC ⊢
    rw [he.out]
    clear h1 h2 h0 hf hl60 hgood
    go_enter Try.func16, Try.ntmps16
    go_wp2_with fail
    refine (HC.out _ H1.out H2.out).mono ?_
    rintro e wk ⟨rfl, rfl⟩
    go_wp2_with fail
    refine (HS.out _ H1.out H2.out hB).mono ?_
    rintro e w1 ⟨A, n, c, rfl, ho, hb⟩
    have hcv := conv_str (RdB.own ho) c
    have HB1 := Lib.hid hb
    clear ho hb
    go_wp2_with fail
    go_ret2
    exact ⟨rfl, HB1.out⟩
  · have he : Hid (encS f l = ByteArray.empty) := Lib.hid (by unfold encS; rw [if_neg h0])
    have hv := errV_ne h0
    rw [hv] at HC ⊢
    rw [he.out]
    clear h1 h2 h0 hv
    go_enter Try.func16, Try.ntmps16
    go_wp2_with fail
    refine (HC.out _ H1.out H2.out).mono ?_
    rintro e wk ⟨rfl, rfl⟩
    go_wp2_with fail
    go_ret2
    exact ⟨rfl, Below.refl _ _⟩
/-- The row of so many signs that bytes are, if they are one. -/
def decR (f : List Int) (b : List Nat) (m : Nat) : Option (List Int) := (Ph.heard f b m).bind fun q => if Ph.bytes f q.1 = b then some q.1 else none
/-- What is wrong with bytes. -/
def decE (f : List Int) (b : List Nat) (m : Int) : Int := if shErr f ≠ 0 then 3 else if m < 0 ∨ 60 < m then 1 else if (decR f b m.toNat).isSome = true then 0 else 2
def decL (f : List Int) (b : List Nat) (m : Int) : List Int := if decE f b m = 0 then (decR f b m.toNat).getD [] else []
theorem heard_good {f : List Int} (hf : Ph.sharesOk f) {b : List Nat} {n : Nat} {l : List Int} {x : Nat} {r : List Nat} (h : Ph.heard f b n = some (l, x, r)) : (∀ s ∈ l, Ph.good f s) ∧ l.length = n := by
  unfold Ph.heard at h
  split at h
  · exact ⟨Ph.dec_good hf h, Ph.dec_length h⟩
  · simp at h
theorem decE_zero {f : List Int} {b : List Nat} {m : Int} (h : decE f b m = 0) : shErr f = 0 ∧ 0 ≤ m ∧ m ≤ 60 ∧ ∃ l x r, Ph.heard f b m.toNat = some (l, x, r) ∧ Ph.bytes f l = b ∧ decL f b m = l ∧ l.length = m.toNat ∧ hornErr f l = 0 := by
  have h' := h
  unfold decE at h
  by_cases h0 : shErr f = 0
  · rw [if_neg (by omega)] at h
    by_cases hm : m < 0 ∨ 60 < m
    · rw [if_pos hm] at h; omega
    · rw [if_neg hm] at h
      cases hH : Ph.heard f b m.toNat with
      | none =>
        have hR : decR f b m.toNat = none := by unfold decR; rw [hH]; rfl
        rw [hR] at h; simp at h
      | some q =>
        obtain ⟨l, x, r⟩ := q
        by_cases hq : Ph.bytes f l = b
        · have hR : decR f b m.toNat = some l := by unfold decR; rw [hH]; simp [hq]
          obtain ⟨hg, hl⟩ := heard_good (shErr_zero.1 h0) hH
          exact ⟨h0, by omega, by omega, l, x, r, rfl, hq, by unfold decL; rw [if_pos h', hR]; rfl, hl, hornErr_zero.2 ⟨shErr_zero.1 h0, by omega, hg⟩⟩
        · have hR : decR f b m.toNat = none := by unfold decR; rw [hH]; simp [hq]
          rw [hR] at h; simp at h
  · rw [if_pos h0] at h; omega
theorem decE_bytes {f l : List Int} (h : hornErr f l = 0) : decE f (Ph.bytes f l) l.length = 0 ∧ decL f (Ph.bytes f l) l.length = l := by
  obtain ⟨hf, hl, hg⟩ := hornErr_zero.1 h
  have hs := shErr_zero.2 hf
  have hH := Ph.heard_bytes hf hg
  have hR : decR f (Ph.bytes f l) l.length = some l := by unfold decR; rw [hH]; simp
  have hE : decE f (Ph.bytes f l) l.length = 0 := by
    unfold decE; rw [if_neg (by omega), if_neg (by omega), Int.toNat_natCast, hR]; rfl
  exact ⟨hE, by unfold decL; rw [if_pos hE, Int.toNat_natCast, hR]; rfl⟩
theorem decE_more {f l : List Int} (h : hornErr f l = 0) (h60 : l.length < 60) (ha : ∀ x ∈ f, x ≠ 256) : decE f (Ph.bytes f l) ((l.length : Int) + 1) = 2 := by
  obtain ⟨hf, hl, hg⟩ := hornErr_zero.1 h
  have hs := shErr_zero.2 hf
  have hH := Ph.heard_more hf hg ha
  have hR : decR f (Ph.bytes f l) (l.length + 1) = none := by unfold decR; rw [hH]; rfl
  unfold decE
  rw [if_neg (by omega), if_neg (by omega), show ((l.length : Int) + 1).toNat = l.length + 1 by omega, hR]; rfl
set_option maxRecDepth 1000000 in
set_option maxHeartbeats 2000000 in
theorem hdecode_any (A1 : Option Addr) (n1 c1 : Nat) (f : List Int) (s : ByteArray) (m : Int) (w : World) (B : Nat) (h1 : RdI w B A1 n1 f) (hB : B ≤ w.heap.size) (hn1 : n1 ≤ 100000000000000) :
    Calls Try.prog 17 #[.slice A1 n1 c1, .string s, .int .i64 m] w fun e w' => ∃ A n c, e = .returned (.tuple #[.slice A n c, errV (decE f (bytesOf s) m)]) ∧ n ≤ 60 ∧ n ≤ c ∧ RdI w' w'.heap.size A n (decL f (bytesOf s) m) ∧ Below w.heap.size w w' := by
  have HC := Lib.hid fun W hW => shcheck_any A1 n1 c1 f W B hW hn1
  have H1 := Lib.hid h1
  by_cases h0 : shErr f = 0
  · by_cases hm : m < 0 ∨ 60 < m
    · have hE : decE f (bytesOf s) m = 1 := by unfold decE; rw [if_neg (by omega), if_pos hm]
      have hL : decL f (bytesOf s) m = [] := by unfold decL; rw [if_neg (by omega)]
      rw [hE, hL, errV_ne (by omega)]
      rw [h0, errV_zero] at HC
      have hc : m < 0 ∨ (¬ m < 0 ∧ 60 < m) := by omega
      clear h1 h0 hm hE hL
      rcases hc with h1 | ⟨h1, h2⟩
      all_goals
        go_enter Try.func17, Try.ntmps17
        go_wp2_with fail
        refine (HC.out _ H1.out).mono ?_
        rintro e wk ⟨rfl, rfl⟩
        go_wp2_with fail
        go_ret2
        exact ⟨none, 0, 0, rfl, by omega, by omega, RdI.nil, Below.refl _ _⟩
    · obtain ⟨M, rfl⟩ := Int.eq_ofNat_of_zero_le (by omega : 0 ≤ m)
      have hM : M ≤ 60 := by omega
      have hm1 : ¬ (M : Int) < 0 := by omega
      have hm2 : ¬ (60 : Int) < (M : Int) := by omega
      have hf := shErr_zero.1 h0
      obtain ⟨cc, oo, hcv, hcc, hrd⟩ := conv_bytes s w
      have HHD := Lib.hid (heard_any A1 n1 c1 f (some ⟨w.heap.size, 0, none⟩) s.size cc (bytesOf s) M (w.drew.alloc oo) (w.heap.size + 1) ((h1.alloc (w := w.drew) hB oo).more (by omega)) hrd (by simp) hcc hf hM (bytesOf_lt s))
      have hE : decE f (bytesOf s) M = if (decR f (bytesOf s) M).isSome = true then 0 else 2 := by
        unfold decE; rw [if_neg (by omega), if_neg hm]; simp
      have HBA : Hid (Below w.heap.size w (w.drew.alloc oo)) := Lib.hid ((Below.refl _ _).drew.alloc (Nat.le_refl _) oo)
      rw [h0, errV_zero] at HC
      unfold decL
      rw [Int.toNat_natCast]
      cases hH : Ph.heard f (bytesOf s) M with
      | none =>
        have hR : decR f (bytesOf s) M = none := by unfold decR; rw [hH]; rfl
        rw [hR] at hE
        simp at hE
        rw [hE, errV_ne (by omega)]
        rw [hH] at HHD
        clear h1 h0 hm hf hE hR hH hrd
        go_enter Try.func17, Try.ntmps17
        go_wp2_with fail
        refine (HC.out _ H1.out).mono ?_
        rintro e wk ⟨rfl, rfl⟩
        go_wp2_with fail
        refine HHD.out.mono ?_
        rintro e w2 ⟨A, n, c, rfl, ho, hb⟩
        have HB2 := Lib.hid (HBA.out.trans (hb.mono HBA.out.size))
        clear ho hb
        go_wp2_with fail
        go_ret2
        exact ⟨none, 0, 0, rfl, by omega, by omega, RdI.nil, HB2.out⟩
      | some q =>
        obtain ⟨l, x, r⟩ := q
        obtain ⟨hgd, hlen⟩ := heard_good hf hH
        rw [hH] at HHD
        have HSD := Lib.hid fun A n c W (hW1 : RdI W B A1 n1 f) (hW2 : RdI W W.heap.size A n l) hBW (hc : n ≤ c) => hsound_ok A1 n1 c1 f A n c l W W.heap.size (hW1.more hBW) hW2 (Nat.le_refl _) hc hf (by omega) hgd
        by_cases hq : Ph.bytes f l = bytesOf s
        · have hR : decR f (bytesOf s) M = some l := by unfold decR; rw [hH]; simp [hq]
          rw [hR] at hE ⊢
          simp at hE
          rw [hE, errV_zero]
          have hS : strB (Ph.bytes f l) = s := by rw [hq, strB_bytesOf]
          have HSS := Lib.hid hS
          have HLN := Lib.hid hlen
          clear h1 h0 hm hf hE hR hH hrd hq hS hgd hlen
          go_enter Try.func17, Try.ntmps17
          go_wp2_with fail
          refine (HC.out _ H1.out).mono ?_
          rintro e wk ⟨rfl, rfl⟩
          go_wp2_with fail
          refine HHD.out.mono ?_
          rintro e w2 ⟨A, n, c, rfl, ho, hb⟩
          have hnl : n = l.length := by have := own_len ho; rw [ivals_length] at this; exact this.symm
          have HB2 := Lib.hid (HBA.out.trans (hb.mono HBA.out.size))
          have hrl : RdI w2 w2.heap.size A n l := RdI.own ho
          have HRL := Lib.hid hrl
          have hnc := own_cap ho
          have HX := Lib.hid (HSD.out A n c w2 (H1.out.below (HB2.out.mono hB)) hrl (Nat.le_trans hB HB2.out.size) hnc)
          have hn60 : n ≤ 60 := by rw [hnl, HLN.out]; exact hM
          clear ho hb hrl hnl
          go_wp2_with fail
          refine HX.out.mono ?_
          rintro e w3 ⟨A3, n3, c3, rfl, ho3, hb3⟩
          have hcv3 := conv_str (RdB.own ho3) c3
          rw [HSS.out] at hcv3
          have HB3 := Lib.hid (below_on HB2.out hb3)
          have HRL3 := Lib.hid (HRL.out.on hb3)
          clear ho3 hb3
          go_wp2_with fail
          go_ret2
          exact ⟨A, n, c, rfl, hn60, hnc, HRL3.out, HB3.out⟩
        · have hR : decR f (bytesOf s) M = none := by unfold decR; rw [hH]; simp [hq]
          rw [hR] at hE ⊢
          simp at hE
          rw [hE, errV_ne (by omega)]
          have hS : ¬ strB (Ph.bytes f l) = s := fun e => hq (by
            have := congrArg bytesOf e
            rwa [bytesOf_strB (Ph.bytes_lt hf hgd)] at this)
          obtain ⟨S', hS'⟩ : ∃ S', S' = strB (Ph.bytes f l) := ⟨_, rfl⟩
          rw [← hS'] at hS
          have HSS := Lib.hid hS'
          have hsb := str_ne hS
          clear h1 h0 hm hf hE hR hH hrd hq hgd hlen hS'
          go_enter Try.func17, Try.ntmps17
          go_wp2_with fail
          refine (HC.out _ H1.out).mono ?_
          rintro e wk ⟨rfl, rfl⟩
          go_wp2_with fail
          refine HHD.out.mono ?_
          rintro e w2 ⟨A, n, c, rfl, ho, hb⟩
          have HB2 := Lib.hid (HBA.out.trans (hb.mono HBA.out.size))
          have hrl : RdI w2 w2.heap.size A n l := RdI.own ho
          have hnc := own_cap ho
          have HX := Lib.hid (HSD.out A n c w2 (H1.out.below (HB2.out.mono hB)) hrl (Nat.le_trans hB HB2.out.size) hnc)
          clear ho hb hrl
          go_wp2_with fail
          refine HX.out.mono ?_
          rintro e w3 ⟨A3, n3, c3, rfl, ho3, hb3⟩
          have hcv3 := conv_str (RdB.own ho3) c3
          rw [← HSS.out] at hcv3
          have HB3 := Lib.hid (below_on HB2.out hb3)
          clear ho3 hb3
          go_wp2_with fail
          go_ret2
          exact ⟨none, 0, 0, rfl, by omega, by omega, RdI.nil, HB3.out⟩
  · have hE : decE f (bytesOf s) m = 3 := by unfold decE; rw [if_pos h0]
    have hL : decL f (bytesOf s) m = [] := by unfold decL; rw [if_neg (by omega)]
    have h3 : shErr f = 3 := (shErr_two f).resolve_left h0
    rw [hE, hL, errV_ne (by omega)]
    rw [h3, errV_ne (by omega)] at HC
    clear h1 h0 hE hL h3
    go_enter Try.func17, Try.ntmps17
    go_wp2_with fail
    refine (HC.out _ H1.out).mono ?_
    rintro e wk ⟨rfl, rfl⟩
    go_wp2_with fail
    go_ret2
    exact ⟨none, 0, 0, rfl, by omega, by omega, RdI.nil, Below.refl _ _⟩
end Go.Proofs.Ytapjnfhbjmeniaa
