/- Walks: frames kept (chapter 19): a log that fails, is synced, and crashes. -/
import Derived.Test.YtmohilfebgahoaaGreatDoorLog2
namespace Go.Proofs.YtmohilfebgahoaaGreatDoor
open Go.RowKit

set_option maxRecDepth 100000 in
theorem lfail_any (W : World) (base X : Nat) (As : Option Addr) (ns cs : Nat) (s : List Int) (bits : Int) (Aa : Option Addr) (na ca : Nat) (S : LogS) (n : Int) (h : LogAt W base X As ns cs s bits Aa na ca S) :
    Calls Tryz.prog 14 #[.pointer (some ⟨X, 0, none⟩), .int .i64 n] W fun e w' => e = .returned (.tuple #[]) ∧ LogAt w' base X As ns cs s bits Aa na ca { S with left := max (-1) n } ∧ KeptBut (fun k => k = X) W w' := by
  obtain ⟨c0, c1, c2, c3, c4, c5, c6⟩ := h.cells
  have f5 := h.frozen 5
  have H := Lib.hid h
  clear h c0 c1 c2 c3 c4 c6
  go_enter Tryz.func14, Tryz.ntmps14
  go_wp2_with fail
  go_end0
  exact ⟨rfl, H.out.setLeft _, KeptBut.setCell (S := fun k => k = X) (KeptBut.refl _ W) (p := ⟨X, 5, none⟩) rfl _⟩
def syncE (S : LogS) : Int := if S.st = true then 6 else if S.left = 0 then 6 else 0
def syncS (S : LogS) : LogS := if S.st = true then S else if S.left = 0 then { S with left := -1, st := true } else { S with left := max (-1) (S.left - 1), st := false, safe := (S.bytes.length : Nat) }
set_option maxHeartbeats 1000000 in
set_option maxRecDepth 100000 in
theorem lsync_any (W : World) (base X : Nat) (As : Option Addr) (ns cs : Nat) (s : List Int) (bits : Int) (Aa : Option Addr) (na ca : Nat) (S : LogS) (h : LogAt W base X As ns cs s bits Aa na ca S) (hl : -1 ≤ S.left ∧ S.left ≤ 9223372036854775807) :
    Calls Tryz.prog 7 #[.pointer (some ⟨X, 0, none⟩)] W fun e w' => e = .returned (errV (syncE S)) ∧ LogAt w' base X As ns cs s bits Aa na ca (syncS S) ∧ KeptBut (fun k => k = X) W w' := by
  have H := Lib.hid h
  obtain ⟨c0, c1, c2, c3, c4, c5, c6⟩ := h.cells
  have HST := Lib.hid (lstep_any W base X As ns cs s bits Aa na ca S h hl)
  clear c0 c1 c2 c3 c4 c5 h
  by_cases hst : S.st = true
  · have e1 : syncE S = 6 := by unfold syncE; rw [if_pos hst]
    have e2 : syncS S = S := by unfold syncS; rw [if_pos hst]
    rw [e1, e2]
    rw [hst] at c6
    clear e1 e2 HST hst
    go_enter Tryz.func7, Tryz.ntmps7
    go_wp2_with fail
    go_ret
    exact ⟨rfl, H.out, KeptBut.refl _ _⟩
  · have hsf : S.st = false := by simpa using hst
    rw [hsf] at c6
    by_cases h0 : S.left = 0
    · have e1 : syncE S = 6 := by unfold syncE; rw [if_neg hst, if_pos h0]
      have e2 : syncS S = { S with left := -1, st := true } := by unfold syncS; rw [if_neg hst, if_pos h0]
      rw [e1, e2]
      rw [show decide (S.left = 0) = true by simp [h0], show max (-1) (S.left - 1) = -1 by rw [h0]; rfl] at HST
      clear e1 e2 hst h0 hsf
      go_enter Tryz.func7, Tryz.ntmps7
      go_wp2_with fail
      refine HST.out.mono ?_
      rintro e w1 ⟨rfl, hl1, hk1⟩
      have H1 := Lib.hid hl1
      have HK1 := Lib.hid hk1
      clear hl1 hk1
      go_wp2_with fail
      go_ret
      exact ⟨rfl, H1.out, HK1.out⟩
    · have e1 : syncE S = 0 := by unfold syncE; rw [if_neg hst, if_neg h0]
      have e2 : syncS S = { S with left := max (-1) (S.left - 1), st := false, safe := (S.bytes.length : Nat) } := by unfold syncS; rw [if_neg hst, if_neg h0]
      rw [e1, e2]
      rw [show decide (S.left = 0) = false by simp [h0]] at HST
      clear e1 e2 hst h0 hsf
      go_enter Tryz.func7, Tryz.ntmps7
      go_wp2_with fail
      refine HST.out.mono ?_
      rintro e w1 ⟨rfl, hl1, hk1⟩
      have H1 := Lib.hid hl1
      have HK1 := Lib.hid hk1
      obtain ⟨e0, e1, e2, e3, e4, e5, e6⟩ := hl1.cells
      have g4 := hl1.frozen 4
      have hz := strL_size S.bytes
      have hset := hl1.setSafe (S.bytes.length : Nat)
      rw [← hz] at hset
      obtain ⟨SB, hSB⟩ : ∃ q, q = strL S.bytes := ⟨_, rfl⟩
      have e3' : w1.cell? ⟨X, 3, none⟩ = some (.string SB) := by rw [hSB]; exact e3
      rw [← hSB] at hset hz
      have HS := Lib.hid hset
      have HZ := Lib.hid hz
      clear hl1 hk1 e0 e1 e2 e3 e5 e6 hSB hz hset
      go_wp2_with fail
      go_ret
      refine ⟨rfl, ?_, KeptBut.setCell (S := fun k => k = X) HK1.out (p := ⟨X, 4, none⟩) rfl _⟩
      have := HS.out
      rw [HZ.out] at this ⊢
      exact this
theorem strL_at (l : List UInt8) (j : Nat) (h : j < l.length) : (strL l).data[j]! = l[j] := by
  unfold strL
  rw [getElem!_pos l.toArray j (by simpa using h)]
  simp
theorem last_recs {rs : List (List UInt8)} (hr : ∀ r ∈ rs, Ph.isRec r) {P : List UInt8} (hP : Ph.noNl P) : Lib.lastIndexByte (strL (rs.flatten ++ P)) 10 = (rs.flatten.length : Int) - 1 := by
  have hsz : (strL (rs.flatten ++ P)).size = rs.flatten.length + P.length := by rw [strL_size, List.length_append]
  have hat : ∀ j, j < rs.flatten.length + P.length → (strL (rs.flatten ++ P)).data[j]! = (rs.flatten ++ P).getD j 0 := fun j hj => by
    rw [strL_at _ j (by rw [List.length_append]; exact hj), List.getD_eq_getElem?_getD, List.getElem?_eq_getElem (by rw [List.length_append]; exact hj)]; rfl
  have hp : ∀ j, rs.flatten.length ≤ j → j < rs.flatten.length + P.length → (((rs.flatten ++ P).getD j 0).toNat : Int) ≠ 10 := fun j h1 h2 e => by
    rw [List.getD_eq_getElem?_getD, List.getElem?_append_right h1, List.getElem?_eq_getElem (by omega)] at e
    have := hP _ (List.getElem_mem (by omega : j - rs.flatten.length < P.length))
    apply this
    apply UInt8.toNat_inj.1
    simp only [Option.getD_some] at e
    have e' : (P[j - rs.flatten.length]).toNat = 10 := by omega
    rw [e']; rfl
  have hend : rs = [] ∨ (0 < rs.flatten.length ∧ ((rs.flatten ++ P).getD (rs.flatten.length - 1) 0).toNat = 10) := by
    rcases Ph.flatten_ends rs hr with h | ⟨b, hb⟩
    · exact .inl h
    · right
      rw [hb]
      refine ⟨by simp, ?_⟩
      rw [List.getD_eq_getElem?_getD, List.getElem?_append_left (by simp)]
      simp
  unfold Lib.lastIndexByte
  rw [hsz]
  rcases Lib.lastIdx_spec (strL (rs.flatten ++ P)) 10 (rs.flatten.length + P.length) with ⟨h1, h2⟩ | ⟨i, h1, h2, h3, h4⟩
  · rcases hend with rfl | ⟨h5, h6⟩
    · rw [h1]; simp
    · exfalso
      have := h2 (rs.flatten.length - 1) (by omega)
      rw [hat _ (by omega), h6] at this
      exact this rfl
  · rw [h2]
    rw [hat i h1] at h3
    have hi : i < rs.flatten.length := by
      rcases Nat.lt_or_ge i rs.flatten.length with h | h
      · exact h
      · exact absurd h3 (hp i h h1)
    rcases hend with rfl | ⟨h5, h6⟩
    · simp at hi
    · rcases Nat.lt_or_ge i (rs.flatten.length - 1) with h | h
      · exfalso
        have := h4 (rs.flatten.length - 1) h (by omega)
        rw [hat _ (by omega), h6] at this
        exact this rfl
      · omega
theorem count_recs_noNl {rs : List (List UInt8)} (hr : ∀ r ∈ rs, Ph.isRec r) : Lib.countByte rs.flatten 10 = rs.length := Ph.count_recs rs hr
theorem own_prefix {w : World} {base n c k : Nat} {e : TypeId} {A : Option Addr} {xs : List Value} (h : w.ownsRow base e 1 (.slice A n c) n xs) (hk : k ≤ n) : w.ownsRow base e 1 (.slice A k c) k (xs.take k) := by
  have hl := own_len h
  refine ⟨by rw [List.length_take]; omega, ?_⟩
  rcases h.2 with ⟨hv, h0⟩ | ⟨g, cap, cur, hv, hb, hh, hnc, hcm, hcs, hx⟩
  · injection hv with e1 e2 e3
    subst e1
    subst e3
    obtain rfl : k = 0 := by omega
    exact .inl ⟨rfl, rfl⟩
  · injection hv with e1 e2 e3
    subst e1
    subst e3
    refine .inr ⟨g, c, cur, rfl, hb, hh, by omega, hcm, hcs, ?_⟩
    rw [← hx, List.take_take, Nat.min_eq_left (by omega), Nat.mul_one]
theorem svals_take (l : List ByteArray) (k : Nat) : (svals l).take k = svals (l.take k) := by simp [svals]
/-- How many bytes are left, at a crash. -/
def highOf (S : LogS) (keep : Int) : Nat := (S.safe + max 0 (min keep ((S.bytes.length : Int) - S.safe))).toNat
/-- A log that has crashed: its first frames. -/
def crashS (S : LogS) (rs : List (List UInt8)) (i : Nat) : LogS := ⟨S.all.take i, (rs.take i).flatten, ((rs.take i).flatten.length : Nat), -1, false⟩
set_option maxHeartbeats 4000000 in
set_option maxRecDepth 100000 in
theorem lcrash_any (W : World) (base X : Nat) (As : Option Addr) (ns cs : Nat) (s : List Int) (bits : Int) (Aa : Option Addr) (na ca : Nat) (S : LogS) (keep : Int) (rs : List (List UInt8)) (tail : List UInt8) (h : LogAt W base X As ns cs s bits Aa na ca S)
    (hby : S.bytes = rs.flatten ++ tail) (hrl : rs.length = na) (hr : ∀ r ∈ rs, Ph.isRec r) (ht : Ph.noNl tail) (hs : 0 ≤ S.safe ∧ S.safe ≤ S.bytes.length) (hn : S.bytes.length ≤ 100000) (_hna : na ≤ 1000) :
    Calls Tryz.prog 8 #[.pointer (some ⟨X, 0, none⟩), .int .i64 keep] W fun e w' => e = .returned (.tuple #[]) ∧ (∃ i c', i ≤ na ∧ Ph.mark rs i ≤ highOf S keep ∧ (∀ j, i < j → j ≤ na → highOf S keep < Ph.mark rs j) ∧ LogAt w' base X As ns cs s bits Aa i c' (crashS S rs i)) ∧ KeptBut (fun k => k = X) W w' := by
  obtain ⟨c0, c1, c2, c3, c4, c5, c6⟩ := h.cells
  obtain ⟨i, P, hi, hcut, hP, hm1, hm2⟩ := Ph.cut_recs rs tail (highOf S keep) hr ht
  rw [hrl] at hi hm2
  have hri : ∀ r ∈ rs.take i, Ph.isRec r := fun r hx => hr r (List.mem_of_mem_take hx)
  have hex := strL_take S.bytes (highOf S keep)
  rw [hby, hcut, ← hby] at hex
  have hla := last_recs hri hP
  have hco := count_recs_noNl hri
  have hTP : (rs.take i).flatten.length + P.length ≤ S.bytes.length := by
    have := congrArg List.length hcut
    rw [← hby, List.length_take, List.length_append] at this
    omega
  have hfl : (rs.take i).flatten.length ≤ S.bytes.length := by omega
  have hca := own_cap h.2.2.2
  have hil : (rs.take i).length = i := by rw [List.length_take]; omega
  rw [hil] at hco
  have hzT : (strL ((rs.take i).flatten ++ P)).size = (rs.take i).flatten.length + P.length := by rw [strL_size, List.length_append]
  have hexF : (strL ((rs.take i).flatten ++ P)).extract 0 (rs.take i).flatten.length = strL (rs.take i).flatten := by rw [strL_take, List.take_left]
  have HFIN : Hid (∀ w', W.heap.size ≤ w'.heap.size → LogAt w' base X As ns cs s bits Aa na ca S → LogAt (((((w'.setCell ⟨X, 2, none⟩ (.slice Aa i ca)).setCell ⟨X, 3, none⟩ (.string (strL (rs.take i).flatten))).setCell ⟨X, 4, none⟩ (.int .i64 ((rs.take i).flatten.length : Nat))).setCell ⟨X, 5, none⟩ (.int .i64 (-1))).setCell ⟨X, 6, none⟩ (.bool false)) base X As ns cs s bits Aa i ca (crashS S rs i)) := Lib.hid fun w' _ hl => by
    have h1 := own_prefix hl.2.2.2 hi
    rw [svals_take] at h1
    exact ((((hl.setAll h1).setBytes _).setSafe _).setLeft _).setSt _
  have H := Lib.hid h
  have HM := Lib.hid (And.intro hi (And.intro hm1 hm2))
  have hHE : S.safe + max 0 (min keep ((S.bytes.length : Int) - S.safe)) = (highOf S keep : Nat) := by unfold highOf; rw [Int.toNat_of_nonneg (by omega)]
  have hHB : highOf S keep ≤ S.bytes.length := by unfold highOf; omega
  have hzB := strL_size S.bytes
  obtain ⟨HH, hHH⟩ : ∃ q, q = highOf S keep := ⟨_, rfl⟩
  rw [← hHH] at hex hHE hHB
  obtain ⟨F, hF⟩ : ∃ F, F = (rs.take i).flatten := ⟨_, rfl⟩
  rw [← hF] at hex hla hco hfl hzT hexF HFIN hTP
  obtain ⟨T, hT⟩ : ∃ T, T = strL (F ++ P) := ⟨_, rfl⟩
  rw [← hT] at hex hla hzT hexF
  obtain ⟨SB, hSB⟩ : ∃ q, q = strL S.bytes := ⟨_, rfl⟩
  rw [← hSB] at hex hzB c3
  obtain ⟨NB, hNB⟩ : ∃ q, q = S.bytes.length := ⟨_, rfl⟩
  rw [← hNB] at hzB hHE hHB hfl hs hn hTP
  obtain ⟨sf, hsf⟩ : ∃ q, q = S.safe := ⟨_, rfl⟩
  rw [← hsf] at c4 hs hHE
  have hcF : (strL F).data.toList = F := by unfold strL; simp
  obtain ⟨SF, hSF⟩ : ∃ q, q = strL F := ⟨_, rfl⟩
  rw [← hSF] at hexF HFIN hcF
  have hzF : SF.size = F.length := by rw [hSF]; exact strL_size F
  obtain ⟨NF, hNF⟩ : ∃ q, q = F.length := ⟨_, rfl⟩
  rw [← hNF] at hla hfl hzT hexF HFIN hzF hTP
  have HLI := Lib.hid fun W' => Tryz.strings_LastIndex_one T ⟨#[10]⟩ rfl (by omega) W'
  rw [show (((⟨#[10]⟩ : ByteArray)[0]'(by decide)).toNat : Int) = 10 from rfl, hla] at HLI
  have HCO := Lib.hid fun W' => Tryz.strings_Count_one SF 10 W'
  rw [hcF, hco] at HCO
  have HEX := Lib.hid hex
  have HEXF := Lib.hid hexF
  have HHE := Lib.hid hHE
  have kw : IntKind.i64.wrap ((NB : Int) - sf) = (NB : Int) - sf := IntWalk.i64_in _ (by omega)
  clear hi hcut hP hm1 hm2 hri hex hla hco hil hexF hHH hF hT hSB hNB hsf hcF hSF hNF h hby hrl hr ht c0 c1 c5 c6
  go_enter Tryz.func8, Tryz.ntmps8
  go_upto_region 0 with (fail)
  go_cut [4] (fun s4 wx => s4 = .string T ∧ Hid (Below W.heap.size W wx))
  case first =>
    go_region
    go_wp2_with fail
    go_meet
    case rel => exact ⟨by rw [HEX.out], Lib.hid ⟨rfl, rfl, rfl, Nat.le_refl _, fun _ _ => rfl⟩⟩
  case rest =>
    obtain ⟨rfl, HB1⟩ := hcut
    rename World => w1
    have H1 := Lib.hid (H.out.below' HB1.out)
    obtain ⟨d0, d1, d2, d3, d4, d5, d6⟩ := H1.out.cells
    have f2 := H1.out.frozen 2
    have f3 := H1.out.frozen 3
    have f4 := H1.out.frozen 4
    have f5 := H1.out.frozen 5
    have f6 := H1.out.frozen 6
    have HI := Lib.hid HM.out.1
    have hi := HM.out.1
    clear c2 c3 c4 hHE hs kw hHB HEX HHE
    go_wp2_with fail
    refine (HLI.out _).mono ?_
    rintro e w' ⟨rfl, rfl⟩
    go_upto_region 2 with (fail)
    rw [HEXF.out]
    go_region_with (go_at_call 31; refine (HCO.out _).mono ?_; rintro e w' ⟨rfl, rfl⟩)
    all_goals go_wp2_with fail
    all_goals go_end0
    all_goals exact ⟨rfl, ⟨i, ca, HM.out.1, HM.out.2.1, HM.out.2.2, (HFIN.out _ HB1.out.size H1.out).below' ⟨rfl, rfl, rfl, Nat.le_refl _, fun _ _ => rfl⟩⟩, (KeptBut.setCell (S := fun k => k = X) (KeptBut.setCell (S := fun k => k = X) (KeptBut.setCell (S := fun k => k = X) (KeptBut.setCell (S := fun k => k = X) (KeptBut.setCell (S := fun k => k = X) (KeptBut.of_below HB1.out) (p := ⟨X, 2, none⟩) rfl _) (p := ⟨X, 3, none⟩) rfl _) (p := ⟨X, 4, none⟩) rfl _) (p := ⟨X, 5, none⟩) rfl _) (p := ⟨X, 6, none⟩) rfl _).drewN 1⟩
end Go.Proofs.YtmohilfebgahoaaGreatDoor
