/- The walk of the law LogStops. -/
import Derived.Test.YtlilommhdjdblaaGreatDoorTold
import Derived.Test.YtlilommhdjdblaaGreatDoorLog3
import Derived.Test.YtlilommhdjdblaaGreatDoorOpen
namespace Go.Proofs.YtlilommhdjdblaaGreatDoor
open Go.RowKit

/-- The records of a log's frames. -/
def recsOf (l : List ByteArray) : List (List UInt8) := l.map fun b => recL (bytesOf b)
theorem recsOf_rec (l : List ByteArray) : ∀ r ∈ recsOf l, Ph.isRec r := fun r hr => by
  obtain ⟨b, _, rfl⟩ := List.mem_map.1 hr
  exact recL_isRec _
theorem recsOf_len (l : List ByteArray) : (recsOf l).length = l.length := by simp [recsOf]
/-- A log's bytes are its frames' records, and what was begun when it stopped. -/
def LogOk (S : LogS) : Prop := (∃ tail, S.bytes = (recsOf S.all).flatten ++ tail ∧ Ph.noNl tail ∧ (S.st = false → tail = [])) ∧ 0 ≤ S.safe ∧ S.safe ≤ S.bytes.length
theorem ok_new : LogOk newS := ⟨⟨[], rfl, fun x hx => (by cases hx), fun _ => rfl⟩, Int.le_refl _, Int.le_refl _⟩
theorem ok_put {S : LogS} (h : LogOk S) (E : Int) (b : ByteArray) : LogOk (putS S E b) := by
  obtain ⟨⟨tail, h1, h2, h3⟩, h4, h5⟩ := h
  unfold putS
  split
  · exact ⟨⟨tail, h1, h2, h3⟩, h4, h5⟩
  · rename_i hn
    have hst : S.st = false := by
      cases hs : S.st with
      | false => rfl
      | true => exact absurd (.inl hs) hn
    have ht := h3 hst
    subst ht
    rw [List.append_nil] at h1
    split
    · refine ⟨⟨(recL (bytesOf b)).take ((recL (bytesOf b)).length / 2), by simp only; rw [h1], ?_, fun h => (by cases h)⟩, h4, ?_⟩
      · exact Ph.rec_part (recL_isRec _) (by have := recL_two (bytesOf b); omega)
      · simp only [List.length_append]; omega
    · refine ⟨⟨[], ?_, fun x hx => (by cases hx), fun _ => rfl⟩, h4, ?_⟩
      · simp only
        rw [h1]
        simp [recsOf]
      · simp only [List.length_append]; omega
theorem ok_sync {S : LogS} (h : LogOk S) : LogOk (syncS S) := by
  obtain ⟨⟨tail, h1, h2, h3⟩, h4, h5⟩ := h
  unfold syncS
  split
  · exact ⟨⟨tail, h1, h2, h3⟩, h4, h5⟩
  · rename_i hn
    have hst : S.st = false := by simpa using hn
    split
    · exact ⟨⟨tail, h1, h2, fun h => (by cases h)⟩, h4, h5⟩
    · exact ⟨⟨tail, h1, h2, fun _ => h3 hst⟩, by simp, by simp⟩
theorem ok_crash (S : LogS) (i : Nat) : LogOk (crashS S (recsOf S.all) i) := by
  refine ⟨⟨[], ?_, fun x hx => (by cases hx), fun _ => rfl⟩, by simp [crashS], by simp [crashS]⟩
  simp [crashS, recsOf, List.map_take]
theorem unp_none2 : unpE (bytesOf ByteArray.empty) [2] 0 = 2 := by decide +kernel
theorem unp_zero : unpE (bytesOf ⟨#[0]⟩) [2] 0 = 0 := by decide +kernel
theorem unp_four : unpE (bytesOf ⟨#[4]⟩) [2] 0 = 0 := by decide +kernel
theorem new_two : newErr [2] 0 = 0 := by decide +kernel
/-- A log behind so many steps, that stops at step A. -/
def StopS (A m : Nat) (S : LogS) : Prop := LogOk S ∧ S.all.length ≤ m ∧ S.bytes.length ≤ 300 * m ∧ (m ≤ A ∧ S.st = false ∧ S.left = (A : Int) - m ∨ A < m ∧ S.st = true ∧ S.left = -1)
theorem stop_bad {A m : Nat} {S : LogS} (h : StopS A m S) (hm : m ≤ 16) (b : ByteArray) : putS S 2 b = S ∧ (m ≤ A → putE S 2 = 2) ∧ (A < m → putE S 2 = 6) := by
  obtain ⟨_, h1, _, h2⟩ := h
  refine ⟨by unfold putS; rw [if_pos (.inr (.inr (by omega)))], fun h => ?_, fun h => ?_⟩
  · rcases h2 with ⟨_, h3, _⟩ | ⟨h3, _⟩
    · unfold putE; rw [if_neg (by rw [h3]; simp), if_neg (by omega), if_pos (by omega)]
    · omega
  · rcases h2 with ⟨h3, _⟩ | ⟨_, h3, _⟩
    · omega
    · unfold putE; rw [if_pos h3]
theorem stop_put {A m : Nat} {S : LogS} (h : StopS A m S) (hm : m ≤ 16) (b : ByteArray) (hb : b.size ≤ 50) : StopS A (m + 1) (putS S 0 b) ∧ (m < A → putE S 0 = 0) ∧ (A ≤ m → putE S 0 = 6) := by
  have h0 := h
  obtain ⟨hk, h1, h2, h3⟩ := h
  have hr := recL_few (bytesOf_lt b)
  rw [bytesOf_length] at hr
  have hok := ok_put hk 0 b
  rcases h3 with ⟨a1, a2, a3⟩ | ⟨a1, a2, a3⟩
  · have hE : putE S 0 = if S.left = 0 then 6 else 0 := by unfold putE; rw [if_neg (by rw [a2]; simp), if_neg (by omega), if_neg (by omega)]
    have hS : putS S 0 b = if S.left = 0 then { S with bytes := S.bytes ++ (recL (bytesOf b)).take ((recL (bytesOf b)).length / 2), left := -1, st := true } else { S with all := S.all ++ [b], bytes := S.bytes ++ recL (bytesOf b), left := max (-1) (S.left - 1), st := false } := by
      unfold putS; rw [if_neg (by rintro (h | h | h); rw [a2] at h; cases h; omega; exact h rfl)]
    rw [hE]
    rw [hS] at hok ⊢
    by_cases hl : S.left = 0
    · rw [if_pos hl] at hok ⊢
      rw [if_pos hl]
      refine ⟨⟨hok, by simp only; omega, ?_, .inr ⟨by omega, rfl, rfl⟩⟩, fun h => by omega, fun _ => rfl⟩
      simp only [List.length_append, List.length_take]; omega
    · rw [if_neg hl] at hok ⊢
      rw [if_neg hl]
      refine ⟨⟨hok, by simp only [List.length_append, List.length_singleton]; omega, by simp only [List.length_append]; omega, .inl ⟨by omega, rfl, ?_⟩⟩, fun _ => rfl, fun h => by omega⟩
      simp only; omega
  · have e : putS S 0 b = S := by unfold putS; rw [if_pos (.inl a2)]
    rw [e]
    refine ⟨⟨hk, by omega, by omega, .inr ⟨by omega, a2, a3⟩⟩, fun h => by omega, fun _ => by unfold putE; rw [if_pos a2]⟩
theorem stop_sync {A m : Nat} {S : LogS} (h : StopS A m S) (hm : m ≤ A) : StopS A (m + 1) (syncS S) ∧ (m < A → syncE S = 0) ∧ (m = A → syncE S = 6) := by
  obtain ⟨hk, h1, h2, h3⟩ := h
  have hok := ok_sync hk
  rcases h3 with ⟨a1, a2, a3⟩ | ⟨a1, a2, a3⟩
  · have hE : syncE S = if S.left = 0 then 6 else 0 := by unfold syncE; rw [if_neg (by rw [a2]; simp)]
    have hS : syncS S = if S.left = 0 then { S with left := -1, st := true } else { S with left := max (-1) (S.left - 1), st := false, safe := (S.bytes.length : Nat) } := by unfold syncS; rw [if_neg (by rw [a2]; simp)]
    rw [hE]
    rw [hS] at hok ⊢
    by_cases hl : S.left = 0
    · rw [if_pos hl] at hok ⊢
      rw [if_pos hl]
      exact ⟨⟨hok, by simp only; omega, by simp only; omega, .inr ⟨by omega, rfl, rfl⟩⟩, fun h => by omega, fun _ => rfl⟩
    · rw [if_neg hl] at hok ⊢
      rw [if_neg hl]
      exact ⟨⟨hok, by simp only; omega, by simp only; omega, .inl ⟨by omega, rfl, by simp only; omega⟩⟩, fun _ => rfl, fun h => by omega⟩
  · omega
theorem crash_le (S : LogS) (i : Nat) (h : LogOk S) : (crashS S (recsOf S.all) i).bytes.length ≤ S.bytes.length := by
  obtain ⟨⟨tail, h1, _, _⟩, _⟩ := h
  have h2 := Ph.mark_mono (recsOf S.all) (show i ≤ max i (recsOf S.all).length by omega)
  have h3 : Ph.mark (recsOf S.all) (max i (recsOf S.all).length) = (recsOf S.all).flatten.length := by unfold Ph.mark; rw [List.take_of_length_le (by omega)]
  rw [h1, List.length_append]
  show ((recsOf S.all).take i).flatten.length ≤ _
  unfold Ph.mark at h2 h3
  omega
set_option maxHeartbeats 8000000 in
set_option maxRecDepth 1000000 in
theorem logStops_walk (w : World) (after many keep : Int) (hg : Laid w) (ht : Lib.TabIs Tryz.prog w "internal/strconv.uint64pow10" .u64 Lib.pow10Tab) :
    Calls Tryz.prog 4 #[.int .i64 after, .int .i64 many, .int .i64 keep] w fun e w' => e = .returned (.bool true) ∧ Below w.heap.size w w' := by
  have HG := Lib.hid hg
  have HT := Lib.hid ht
  obtain ⟨W1, hW1⟩ : ∃ W1, W1 = w.alloc (.cells #[.int .i64 2] 3) := ⟨_, rfl⟩
  have hr1 : RdI W1 W1.heap.size (some ⟨w.heap.size, 0, none⟩) 1 [2] := by rw [hW1]; exact RdI.lit' w [2] 3 #[.int .i64 2] rfl
  have HB1 : Hid (Below w.heap.size w W1) := Lib.hid (by rw [hW1]; exact below_alloc0 _ _)
  have HNW := Lib.hid (lnew_ok (some ⟨w.heap.size, 0, none⟩) 1 1 [2] 0 W1 W1.heap.size hr1 (Nat.le_refl _) new_two (by omega))
  have HW1 := Lib.hid hW1
  have HBS := Lib.hid HB1.out.size
  clear hg ht hr1 hW1
  by_cases hn : (0 ≤ after ∧ after ≤ 15) ∧ (0 ≤ many ∧ many ≤ 15)
  · obtain ⟨A, rfl⟩ := Int.eq_ofNat_of_zero_le hn.1.1
    obtain ⟨M, rfl⟩ := Int.eq_ofNat_of_zero_le hn.2.1
    have hA : A ≤ 15 := by omega
    have hM : M ≤ 15 := by omega
    have n1 : ¬ (A : Int) < 0 := by omega
    have n2 : ¬ (15 : Int) < (A : Int) := by omega
    have n3 : ¬ (M : Int) < 0 := by omega
    have n4 : ¬ (15 : Int) < (M : Int) := by omega
    clear hn
    go_enter Tryz.func4, Tryz.ntmps4
    go_wp2_with fail
    rw [← HW1.out]
    refine HNW.out.mono ?_
    rintro e w2 ⟨X, As, cs, rfl, hl, hb⟩
    have HF := Lib.hid (lfail_any w2 W1.heap.size X As 1 cs [2] 0 none 0 0 newS (A : Int) hl)
    have HL2 := Lib.hid hl
    have HB2 := Lib.hid (below_on HB1.out hb)
    clear hl hb HNW
    go_wp2_with fail
    refine HF.out.mono ?_
    rintro e w3 ⟨rfl, hl3, hk3⟩
    have HL3 : Hid (∃ Aa na ca S, LogAt w3 W1.heap.size X As 1 cs [2] 0 Aa na ca S ∧ StopS A 0 S) := Lib.hid ⟨_, _, _, _, hl3, ⟨ok_new.1, ok_new.2⟩, Nat.le_refl _, Nat.le_refl _, .inl ⟨Nat.zero_le _, rfl, by simp only; omega⟩⟩
    have HB3 : Hid (Below w.heap.size w w3) := Lib.hid (HB2.out.trans (HL2.out.belowL (hk3.mono fun k _ h => .inl h) HBS.out HB2.out.size))
    clear hl3 hk3 HF HB2 HL2
    go_wp2_with fail
    go_loopw [9, 10, 11, 12, 13, 14, 15] (fun st i _ _ _ _ _ wr => ∃ k : Nat, k ≤ M ∧ i = .int .i64 k ∧ st = .int .i64 k ∧ Hid (∃ Aa na ca S, LogAt wr W1.heap.size X As 1 cs [2] 0 Aa na ca S ∧ StopS A k S) ∧ Hid (Below w.heap.size w wr)) (fun _ i _ _ _ _ _ _ => M - (intOf i).toNat)
    case atStart => exact ⟨0, Nat.zero_le _, rfl, rfl, HL3, HB3⟩
    case round =>
      obtain ⟨k, hk, rfl, rfl, HL, HBW⟩ := hrel
      obtain ⟨Aa, na, ca, S, hl, hs⟩ := HL.out
      have hsz : W1.heap.size ≤ wr.heap.size := Nat.le_trans hl.1 (Nat.le_of_lt hl.lt)
      have HSZ := Lib.hid hsz
      have HLA := Lib.hid hl
      have HS := Lib.hid hs
      by_cases hlt : k < M
      · have hlt' : (k : Int) < (M : Int) := by omega
        have hk16 : k ≤ 16 := by omega
        have hll : -1 ≤ S.left ∧ S.left ≤ 9223372036854775807 := by rcases hs.2.2.2 with ⟨_, _, h⟩ | ⟨_, _, h⟩ <;> rw [h] <;> omega
        have hby : S.bytes.length ≤ 100000 := by have := hs.2.2.1; omega
        obtain ⟨q1, q2, q3⟩ := stop_bad hs hk16 ByteArray.empty
        obtain ⟨r1, r2, r3⟩ := stop_put hs hk16 ⟨#[0]⟩ (by decide)
        have hp1 := lput_any wr W1.heap.size X As 1 cs [2] 0 Aa na ca S ByteArray.empty hl hsz hll (by decide) (by omega) hby (tab_on HT.out HBW.out)
        rw [unp_none2, q1] at hp1
        have HP2 := Lib.hid fun W A' n' c' (h : LogAt W W1.heap.size X As 1 cs [2] 0 A' n' c' S) hsz' hb' => by
          have := lput_any W W1.heap.size X As 1 cs [2] 0 A' n' c' S ⟨#[0]⟩ h hsz' hll (by decide) (by omega) hby (tab_on HT.out hb')
          rw [unp_zero] at this
          exact this
        obtain ⟨S', hS'⟩ : ∃ S', S' = putS S 0 ⟨#[0]⟩ := ⟨_, rfl⟩
        rw [← hS'] at HP2 r1
        have HR1 := Lib.hid r1
        clear hS' q1 hll hby r1 hl hs hsz
        rcases Nat.lt_trichotomy k A with h | h | h
        · have g1 : ¬ (A : Int) < (k : Int) := by omega
          have g2 : (k : Int) ≤ (A : Int) := by omega
          have g3 : ((k : Int) == (A : Int)) = false := beq_eq_false_iff_ne.2 (by omega)
          have g4 : (k : Int) < (A : Int) := by omega
          rw [q2 (by omega)] at hp1
          have HP1 := Lib.hid hp1
          have HPE : Hid (putE S 0 = 0) := Lib.hid (r2 h)
          rw [HPE.out] at HP2
          have HX6 := Lib.hid fun W hW => herr_any 2 6 W hW (by omega)
          have HX2 := Lib.hid fun W hW => herr_any 2 2 W hW (by omega)
          have HY6 := Lib.hid fun W hW => herr_any 0 6 W hW (by omega)
          rw [show sameN 2 6 = false by decide] at HX6
          rw [show sameN 2 2 = true by decide] at HX2
          rw [show sameN 0 6 = false by decide] at HY6
          have heb := errV_ne (show (2 : Int) ≠ 0 by omega)
          have hee := errV_zero
          rw [heb] at HX6 HX2
          rw [hee] at HY6
          have HQB := Lib.hid heb
          have HQE := Lib.hid hee
          clear hp1 q2 q3 r2 r3 h heb hee
          go_wp2_with fail
          refine HP1.out.mono ?_
          rintro e w3 ⟨A3, n3, c3, he, hl3, hk3⟩
          rw [HQB.out] at he
          subst he
          have HL3 := Lib.hid hl3
          have HB3 := Lib.hid (HBW.out.trans (HLA.out.belowL hk3 HBS.out HBW.out.size))
          have HS3 := Lib.hid (Nat.le_trans HSZ.out hk3.size)
          clear hl3 hk3 HP1
          go_wp2_with fail
          refine (HP2.out w3 _ _ _ HL3.out HS3.out HB3.out).mono ?_
          rintro e w4 ⟨A4, n4, c4, he, hl4, hk4⟩
          rw [HQE.out] at he
          subst he
          have HL4 := Lib.hid hl4
          have HB4 := Lib.hid (HB3.out.trans (HL3.out.belowL hk4 HBS.out HB3.out.size))
          clear hl4 hk4 HP2
          go_wp2_with fail
          refine (HX6.out _ (HG.out.below HB4.out)).mono ?_
          rintro e w5 ⟨rfl, hb5⟩
          have HL5 := Lib.hid (HL4.out.below' hb5)
          have HB5 := Lib.hid (below_on HB4.out hb5)
          clear hb5
          go_wp2_with fail
          refine (HX2.out _ (HG.out.below HB5.out)).mono ?_
          rintro e w6 ⟨rfl, hb6⟩
          have HL6 := Lib.hid (HL5.out.below' hb6)
          have HB6 := Lib.hid (below_on HB5.out hb6)
          clear hb6
          go_wp2_with fail
          refine (HY6.out _ (HG.out.below HB6.out)).mono ?_
          rintro e w7 ⟨rfl, hb7⟩
          have HL7 : Hid (∃ Aa na ca S, LogAt w7 W1.heap.size X As 1 cs [2] 0 Aa na ca S ∧ StopS A (k + 1) S) := Lib.hid ⟨_, _, _, _, HL6.out.below' hb7, HR1.out⟩
          have HB7 := Lib.hid (below_on HB6.out hb7)
          clear hb7
          go_wp2_with fail
          go_roundw
          case rel => exact ⟨k + 1, by omega, by go_num, by go_num, HL7, HB7⟩
          case measure => simp [intOf]; omega
        · subst h
          have g1 : ¬ (k : Int) < (k : Int) := by omega
          have g2 : (k : Int) ≤ (k : Int) := by omega
          have g3 : ((k : Int) == (k : Int)) = true := by simp
          rw [q2 (by omega)] at hp1
          have HP1 := Lib.hid hp1
          have HPE : Hid (putE S 0 = 6) := Lib.hid (r3 (by omega))
          rw [HPE.out] at HP2
          have HX6 := Lib.hid fun W hW => herr_any 2 6 W hW (by omega)
          have HX2 := Lib.hid fun W hW => herr_any 2 2 W hW (by omega)
          have HY6 := Lib.hid fun W hW => herr_any 6 6 W hW (by omega)
          rw [show sameN 2 6 = false by decide] at HX6
          rw [show sameN 2 2 = true by decide] at HX2
          rw [show sameN 6 6 = true by decide] at HY6
          have heb := errV_ne (show (2 : Int) ≠ 0 by omega)
          have hee := errV_ne (show (6 : Int) ≠ 0 by omega)
          rw [heb] at HX6 HX2
          rw [hee] at HY6
          have HQB := Lib.hid heb
          have HQE := Lib.hid hee
          clear hp1 q2 q3 r2 r3 heb hee
          go_wp2_with fail
          refine HP1.out.mono ?_
          rintro e w3 ⟨A3, n3, c3, he, hl3, hk3⟩
          rw [HQB.out] at he
          subst he
          have HL3 := Lib.hid hl3
          have HB3 := Lib.hid (HBW.out.trans (HLA.out.belowL hk3 HBS.out HBW.out.size))
          have HS3 := Lib.hid (Nat.le_trans HSZ.out hk3.size)
          clear hl3 hk3 HP1
          go_wp2_with fail
          refine (HP2.out w3 _ _ _ HL3.out HS3.out HB3.out).mono ?_
          rintro e w4 ⟨A4, n4, c4, he, hl4, hk4⟩
          rw [HQE.out] at he
          subst he
          have HL4 := Lib.hid hl4
          have HB4 := Lib.hid (HB3.out.trans (HL3.out.belowL hk4 HBS.out HB3.out.size))
          clear hl4 hk4 HP2
          go_wp2_with fail
          refine (HX6.out _ (HG.out.below HB4.out)).mono ?_
          rintro e w5 ⟨rfl, hb5⟩
          have HL5 := Lib.hid (HL4.out.below' hb5)
          have HB5 := Lib.hid (below_on HB4.out hb5)
          clear hb5
          go_wp2_with fail
          refine (HX2.out _ (HG.out.below HB5.out)).mono ?_
          rintro e w6 ⟨rfl, hb6⟩
          have HL6 := Lib.hid (HL5.out.below' hb6)
          have HB6 := Lib.hid (below_on HB5.out hb6)
          clear hb6
          go_wp2_with fail
          refine (HY6.out _ (HG.out.below HB6.out)).mono ?_
          rintro e w7 ⟨rfl, hb7⟩
          have HL7 : Hid (∃ Aa na ca S, LogAt w7 W1.heap.size X As 1 cs [2] 0 Aa na ca S ∧ StopS k (k + 1) S) := Lib.hid ⟨_, _, _, _, HL6.out.below' hb7, HR1.out⟩
          have HB7 := Lib.hid (below_on HB6.out hb7)
          clear hb7
          go_wp2_with fail
          go_roundw
          case rel => exact ⟨k + 1, by omega, by go_num, by go_num, HL7, HB7⟩
          case measure => simp [intOf]; omega
        · have g1 : (A : Int) < (k : Int) := by omega
          have g2 : ¬ (k : Int) ≤ (A : Int) := by omega
          have g3 : ((k : Int) == (A : Int)) = false := beq_eq_false_iff_ne.2 (by omega)
          have g4 : ¬ (k : Int) < (A : Int) := by omega
          rw [q3 h] at hp1
          have HP1 := Lib.hid hp1
          have HPE : Hid (putE S 0 = 6) := Lib.hid (r3 (by omega))
          rw [HPE.out] at HP2
          have HX6 := Lib.hid fun W hW => herr_any 6 6 W hW (by omega)
          have HX2 := Lib.hid fun W hW => herr_any 6 2 W hW (by omega)
          have HY6 := Lib.hid fun W hW => herr_any 6 6 W hW (by omega)
          rw [show sameN 6 6 = true by decide] at HX6
          rw [show sameN 6 2 = false by decide] at HX2
          rw [show sameN 6 6 = true by decide] at HY6
          have heb := errV_ne (show (6 : Int) ≠ 0 by omega)
          have hee := errV_ne (show (6 : Int) ≠ 0 by omega)
          rw [heb] at HX6 HX2
          rw [hee] at HY6
          have HQB := Lib.hid heb
          have HQE := Lib.hid hee
          clear hp1 q2 q3 r2 r3 h heb hee
          go_wp2_with fail
          refine HP1.out.mono ?_
          rintro e w3 ⟨A3, n3, c3, he, hl3, hk3⟩
          rw [HQB.out] at he
          subst he
          have HL3 := Lib.hid hl3
          have HB3 := Lib.hid (HBW.out.trans (HLA.out.belowL hk3 HBS.out HBW.out.size))
          have HS3 := Lib.hid (Nat.le_trans HSZ.out hk3.size)
          clear hl3 hk3 HP1
          go_wp2_with fail
          refine (HP2.out w3 _ _ _ HL3.out HS3.out HB3.out).mono ?_
          rintro e w4 ⟨A4, n4, c4, he, hl4, hk4⟩
          rw [HQE.out] at he
          subst he
          have HL4 := Lib.hid hl4
          have HB4 := Lib.hid (HB3.out.trans (HL3.out.belowL hk4 HBS.out HB3.out.size))
          clear hl4 hk4 HP2
          go_wp2_with fail
          refine (HX6.out _ (HG.out.below HB4.out)).mono ?_
          rintro e w5 ⟨rfl, hb5⟩
          have HL5 := Lib.hid (HL4.out.below' hb5)
          have HB5 := Lib.hid (below_on HB4.out hb5)
          clear hb5
          go_wp2_with fail
          refine (HX2.out _ (HG.out.below HB5.out)).mono ?_
          rintro e w6 ⟨rfl, hb6⟩
          have HL6 := Lib.hid (HL5.out.below' hb6)
          have HB6 := Lib.hid (below_on HB5.out hb6)
          clear hb6
          go_wp2_with fail
          refine (HY6.out _ (HG.out.below HB6.out)).mono ?_
          rintro e w7 ⟨rfl, hb7⟩
          have HL7 : Hid (∃ Aa na ca S, LogAt w7 W1.heap.size X As 1 cs [2] 0 Aa na ca S ∧ StopS A (k + 1) S) := Lib.hid ⟨_, _, _, _, HL6.out.below' hb7, HR1.out⟩
          have HB7 := Lib.hid (below_on HB6.out hb7)
          clear hb7
          go_wp2_with fail
          go_roundw
          case rel => exact ⟨k + 1, by omega, by go_num, by go_num, HL7, HB7⟩
          case measure => simp [intOf]; omega
      · obtain rfl : k = M := by omega
        have HL9 := HL
        have HB9 := HBW
        clear HLA HS HSZ hl hs hsz hlt
        go_wp2_with fail
        rename World => wa
        go_loopw [9, 16] (fun st _ wr => ∃ m : Nat, k ≤ m ∧ m ≤ 16 ∧ (m ≤ A + 1 ∨ m = k) ∧ st = .int .i64 m ∧ Hid (∃ Aa na ca S, LogAt wr W1.heap.size X As 1 cs [2] 0 Aa na ca S ∧ StopS A m S) ∧ Hid (Below w.heap.size w wr)) (fun st _ _ => A + 1 - (intOf st).toNat)
        case atStart => exact ⟨k, Nat.le_refl _, by omega, .inr rfl, rfl, HL9, HB9⟩
        case round =>
          obtain ⟨m, hkm, hm16, hmA, rfl, HL, HBW⟩ := hrel
          obtain ⟨Aa, na, ca, S, hl, hs⟩ := HL.out
          have HLA := Lib.hid hl
          have HS := Lib.hid hs
          have hll : -1 ≤ S.left ∧ S.left ≤ 9223372036854775807 := by rcases hs.2.2.2 with ⟨_, _, h⟩ | ⟨_, _, h⟩ <;> rw [h] <;> omega
          have hsy := lsync_any wr W1.heap.size X As 1 cs [2] 0 Aa na ca S hl hll
          by_cases hma : m ≤ A
          · have hma' : (m : Int) ≤ (A : Int) := by omega
            obtain ⟨r1, r2, r3⟩ := stop_sync hs hma
            have HR1 := Lib.hid r1
            rcases Nat.lt_or_ge m A with h | h
            · have z0 : ((m : Int) == (A : Int)) = false := beq_eq_false_iff_ne.2 (by omega)
              rw [r2 h] at hsy
              have HSY := Lib.hid hsy
              clear r1 r2 r3 hl hs hsy hll h
              go_wp2_with fail
              refine HSY.out.mono ?_
              rintro e w4 ⟨rfl, hl4, hk4⟩
              rw [errV_zero]
              have HL4 : Hid (∃ Aa na ca S, LogAt w4 W1.heap.size X As 1 cs [2] 0 Aa na ca S ∧ StopS A (m + 1) S) := Lib.hid ⟨_, _, _, _, hl4, HR1.out⟩
              have HB4 := Lib.hid (HBW.out.trans (HLA.out.belowL (hk4.mono fun k _ h => .inl h) HBS.out HBW.out.size))
              clear hl4 hk4 HSY
              go_wp2_with fail
              go_roundw
              case rel => exact ⟨m + 1, by omega, by omega, .inl (by omega), by go_num, HL4, HB4⟩
              case measure => simp [intOf]; omega
            · have z0 : ((m : Int) == (A : Int)) = true := beq_iff_eq.2 (by omega)
              rw [r3 (by omega)] at hsy
              have HSY := Lib.hid hsy
              clear r1 r2 r3 hl hs hsy hll h
              go_wp2_with fail
              refine HSY.out.mono ?_
              rintro e w4 ⟨rfl, hl4, hk4⟩
              rw [errV_ne (by omega)]
              have HL4 : Hid (∃ Aa na ca S, LogAt w4 W1.heap.size X As 1 cs [2] 0 Aa na ca S ∧ StopS A (m + 1) S) := Lib.hid ⟨_, _, _, _, hl4, HR1.out⟩
              have HB4 := Lib.hid (HBW.out.trans (HLA.out.belowL (hk4.mono fun k _ h => .inl h) HBS.out HBW.out.size))
              clear hl4 hk4 HSY
              go_wp2_with fail
              go_roundw
              case rel => exact ⟨m + 1, by omega, by omega, .inl (by omega), by go_num, HL4, HB4⟩
              case measure => simp [intOf]; omega
          · have hma' : ¬ (m : Int) ≤ (A : Int) := by omega
            have hst : S.st = true ∧ S.left = -1 := by rcases hs.2.2.2 with ⟨h, _⟩ | ⟨_, h⟩; omega; exact h
            have e1 : syncE S = 6 := by unfold syncE; rw [if_pos hst.1]
            have e2 : syncS S = S := by unfold syncS; rw [if_pos hst.1]
            rw [e1, e2] at hsy
            have HSY := Lib.hid hsy
            have hsz : W1.heap.size ≤ wr.heap.size := Nat.le_trans hl.1 (Nat.le_of_lt hl.lt)
            have hby : S.bytes.length ≤ 100000 := by have := hs.2.2.1; omega
            have p1 : putE S 0 = 6 := by unfold putE; rw [if_pos hst.1]
            have p2 : putS S 0 ⟨#[0]⟩ = S := by unfold putS; rw [if_pos (.inl hst.1)]
            have HP2 := Lib.hid fun W A' n' c' (h : LogAt W W1.heap.size X As 1 cs [2] 0 A' n' c' S) hsz' hb' => by
              have := lput_any W W1.heap.size X As 1 cs [2] 0 A' n' c' S ⟨#[0]⟩ h hsz' hll (by decide) (by omega) hby (tab_on HT.out hb')
              rw [unp_zero, p1, p2] at this
              exact this
            obtain ⟨⟨tail, t1, t2, _⟩, t4, t5⟩ := hs.1
            have hal : S.all.length ≤ 16 := by have := hs.2.1; omega
            have HCR := Lib.hid fun W A' n' c' (h : LogAt W W1.heap.size X As 1 cs [2] 0 A' n' c' S) => lcrash_any W W1.heap.size X As 1 cs [2] 0 A' n' c' S keep (recsOf S.all) tail h t1 (by rw [recsOf_len]; exact h.len) (recsOf_rec _) t2 ⟨t4, t5⟩ hby (by have := h.len; omega)
            have HSZ := Lib.hid hsz
            have HAL := Lib.hid hal
            have HBYL := Lib.hid hby
            have he6 := errV_ne (show (6 : Int) ≠ 0 by omega)
            have HE6 := Lib.hid fun W hW => herr_yes 6 W hW (by omega)
            rw [he6] at HE6
            clear e1 e2 hst hl hs hsy hll hsz p1 p2 t1 t2 t4 t5 hby hal he6 hmA
            go_wp2_with fail
            refine HSY.out.mono ?_
            rintro e w4 ⟨rfl, hl4, hk4⟩
            rw [errV_ne (by omega)]
            have HL4 := Lib.hid hl4
            have HB4 := Lib.hid (HBW.out.trans (HLA.out.belowL (hk4.mono fun k _ h => .inl h) HBS.out HBW.out.size))
            have HS4 := Lib.hid (Nat.le_trans HSZ.out hk4.size)
            clear hl4 hk4 HSY
            go_wp2_with fail
            refine (HP2.out w4 _ _ _ HL4.out HS4.out HB4.out).mono ?_
            rintro e w5 ⟨A5, n5, c5, he, hl5, hk5⟩
            rw [errV_ne (by omega)] at he
            subst he
            have HL5 := Lib.hid hl5
            have HB5 := Lib.hid (HB4.out.trans (HL4.out.belowL hk5 HBS.out HB4.out.size))
            clear hl5 hk5 HP2
            go_wp2_with fail
            refine (HE6.out _ (HG.out.below HB5.out)).mono ?_
            rintro e w6 ⟨rfl, hb6⟩
            have HL6 := Lib.hid (HL5.out.below' hb6)
            have HB6 := Lib.hid (below_on HB5.out hb6)
            clear hb6
            go_wp2_with fail
            refine (HE6.out _ (HG.out.below HB6.out)).mono ?_
            rintro e w7 ⟨rfl, hb7⟩
            have HL7 := Lib.hid (HL6.out.below' hb7)
            have HB7 := Lib.hid (below_on HB6.out hb7)
            clear hb7
            go_wp2_with fail
            refine (HCR.out w7 _ _ _ HL7.out).mono ?_
            rintro e w8 ⟨rfl, ⟨i, c8, hi, _, _, hl8⟩, hk8⟩
            have HB8 := Lib.hid (HB7.out.trans (HL7.out.belowL (hk8.mono fun k _ h => .inl h) HBS.out HB7.out.size))
            have hil : i ≤ 16 := by have := HL7.out.len; have := HAL.out; omega
            have HL8 := Lib.hid hl8
            have HOK := Lib.hid (ok_crash S i)
            have HCF : Hid ((crashS S (recsOf S.all) i).left = -1 ∧ (crashS S (recsOf S.all) i).st = false ∧ (crashS S (recsOf S.all) i).all.length = i ∧ (crashS S (recsOf S.all) i).bytes.length ≤ 100000) := Lib.hid ⟨rfl, rfl, hl8.len, by
              have h1 : (crashS S (recsOf S.all) i).bytes.length ≤ S.bytes.length := crash_le S i HS.out.1
              have := HBYL.out
              omega⟩
            have HA8 := Lib.hid (lall_any w8 W1.heap.size X As 1 cs [2] 0 _ i c8 _ hl8 (by omega))
            obtain ⟨S8, hS8⟩ : ∃ q, q = crashS S (recsOf S.all) i := ⟨_, rfl⟩
            rw [← hS8] at HL8 HOK HCF HA8
            clear hl8 hk8 hS8 HCR hi
            go_wp2_with fail
            refine HA8.out.mono ?_
            rintro e w9 ⟨A9, c9, rfl, _, hb9⟩
            have HL9 := Lib.hid (HL8.out.below' hb9)
            have HB9 := Lib.hid (below_on HB8.out hb9)
            have hsz9 : W1.heap.size ≤ w9.heap.size := Nat.le_trans HL9.out.1 (Nat.le_of_lt HL9.out.lt)
            have hp := lput_any w9 W1.heap.size X As 1 cs [2] 0 _ i c8 S8 ⟨#[4]⟩ HL9.out hsz9 (by rw [HCF.out.1]; omega) (by decide) (by omega) HCF.out.2.2.2 (tab_on HT.out HB9.out)
            rw [unp_four] at hp
            have p1 : putE S8 0 = 0 := by unfold putE; rw [if_neg (by rw [HCF.out.2.1]; simp), if_neg (by have := HCF.out.2.2.1; omega), if_neg (by omega), if_neg (by rw [HCF.out.1]; omega)]
            have p2 : (putS S8 0 ⟨#[4]⟩).all = S8.all ++ [⟨#[4]⟩] ∧ (putS S8 0 ⟨#[4]⟩).left = -1 ∧ (putS S8 0 ⟨#[4]⟩).st = false := by
              unfold putS
              rw [if_neg (by rintro (h | h | h); rw [HCF.out.2.1] at h; cases h; have := HCF.out.2.2.1; omega; exact h rfl), if_neg (by rw [HCF.out.1]; omega)]
              exact ⟨rfl, by simp only; rw [HCF.out.1]; rfl, rfl⟩
            rw [p1] at hp
            have HP := Lib.hid hp
            have HPF := Lib.hid p2
            obtain ⟨S9, hS9⟩ : ∃ q, q = putS S8 0 ⟨#[4]⟩ := ⟨_, rfl⟩
            rw [← hS9] at HP HPF
            clear hb9 hp p1 p2 hS9 HA8
            go_wp2_with fail
            refine HP.out.mono ?_
            rintro e w10 ⟨A10, n10, c10, rfl, hl10, hk10⟩
            rw [errV_zero]
            have hn10 : n10 = i + 1 := by have := hl10.len; rw [HPF.out.1, List.length_append, HCF.out.2.2.1] at this; simpa using this.symm
            subst hn10
            have HB10 := Lib.hid (HB9.out.trans (HL9.out.belowL hk10 HBS.out HB9.out.size))
            have HL10 := Lib.hid hl10
            have hsy := lsync_any w10 W1.heap.size X As 1 cs [2] 0 A10 (i + 1) c10 S9 hl10 (by rw [HPF.out.2.1]; omega)
            have e1 : syncE S9 = 0 := by unfold syncE; rw [if_neg (by rw [HPF.out.2.2]; simp), if_neg (by rw [HPF.out.2.1]; omega)]
            have e2 : syncS S9 = { S9 with left := max (-1) (S9.left - 1), st := false, safe := (S9.bytes.length : Nat) } := by unfold syncS; rw [if_neg (by rw [HPF.out.2.2]; simp), if_neg (by rw [HPF.out.2.1]; omega)]
            rw [e1, e2] at hsy
            have HSY := Lib.hid hsy
            clear hl10 hk10 hsy e1 e2 HP
            go_wp2_with fail
            refine HSY.out.mono ?_
            rintro e w11 ⟨rfl, hl11, hk11⟩
            rw [errV_zero]
            have HB11 := Lib.hid (HB10.out.trans (HL10.out.belowL (hk11.mono fun k _ h => .inl h) HBS.out HB10.out.size))
            have HL11 := Lib.hid hl11
            have HA11 := Lib.hid (lall_any w11 W1.heap.size X As 1 cs [2] 0 _ _ _ _ hl11 (by omega))
            clear hl11 hk11 HSY
            go_wp2_with fail
            refine HA11.out.mono ?_
            rintro e w12 ⟨A12, c12, rfl, ho12, hb12⟩
            have HL12 := Lib.hid (HL11.out.below' hb12)
            have HB12 := Lib.hid (below_on HB11.out hb12)
            obtain ⟨g12, rfl, _, _⟩ := own_form ho12 (by omega)
            have x4 : w12.cell? ⟨g12, i, none⟩ = some (.string ⟨#[4]⟩) := by
              have hlen : (S9.all).length = i + 1 := by rw [HPF.out.1, List.length_append, HCF.out.2.2.1]; rfl
              have := ho12.cellAt i (by omega)
              try simp only at this
              rw [svals_get (by omega), HPF.out.1, List.getD_eq_getElem?_getD, List.getElem?_append_right (by rw [HCF.out.2.2.1]; exact Nat.le_refl _), HCF.out.2.2.1, Nat.sub_self] at this
              exact this
            have HSA := Lib.hid fun W hW => lsafe_any W W1.heap.size X As 1 cs [2] 0 _ _ _ _ (hW : LogAt W W1.heap.size X As 1 cs [2] 0 A10 (i + 1) c10 { S9 with left := max (-1) (S9.left - 1), st := false, safe := (S9.bytes.length : Nat) })
            have HBY := Lib.hid fun W hW => lbytes_any W W1.heap.size X As 1 cs [2] 0 _ _ _ _ (hW : LogAt W W1.heap.size X As 1 cs [2] 0 A10 (i + 1) c10 { S9 with left := max (-1) (S9.left - 1), st := false, safe := (S9.bytes.length : Nat) })
            obtain ⟨Z, hZ⟩ : ∃ q : Int, q = ((S9.bytes.length : Nat) : Int) := ⟨_, rfl⟩
            simp only at HSA HBY
            rw [← hZ] at HSA HBY
            rw [← hZ] at HL12
            have hzz : (Z == Z) = true := by simp
            have hii : ((i : Int) < (i : Int) + 1) := by omega
            have hse := str_eq (rfl : (⟨#[4]⟩ : ByteArray) = ⟨#[4]⟩)
            clear hb12 ho12 HA11 hZ
            go_wp2_with fail
            refine (HSA.out _ HL12.out).mono ?_
            rintro e w' ⟨rfl, rfl⟩
            go_wp2_with fail
            refine (HBY.out _ HL12.out).mono ?_
            rintro e w' ⟨rfl, rfl⟩
            go_wp2_with fail
            go_ret
            exact ⟨ret_true (by first | (simp; done) | rfl), HB12.out⟩
  · have hcs : after < 0 ∨ (¬ after < 0 ∧ 15 < after) ∨ (¬ after < 0 ∧ ¬ 15 < after ∧ many < 0) ∨ (¬ after < 0 ∧ ¬ 15 < after ∧ ¬ many < 0 ∧ 15 < many) := by omega
    rcases hcs with h0 | ⟨h0, h1⟩ | ⟨h0, h1, h2⟩ | ⟨h0, h1, h2, h3⟩
    all_goals
      clear hn
      go_enter Tryz.func4, Tryz.ntmps4
      go_wp2_with fail
      rw [← HW1.out]
      refine HNW.out.mono ?_
      rintro e w2 ⟨X, As, cs, rfl, _, hb⟩
      have HB2 := Lib.hid (below_on HB1.out hb)
      clear hb HNW
      go_wp2_with fail
      go_ret
      exact ⟨rfl, HB2.out⟩
end Go.Proofs.YtlilommhdjdblaaGreatDoor
