/- Walks: shares that are Total together (chapter 10). -/
import Derived.Test.YtapjnfhbjmeniaaSound
import Derived.Test.YtapjnfhbjmeniaaCount
import Derived.Test.YtapjnfhbjmeniaaShelf
import Derived.Test.YtapjnfhbjmeniaaPhAll
import Derived.Outline
namespace Go.Proofs.Ytapjnfhbjmeniaa
open Go.RowKit

theorem total_abs {l : List Int} {M : Int} (h : ∀ x ∈ l, -M ≤ x ∧ x ≤ M) : -(l.length * M) ≤ Ph.total l ∧ Ph.total l ≤ l.length * M := by
  induction l with
  | nil => simp [Ph.total]
  | cons x l ih =>
    have h1 := ih (fun y hy => h y (by simp [hy]))
    have h2 := h x (by simp)
    simp only [Ph.total, List.length_cons]
    rw [Int.natCast_add, Int.add_mul]
    simp
    omega
theorem total_take_abs {l : List Int} (h : ∀ x ∈ l, -1000000000 ≤ x ∧ x ≤ 1000000000) (hn : l.length ≤ 1000) (k : Nat) : -1000000000000 ≤ Ph.total (l.take k) ∧ Ph.total (l.take k) ≤ 1000000000000 := by
  have h1 := total_abs (l := l.take k) (M := 1000000000) fun x hx => h x (List.mem_of_mem_take hx)
  have h2 : (l.take k).length ≤ 1000 := by rw [List.length_take]; omega
  omega
theorem ssum_any (A : Option Addr) (n c : Nat) (l : List Int) (w : World) (B : Nat) (h : RdI w B A n l) (hb : ∀ x ∈ l, -1000000000 ≤ x ∧ x ≤ 1000000000) (hn : n ≤ 1000) :
    Calls Try.prog 108 #[.slice A n c] w fun e w' => e = .returned (.int .i64 (Ph.total l)) ∧ w = w' := by
  have HL := Lib.hid h.len
  have H := Lib.hid h
  have HB := Lib.hid hb
  clear h hb
  go_enter Try.func108, Try.ntmps108
  go_wp2_with fail
  go_loop [3, 8] (fun s i => ∃ k : Nat, k ≤ n ∧ i = .int .i64 k ∧ s = .int .i64 (Ph.total (l.take k))) (fun _ i => n - (intOf i).toNat)
  case atStart => exact ⟨0, Nat.zero_le _, rfl, rfl⟩
  case round =>
    obtain ⟨k, hk, rfl, rfl⟩ := hrel
    by_cases hlt : k < n
    · obtain ⟨b, off, rfl, _, hc⟩ := H.out.at_ hlt
      have hkl : k < l.length := by rw [HL.out]; exact hlt
      have hx := HB.out _ (Ph.getD_mem (l := l) (i := k) hkl)
      have ht := total_take_abs HB.out (by rw [HL.out]; exact hn) k
      have hs : Hid (Ph.total (l.take (k + 1)) = Ph.total (l.take k) + l.getD k 0) := Lib.hid (by rw [Ph.take_snoc l k hkl, Ph.total_snoc])
      obtain ⟨x, hxe⟩ : ∃ x, x = l.getD k 0 := ⟨_, rfl⟩
      rw [← hxe] at hc hx hs
      clear hxe hkl
      go_wp2_with fail
      go_round
      case rel => exact ⟨k + 1, by omega, by go_num, by rw [hs.out]⟩
      case measure => simp [intOf]; omega
    · go_wp2
      go_ret
      exact ⟨ret_int (by rw [List.take_of_length_le (by rw [HL.out]; omega)]), rfl⟩
/-- A count that may not be. -/
def badCount (x : Int) : Bool := decide (x < 0) || decide (1000000 < x)
theorem scheck1_any (n : Int) (w : World) : Calls Try.prog 107 #[.int .i64 n] w fun e w' => e = .returned (.bool (badCount n)) ∧ w = w' := by
  unfold badCount
  by_cases h1 : n < 0 <;> by_cases h2 : 1000000 < n
  all_goals go_enter Try.func107, Try.ntmps107
  all_goals go_wp2_with fail
  all_goals go_ret
  all_goals exact ⟨ret_bool (by simp [h1, h2]), rfl⟩
theorem enters_scheck1 : ∀ args W, (callFunc 107 args).run Try.prog W = .ok (.enter 107 args) W :=
  fun args W => enters_of Try.func107 (by kernel_rfl) rfl args W
/-- What is wrong with counts. -/
def scaleErr (l : List Int) : Int := if l.length = 0 then 5 else if 40 < l.length then 4 else if l.any badCount = true then 1 else if Ph.total l = 0 then 5 else 0
theorem counts_any_bad {s : List Int} : s.any badCount = false ↔ ∀ x ∈ s, 0 ≤ x ∧ x ≤ 1000000 := by
  rw [List.any_eq_false]
  unfold badCount
  constructor
  · intro h x hx
    have := h x hx
    simp at this; omega
  · intro h x hx
    have := h x hx
    simp; omega
theorem scaleErr_zero {l : List Int} : scaleErr l = 0 ↔ 0 < l.length ∧ l.length ≤ 40 ∧ (∀ x ∈ l, 0 ≤ x ∧ x ≤ 1000000) ∧ Ph.total l ≠ 0 := by
  unfold scaleErr
  by_cases h1 : l.length = 0
  · rw [if_pos h1]; constructor <;> intro h <;> omega
  · rw [if_neg h1]
    by_cases h2 : 40 < l.length
    · rw [if_pos h2]; constructor <;> intro h <;> omega
    · rw [if_neg h2]
      cases h3 : l.any badCount
      · rw [if_neg (by simp)]
        have h4 := counts_any_bad.1 h3
        by_cases h5 : Ph.total l = 0
        · rw [if_pos h5]; constructor
          · intro h; omega
          · intro h; exact absurd h5 h.2.2.2
        · rw [if_neg h5]; exact ⟨fun _ => ⟨by omega, by omega, h4, h5⟩, fun _ => rfl⟩
      · rw [if_pos rfl]; constructor
        · intro h; omega
        · intro h; rw [counts_any_bad.2 h.2.2.1] at h3; cases h3
theorem scheck_any (A : Option Addr) (n c : Nat) (l : List Int) (w : World) (B : Nat) (h : RdI w B A n l) (hn : n ≤ 100000000000000) :
    Calls Try.prog 79 #[.slice A n c] w fun e w' => e = .returned (errV (scaleErr l)) ∧ w = w' := by
  have hl := h.len
  by_cases hz : n = 0
  · have e : scaleErr l = 5 := by unfold scaleErr; rw [if_pos (by omega)]
    rw [e, errV_ne (by omega)]
    subst hz
    clear hl e h
    go_enter Try.func79, Try.ntmps79
    go_wp2_with fail
    go_ret
    exact ⟨rfl, rfl⟩
  · have hnn : ((n : Int) == 0) = false := by simp; omega
    by_cases h8 : 40 < n
    · have e : scaleErr l = 4 := by unfold scaleErr; rw [if_neg (by omega), if_pos (by omega)]
      rw [e, errV_ne (by omega)]
      clear hl e h
      go_enter Try.func79, Try.ntmps79
      go_wp2_with fail
      go_ret
      exact ⟨rfl, rfl⟩
    · have HC : Hid (∀ W, RdI W B A n l → Calls Try.prog 52 #[.slice A n c, .func (.func 107) #[] #[]] W fun e w' => e = .returned (.bool (l.any badCount)) ∧ W = w') := Lib.hid fun W hW => any_any A n c 107 #[] l badCount W B hW (by omega) enters_scheck1 (fun x _ => scheck1_any x W)
      have H := Lib.hid h
      have e0 : scaleErr l = if l.any badCount = true then 1 else if Ph.total l = 0 then 5 else 0 := by unfold scaleErr; rw [if_neg (by omega), if_neg (by omega)]
      rw [e0]
      cases hany : l.any badCount
      · rw [if_neg (by simp)]
        have hall := counts_any_bad.1 hany
        have HS := Lib.hid fun W hW => ssum_any A n c l W B hW (fun x hx => by have := hall x hx; omega) (by omega)
        rw [hany] at HC
        obtain ⟨T, hT⟩ : ∃ T, T = Ph.total l := ⟨_, rfl⟩
        rw [← hT] at HS ⊢
        by_cases h0 : T = 0
        · rw [if_pos h0, errV_ne (by omega)]
          subst h0
          clear hl h hany hall hz hT e0
          go_enter Try.func79, Try.ntmps79
          go_wp2_with fail
          refine (HC.out _ H.out).mono ?_
          rintro e wk ⟨rfl, rfl⟩
          go_wp2_with fail
          refine (HS.out _ H.out).mono ?_
          rintro e wk ⟨rfl, rfl⟩
          go_wp2_with fail
          go_ret
          exact ⟨rfl, rfl⟩
        · rw [if_neg h0, errV_of rfl]
          have h0b : (T == 0) = false := by simpa using h0
          clear hl h hany hall hz hT h0 e0
          go_enter Try.func79, Try.ntmps79
          go_wp2_with fail
          refine (HC.out _ H.out).mono ?_
          rintro e wk ⟨rfl, rfl⟩
          go_wp2_with fail
          refine (HS.out _ H.out).mono ?_
          rintro e wk ⟨rfl, rfl⟩
          go_wp2_with fail
          go_ret
          exact ⟨rfl, rfl⟩
      · rw [if_pos rfl, errV_ne (by omega)]
        rw [hany] at HC
        clear hl h hany hz e0
        go_enter Try.func79, Try.ntmps79
        go_wp2_with fail
        refine (HC.out _ H.out).mono ?_
        rintro e wk ⟨rfl, rfl⟩
        go_wp2_with fail
        go_ret
        exact ⟨rfl, rfl⟩
theorem idx_best {l : List Int} (h : l ≠ []) : Lib.maxOf l = l.getD (Ph.bestL l) 0 ∧ Lib.idxOf l (l.getD (Ph.bestL l) 0) = (Ph.bestL l : Nat) := by
  have hb := Ph.bestL_lt h
  constructor
  · have hm : ∀ k, 0 < k → k ≤ l.length → Lib.maxOf (l.take k) = l.getD (Ph.best (fun i => l.getD i 0) k) 0 := by
      intro k
      induction k with
      | zero => intro h0; omega
      | succ k ih =>
        intro _ hk
        rcases Nat.eq_zero_or_pos k with h0 | h0
        · subst h0
          rw [Lib.maxOf_one]
          simp [Ph.best]
        · rw [Lib.maxOf_step l k h0 (by omega), ih h0 (by omega)]
          simp only [Ph.best]
          split <;> omega
    have := hm l.length (by omega) (Nat.le_refl _)
    rwa [List.take_of_length_le (Nat.le_refl _)] at this
  · have h1 := Ph.best_first (fun i => l.getD i 0) l.length
    have := Lib.idxOf_hit l l.length (Ph.bestL l) (l.getD (Ph.bestL l) 0) hb (Nat.le_refl _) rfl (fun j hj => by
      have := h1 j hj
      unfold Ph.bestL; omega)
    rwa [List.take_of_length_le (Nat.le_refl _)] at this
theorem part_skip {f : Nat → Int} {k j : Nat} (h : f j = 0) : part f k (j + 1) = part f k j := by
  unfold part
  apply List.map_congr_left
  intro i _
  by_cases e : i = j
  · subst e; rw [if_pos (by omega), if_neg (by omega), h]
  · by_cases h1 : i < j
    · rw [if_pos (by omega), if_pos h1]
    · rw [if_neg (by omega), if_neg h1]
theorem firsts_part (l : List Int) : Ph.firsts l = part (fun i => Ph.share1 (Ph.total l) (l.getD i 0)) l.length l.length := by
  rw [part_all]
  apply List.ext_getElem
  · simp [Ph.firsts]
  · intro i h1 h2
    simp only [List.getElem_map, List.getElem_range]
    have := Ph.firsts_getD l i (by simpa [Ph.firsts] using h1)
    rw [List.getD_eq_getElem?_getD, List.getElem?_eq_getElem h1] at this
    simpa using this
/-- What holds of shares that are being adjusted. -/
def Adj (l cur : List Int) : Prop := Ph.finish cur = Ph.scaled l ∧ cur.length = l.length ∧ Ph.Fits l cur ∧ 0 ≤ Ph.total cur ∧ Ph.total cur ≤ 10240
theorem adj_bd {l cur : List Int} (h : Adj l cur) (i : Nat) : 0 ≤ cur.getD i 0 ∧ cur.getD i 0 ≤ 10240 := by
  obtain ⟨_, h1, h2, _, h4⟩ := h
  have hp : ∀ x ∈ cur, 0 ≤ x := by
    intro x hx
    obtain ⟨j, hj, rfl⟩ := List.mem_iff_getElem.1 hx
    have := (h2.2 j (by omega)).1
    rwa [List.getD_eq_getElem?_getD, List.getElem?_eq_getElem hj] at this
  by_cases hi : i < cur.length
  · have := Ph.mem_le_total hp _ (Ph.getD_mem hi)
    have := (h2.2 i (by omega)).1
    omega
  · rw [List.getD_eq_getElem?_getD, List.getElem?_eq_none (by omega)]
    simp
theorem adj_step {l cur : List Int} (h0 : scaleErr l = 0) (h : Adj l cur) (ht : Ph.total cur ≠ 256) : Adj l (Ph.bump cur (Ph.bestL cur) (Ph.dirn cur)) ∧ Ph.total (Ph.bump cur (Ph.bestL cur) (Ph.dirn cur)) = Ph.total cur + Ph.dirn cur ∧ Ph.bestL cur < cur.length := by
  have hz := scaleErr_zero.1 h0
  have hne : cur ≠ [] := fun e => by have := h.2.1; rw [e] at this; simp at this; omega
  have hs := Ph.finish_step ht hne
  have hb := Ph.bestL_lt hne
  have htb : Ph.total (Ph.bump cur (Ph.bestL cur) (Ph.dirn cur)) = Ph.total cur + Ph.dirn cur := Ph.total_bump hb
  refine ⟨⟨hs.1.symm.trans h.1, by rw [Ph.bump_length]; exact h.2.1, Ph.fits_bump hz.2.1 (Ph.some_pos (fun x hx => (hz.2.2.1 x hx).1) hz.2.2.2) h.2.2.1, ?_, ?_⟩, htb, hb⟩
  · rw [htb]; have := h.2.2.2; unfold Ph.dirn; split <;> omega
  · rw [htb]; have := h.2.2.2; unfold Ph.dirn; split <;> omega
theorem adj_start {l : List Int} (h0 : scaleErr l = 0) : Adj l (Ph.firsts l) := by
  have hz := scaleErr_zero.1 h0
  have h1 := Ph.firsts_total_le hz.2.1 fun x hx => (hz.2.2.1 x hx).1
  exact ⟨rfl, Ph.firsts_length l, Ph.firsts_fits fun x hx => (hz.2.2.1 x hx).1, h1.1, h1.2⟩
set_option maxHeartbeats 2000000 in
theorem sshares_any (A : Option Addr) (n c : Nat) (l : List Int) (w : World) (B : Nat) (h : RdI w B A n l) (hB : B ≤ w.heap.size) (h0 : scaleErr l = 0) :
    Calls Try.prog 80 #[.slice A n c] w (OwnI 3 (Ph.scaled l) w) := by
  have hz := scaleErr_zero.1 h0
  have hl := h.len
  have HS0 := Lib.hid fun W hW => ssum_any A n c l W B hW (fun x hx => by have := hz.2.2.1 x hx; omega) (by omega)
  have hmk := make_ints n (by omega)
  have hown0 := Lib.hid (made_own w n (by omega))
  have hT : 0 < Ph.total l ∧ Ph.total l ≤ 40000000 := by
    have h1 := Ph.total_nonneg fun x hx => (hz.2.2.1 x hx).1
    have h2 := Ph.total_le fun x hx => (hz.2.2.1 x hx).2
    have := hz.2.2.2
    omega
  have HM := Lib.hid (Ph.mem_le_total fun x hx => (hz.2.2.1 x hx).1)
  have HZ := Lib.hid hz
  have HL := Lib.hid hl
  have H := Lib.hid h
  have H0 := Lib.hid h0
  have HF := Lib.hid (firsts_part l)
  have hn : n ≤ 40 := by omega
  have hn0 : 0 < n := by omega
  obtain ⟨T, hTe⟩ : ∃ T, T = Ph.total l := ⟨_, rfl⟩
  rw [← hTe] at HS0 hT HM HF
  have HT := Lib.hid hTe
  clear h h0 hz hl hTe
  go_enter Try.func80, Try.ntmps80
  go_wp2_with fail
  refine (HS0.out _ H.out).mono ?_
  rintro e wk ⟨rfl, rfl⟩
  clear HS0
  go_wp2_with fail
  go_loopw [5, 6, 16] (fun _ _ i wr => ∃ k : Nat, k ≤ n ∧ i = .int .i64 k ∧ wr.ownsRow w.heap.size 3 1 (.slice (some ⟨w.heap.size, 0, none⟩) n n) n (ivals (part (fun i => Ph.share1 T (l.getD i 0)) n k)) ∧ Below w.heap.size w wr) (fun _ _ i _ => n - (intOf i).toNat)
  case atStart => exact ⟨0, Nat.zero_le _, rfl, by rw [part_zero]; exact hown0.out, below_alloc0 _ _⟩
  case round =>
    obtain ⟨k, hk, rfl, hown, hbw⟩ := hrel
    have HO := Lib.hid hown
    have HBW := Lib.hid hbw
    clear hown hbw hown0
    by_cases hlt : k < n
    · obtain ⟨b, off, rfl, _, hc⟩ := (H.out.below (HBW.out.mono hB)).at_ hlt
      have hkl : k < l.length := by rw [HL.out]; exact hlt
      have hx := HZ.out.2.2.1 _ (Ph.getD_mem (l := l) (i := k) hkl)
      have hxT := HM.out _ (Ph.getD_mem (l := l) (i := k) hkl)
      have hP : Hid (part (fun i => Ph.share1 T (l.getD i 0)) n (k + 1) = (part (fun i => Ph.share1 T (l.getD i 0)) n k).set k (Ph.share1 T (l.getD k 0))) := Lib.hid (part_set _ _ _).symm
      have hK : Hid (Ph.share1 T (l.getD k 0) = 0 → part (fun i => Ph.share1 T (l.getD i 0)) n (k + 1) = part (fun i => Ph.share1 T (l.getD i 0)) n k) := Lib.hid fun h => part_skip h
      obtain ⟨x, hxe⟩ : ∃ x, x = l.getD k 0 := ⟨_, rfl⟩
      rw [← hxe] at hc hx hxT hP hK
      clear hxe hkl
      by_cases hx0 : 0 < x
      · have f4 : wr.frozen? ⟨w.heap.size, k, none⟩ = false := HO.out.frozenAt k
        obtain ⟨v4, c4⟩ : ∃ v4, wr.cell? ⟨w.heap.size, k, none⟩ = some (.int .i64 v4) := ⟨_, by rw [HO.out.cellAt k (by omega), ivals_get (by rw [part_length]; omega)]⟩
        have hq0 : 0 ≤ x * 256 / T := Int.ediv_nonneg (by omega) (by omega)
        have hsh : Hid (Ph.share1 T x = max 1 (x * 256 / T)) := Lib.hid (by unfold Ph.share1; rw [if_pos hx0]; split <;> omega)
        have hx1 : (0 : Int) ≤ x * 256 := by omega
        clear hK
        go_wp2_with fail
        go_roundw
        case rel =>
          refine ⟨k + 1, by omega, by go_num, ?_, HBW.out.setCell (Nat.le_refl _) _⟩
          have := (HO.out.stored k (.int .i64 (max 1 (x * 256 / T)))).1
          rw [ivals_set, ← hsh.out, ← hP.out] at this
          rw [← hsh.out]
          exact this
        case measure => simp [intOf]; omega
      · have hs0 : Hid (Ph.share1 T x = 0) := Lib.hid (by unfold Ph.share1; rw [if_neg hx0])
        go_wp2_with fail
        go_roundw
        case rel => exact ⟨k + 1, by omega, by go_num, by rw [hK.out hs0.out]; exact HO.out, HBW.out⟩
        case measure => simp [intOf]; omega
    · obtain rfl : k = n := by omega
      have hF := HF.out
      rw [HL.out] at hF
      have hO := HO.out
      rw [← hF] at hO
      have HO1 := Lib.hid hO
      have HA := Lib.hid (adj_start H0.out)
      have HSF := Lib.hid (ssum_any (some ⟨w.heap.size, 0, none⟩) k k (Ph.firsts l) wr wr.heap.size (RdI.own hO) (fun x hx => by
        obtain ⟨j, hj, rfl⟩ := List.mem_iff_getElem.1 hx
        have := adj_bd (adj_start H0.out) j
        rw [List.getD_eq_getElem?_getD, List.getElem?_eq_getElem hj] at this
        simp at this; omega) (by omega))
      clear hF hO HO HF
      go_wp2_with fail
      refine (HSF.out).mono ?_
      rintro e wk ⟨rfl, rfl⟩
      clear HSF
      rename World => wa
      go_wp2_with fail
      go_loopw [7, 8] (fun s _ wr => ∃ cur : List Int, s = .int .i64 (Ph.total cur) ∧ Hid (Adj l cur) ∧ wr.ownsRow w.heap.size 3 1 (.slice (some ⟨w.heap.size, 0, none⟩) k k) k (ivals cur) ∧ Below w.heap.size w wr) (fun s _ _ => (256 - intOf s).natAbs)
      case atStart => exact ⟨_, rfl, HA, HO1.out, HBW.out⟩
      case round =>
        obtain ⟨cur, rfl, HC, hown, hbw⟩ := hrel
        have HO := Lib.hid hown
        have HB2 := Lib.hid hbw
        clear hown hbw HO1 HBW HA
        have hcl : cur.length = k := by have := HC.out.2.1; rw [HL.out] at this; exact this
        have HCL := Lib.hid hcl
        have htb := HC.out.2.2.2
        obtain ⟨t, hte⟩ : ∃ t, t = Ph.total cur := ⟨_, rfl⟩
        by_cases ht : Ph.total cur = 256
        · have hfin : Hid (cur = Ph.scaled l) := Lib.hid (by rw [← HC.out.1, Ph.finish_done ht])
          rw [ht]
          clear hcl hte ht
          go_wp2_with fail
          go_ret
          have hlen : (Ph.scaled l).length = k := by rw [← hfin.out]; exact HCL.out
          refine ⟨some ⟨w.heap.size, 0, none⟩, k, by rw [hlen]; rfl, ?_, HB2.out⟩
          rw [hlen, ← hfin.out]
          exact HO.out
        · have hst := adj_step H0.out HC.out ht
          have hne : cur ≠ [] := fun e => by rw [e] at hcl; simp at hcl; omega
          have hib := idx_best hne
          have hRd := (RdI.own HO.out).2 hn0
          obtain ⟨b3, o3, hA3, _, hc3⟩ := hRd
          obtain ⟨rfl, rfl⟩ : w.heap.size = b3 ∧ 0 = o3 := by simpa using hA3
          have hcc : ∀ j, j < cur.length → wr.cell? ⟨w.heap.size, 0 + j, none⟩ = some (.int .i64 (cur.getD j 0)) := fun j hj => by
            rw [hc3 j (by omega), ivals_get hj]
          have HMX := Lib.hid (Try.slices_Max_int w.heap.size 0 k k cur wr hn0 (by omega) (by omega) hcc)
          have HIX := Lib.hid (Try.slices_Index_int w.heap.size 0 k k cur (cur.getD (Ph.bestL cur) 0) wr (by omega) (by omega) hcc)
          rw [List.take_of_length_le (by omega)] at HMX HIX
          rw [hib.1] at HMX
          rw [hib.2] at HIX
          obtain ⟨q, hq⟩ : ∃ q, q = Ph.bestL cur := ⟨_, rfl⟩
          have hcq := hcc q (by rw [hq]; exact hst.2.2)
          rw [Nat.zero_add] at hcq
          have hbd := adj_bd HC.out q
          rw [← hq] at HMX HIX hst
          have hqk : q < k := by have := hst.2.2; omega
          obtain ⟨y, hy⟩ : ∃ y, y = cur.getD q 0 := ⟨_, rfl⟩
          rw [← hy] at HMX HIX hcq hbd
          have f4 : wr.frozen? ⟨w.heap.size, q, none⟩ = false := HO.out.frozenAt q
          have HST := Lib.hid hst
          have HY := Lib.hid hy
          have HQ := Lib.hid hq
          rw [← hte] at htb ht ⊢
          have hbt : (t == 256) = false := by simpa using ht
          have HTE := Lib.hid hte
          clear hst hne hib hA3 hc3 hcc hq hy hte hcl
          rcases Int.lt_or_le 256 t with hgt | hgt
          · have hd : Hid (Ph.dirn cur = -1) := Lib.hid (by unfold Ph.dirn; rw [if_pos (by rw [← HTE.out]; exact hgt)])
            go_wp2_with fail
            refine (HMX.out).mono ?_
            rintro e wk ⟨rfl, rfl⟩
            go_wp2_with fail
            refine (HIX.out).mono ?_
            rintro e wk ⟨rfl, rfl⟩
            go_wp2_with fail
            go_roundw
            case rel =>
              refine ⟨Ph.bump cur q (-1), ?_, ?_, ?_, HB2.out.setCell (Nat.le_refl _) _⟩
              · have := HST.out.2.1
                rw [hd.out] at this
                rw [this, HTE.out]; go_num
              · have := HST.out.1
                rw [hd.out] at this
                exact Lib.hid this
              · have := (HO.out.stored q (.int .i64 (y - 1))).1
                rw [ivals_set] at this
                unfold Ph.bump
                rw [← HY.out]
                exact this
            case measure => simp [intOf]; omega
          · have hlt2 : t < 256 := by omega
            have hd : Hid (Ph.dirn cur = 1) := Lib.hid (by unfold Ph.dirn; rw [if_neg (by rw [← HTE.out]; omega)])
            go_wp2_with fail
            refine (HMX.out).mono ?_
            rintro e wk ⟨rfl, rfl⟩
            go_wp2_with fail
            refine (HIX.out).mono ?_
            rintro e wk ⟨rfl, rfl⟩
            go_wp2_with fail
            go_roundw
            case rel =>
              refine ⟨Ph.bump cur q 1, ?_, ?_, ?_, HB2.out.setCell (Nat.le_refl _) _⟩
              · have := HST.out.2.1
                rw [hd.out] at this
                rw [this, HTE.out]
              · have := HST.out.1
                rw [hd.out] at this
                exact Lib.hid this
              · have := (HO.out.stored q (.int .i64 (y + 1))).1
                rw [ivals_set] at this
                unfold Ph.bump
                rw [← HY.out]
                exact this
            case measure => simp [intOf]; omega
theorem sof_no (A : Option Addr) (n c : Nat) (l : List Int) (w : World) (B : Nat) (h : RdI w B A n l) (hn : n ≤ 100000000000000) (h0 : scaleErr l ≠ 0) :
    Calls Try.prog 45 #[.slice A n c] w fun e w' => e = .returned (.tuple #[.slice none 0 0, errV (scaleErr l)]) ∧ w = w' := by
  have HC := Lib.hid fun W hW => scheck_any A n c l W B hW hn
  have he := errV_ne h0
  have H := Lib.hid h
  clear h h0
  go_enter Try.func45, Try.ntmps45
  go_wp2_with fail
  refine (HC.out _ H.out).mono ?_
  rintro e wk ⟨rfl, rfl⟩
  go_wp2_with fail
  go_ret2
  exact ⟨ret_two rfl he.symm, rfl⟩
theorem sof_ok (A : Option Addr) (n c : Nat) (l : List Int) (w : World) (B : Nat) (h : RdI w B A n l) (hB : B ≤ w.heap.size) (h0 : scaleErr l = 0) :
    Calls Try.prog 45 #[.slice A n c] w (FreshI 3 (Ph.scaled l) w) := by
  have hz := scaleErr_zero.1 h0
  have hl := h.len
  have HC := Lib.hid fun W hW => scheck_any A n c l W B hW (by omega)
  rw [h0, errV_of rfl] at HC
  have HS := Lib.hid fun W hW hBW => sshares_any A n c l W B hW hBW h0
  have H := Lib.hid h
  clear h h0 hz hl
  go_enter Try.func45, Try.ntmps45
  go_wp2_with fail
  refine (HC.out _ H.out).mono ?_
  rintro e wk ⟨rfl, rfl⟩
  go_wp2_with fail
  refine (HS.out _ H.out hB).mono ?_
  rintro e w2 ⟨A', c', rfl, ho, hb⟩
  have HO := Lib.hid ho
  have HBB := Lib.hid hb
  clear ho hb HS HC
  go_wp2_with fail
  go_ret2
  exact ⟨A', c', rfl, HO.out, HBB.out⟩
end Go.Proofs.Ytapjnfhbjmeniaa
/- Walks: where shares start, and whose a place is (chapter 10). -/
namespace Go.Proofs.Ytapjnfhbjmeniaa
open Go.RowKit

instance sharesDec (f : List Int) : Decidable (Ph.sharesOk f) := by unfold Ph.sharesOk; infer_instance
/-- What is wrong with shares. -/
def shErr (f : List Int) : Int := if Ph.sharesOk f then 0 else 3
theorem shErr_zero {f : List Int} : shErr f = 0 ↔ Ph.sharesOk f := by
  unfold shErr
  split
  · exact ⟨fun _ => by assumption, fun _ => rfl⟩
  · exact ⟨fun h => absurd h (by omega), fun h => absurd h (by assumption)⟩
theorem shErr_no {f : List Int} (h : ¬ Ph.sharesOk f) : shErr f = 3 := if_neg h
theorem shErr_two (f : List Int) : shErr f = 0 ∨ shErr f = 3 := by unfold shErr; split <;> simp
theorem shcheck_any (A : Option Addr) (n c : Nat) (f : List Int) (w : World) (B : Nat) (h : RdI w B A n f) (hn : n ≤ 100000000000000) :
    Calls Try.prog 48 #[.slice A n c] w fun e w' => e = .returned (errV (shErr f)) ∧ w = w' := by
  have hl := h.len
  by_cases hz : n = 0
  · have e : shErr f = 3 := shErr_no fun h => by have := h.1; omega
    rw [e, errV_ne (by omega)]
    subst hz
    clear hl e h
    go_enter Try.func48, Try.ntmps48
    go_wp2_with fail
    go_ret
    exact ⟨rfl, rfl⟩
  · have hnn : ((n : Int) == 0) = false := by simp; omega
    by_cases h8 : 40 < n
    · have e : shErr f = 3 := shErr_no fun h => by have := h.2.1; omega
      rw [e, errV_ne (by omega)]
      clear hl e h
      go_enter Try.func48, Try.ntmps48
      go_wp2_with fail
      go_ret
      exact ⟨rfl, rfl⟩
    · have H := Lib.hid h
      have HL := Lib.hid hl
      have hn40 : n ≤ 40 := by omega
      clear h hl hz h8
      go_enter Try.func48, Try.ntmps48
      go_wp2_with fail
      go_loop [3, 17] (fun t i => ∃ k : Nat, k ≤ n ∧ i = .int .i64 k ∧ t = .int .i64 (Ph.total (f.take k)) ∧ Hid (∀ x ∈ f.take k, 0 ≤ x ∧ x ≤ 256)) (fun _ i => n - (intOf i).toNat)
      case atStart => exact ⟨0, Nat.zero_le _, rfl, rfl, Lib.hid (by simp)⟩
      case round =>
        obtain ⟨k, hk, rfl, rfl, HA⟩ := hrel
        have ht0 := Ph.total_nonneg (l := f.take k) fun x hx => (HA.out x hx).1
        have ht1 := Ph.total_le (l := f.take k) (m := 256) fun x hx => (HA.out x hx).2
        have ht2 : Ph.total (f.take k) ≤ 10240 := by
          have : (f.take k).length ≤ 40 := by rw [List.length_take]; omega
          omega
        clear ht1
        by_cases hlt : k < n
        · obtain ⟨b, off, rfl, _, hc⟩ := H.out.at_ hlt
          have hkl : k < f.length := by rw [HL.out]; exact hlt
          have hx := Lib.hid (Ph.getD_mem (l := f) (i := k) hkl)
          have hs : Hid (Ph.total (f.take (k + 1)) = Ph.total (f.take k) + f.getD k 0 ∧ ∀ x ∈ f.take (k + 1), x ∈ f.take k ∨ x = f.getD k 0) := Lib.hid (by
            rw [Ph.take_snoc f k hkl, Ph.total_snoc]
            exact ⟨rfl, fun x hx => by simpa using hx⟩)
          obtain ⟨x, hxe⟩ : ∃ x, x = f.getD k 0 := ⟨_, rfl⟩
          rw [← hxe] at hc hx hs
          clear hxe hkl
          by_cases h0 : x < 0
          · have e : Hid (shErr f = 3) := Lib.hid (shErr_no fun h => by have := h.2.2.1 x hx.out; omega)
            go_wp2_with fail
            go_ret
            exact ⟨ret_val (by rw [e.out]; exact (errV_ne (by omega)).symm), rfl⟩
          · by_cases h1 : 256 < x
            · have e : Hid (shErr f = 3) := Lib.hid (shErr_no fun h => by have := h.2.2.1 x hx.out; omega)
              go_wp2_with fail
              go_ret
              exact ⟨ret_val (by rw [e.out]; exact (errV_ne (by omega)).symm), rfl⟩
            · go_wp2_with fail
              go_round
              case rel =>
                refine ⟨k + 1, by omega, by go_num, by rw [hs.out.1], Lib.hid fun y hy => ?_⟩
                rcases hs.out.2 y hy with h | h
                · exact HA.out y h
                · omega
              case measure => simp [intOf]; omega
        · have hall : Hid (f.take k = f) := Lib.hid (List.take_of_length_le (by rw [HL.out]; omega))
          rw [hall.out] at HA ht0 ht2 ⊢
          by_cases ht : Ph.total f = 256
          · have e : Hid (shErr f = 0) := Lib.hid (shErr_zero.2 ⟨by rw [HL.out]; simp at hnn; omega, by rw [HL.out]; exact hn40, HA.out, ht⟩)
            have hb : (Ph.total f != 256) = false := by rw [ht]; rfl
            clear ht
            go_wp2_with fail
            go_ret
            exact ⟨ret_val (by rw [e.out]; rfl), rfl⟩
          · have e : Hid (shErr f = 3) := Lib.hid (shErr_no fun h => ht h.2.2.2)
            have hb : (Ph.total f != 256) = true := by simpa using ht
            clear ht
            go_wp2_with fail
            go_ret
            exact ⟨ret_val (by rw [e.out]; exact (errV_ne (by omega)).symm), rfl⟩
/-- Where shares start. -/
def begins (f : List Int) : List Int := (List.range f.length).map (Ph.pre f)
theorem begins_length (f : List Int) : (begins f).length = f.length := by simp [begins]
theorem begins_getD (f : List Int) (i : Nat) (h : i < f.length) : (begins f).getD i 0 = Ph.pre f i := Ph.getD_map_range _ _ _ h
theorem pre_bd {f : List Int} (h : Ph.sharesOk f) (i : Nat) : 0 ≤ Ph.pre f i ∧ Ph.pre f i ≤ 256 := by
  have h1 := Ph.pre_nonneg (fun x hx => (h.2.2.1 x hx).1) i
  have h2 := Ph.total_take_le (l := f) (fun x hx => (h.2.2.1 x hx).1) i
  have := h.2.2.2
  unfold Ph.pre at *
  omega
theorem begins_any (A : Option Addr) (n c : Nat) (f : List Int) (w : World) (B : Nat) (h : RdI w B A n f) (hB : B ≤ w.heap.size) (h0 : Ph.sharesOk f) :
    Calls Try.prog 81 #[.slice A n c] w (OwnI 3 (begins f) w) := by
  have HL := Lib.hid h.len
  have H := Lib.hid h
  have H0 := Lib.hid h0
  have hn : n ≤ 40 := by have := h.len; have := h0.2.1; omega
  clear h h0
  go_enter Try.func81, Try.ntmps81
  go_wp2_with fail
  go_loopw [3, 4, 9] (fun v t i wr => ∃ (k : Nat) (A2 : Option Addr) (c2 : Nat), k ≤ n ∧ i = .int .i64 k ∧ t = .int .i64 (Ph.pre f k) ∧ v = .slice A2 k c2 ∧ wr.ownsRow w.heap.size 3 1 (.slice A2 k c2) k (ivals ((List.range k).map (Ph.pre f))) ∧ Below w.heap.size w wr) (fun _ _ i _ => n - (intOf i).toNat)
  case atStart => exact ⟨0, none, 0, Nat.zero_le _, rfl, rfl, rfl, own_nil _ _ _, Below.refl _ _⟩
  case round =>
    obtain ⟨k, A2, c2, hk, rfl, rfl, rfl, hown, hbw⟩ := hrel
    have HO := Lib.hid hown
    have HBW := Lib.hid hbw
    clear hown hbw
    by_cases hlt : k < n
    · obtain ⟨b, off, rfl, _, hc⟩ := (H.out.below (HBW.out.mono hB)).at_ hlt
      have hkl : k < f.length := by rw [HL.out]; exact hlt
      have hx := H0.out.2.2.1 _ (Ph.getD_mem (l := f) (i := k) hkl)
      have hp := pre_bd H0.out k
      have hs : Hid (Ph.pre f (k + 1) = Ph.pre f k + f.getD k 0) := Lib.hid (Ph.pre_succ f k hkl)
      obtain ⟨x, hxe⟩ : ∃ x, x = f.getD k 0 := ⟨_, rfl⟩
      rw [← hxe] at hc hx hs
      clear hxe hkl
      go_wp2_with (at_builtin; refine wpList_push _ (by rfl) _ _ (by rfl) w w.heap.size A2 k c2 _ (Ph.pre f k) HO.out HBW.out HBW.out.size (by omega) (by rfl) (by rfl) ?_; intro g cap w2 ho2 hb2)
      have HO2 := Lib.hid ho2
      have HB2 := Lib.hid hb2
      clear ho2 hb2
      go_wp2_with fail
      go_roundw
      case rel =>
        refine ⟨k + 1, some ⟨g, 0, none⟩, cap, by omega, by go_num, by rw [hs.out], rfl, ?_, HB2.out⟩
        rw [List.range_succ, List.map_append]
        exact HO2.out
      case measure => simp [intOf]; omega
    · obtain rfl : k = n := by omega
      go_wp2_with fail
      go_ret
      refine ⟨A2, c2, by rw [begins_length, HL.out]; rfl, ?_, HBW.out⟩
      rw [begins_length, HL.out]
      unfold begins
      rw [HL.out]
      exact HO.out
theorem sat_any (A : Option Addr) (n c : Nat) (f : List Int) (a : Int) (w : World) (B : Nat) (h : RdI w B A n f) (h0 : Ph.sharesOk f) (ha : 0 ≤ a ∧ a < 256) :
    Calls Try.prog 84 #[.slice A n c, .int .i64 a] w fun e w' => e = .returned (.int .i64 (Ph.atL f a : Nat)) ∧ w = w' := by
  have HL := Lib.hid h.len
  have H := Lib.hid h
  have H0 := Lib.hid h0
  have hn : n ≤ 40 := by have := h.len; have := h0.2.1; omega
  have hsp := Ph.atL_spec f a ha.1 (by have := h0.2.2.2; omega)
  have HSP := Lib.hid hsp
  have HU : Hid (∀ i : Nat, Ph.pre f i ≤ a → a < Ph.pre f (i + 1) → i = Ph.atL f a) := Lib.hid fun i h1 h2 => Ph.at_unique (fun x hx => (h0.2.2.1 x hx).1) h1 h2 hsp.2.1 hsp.2.2
  have HM : Hid (∀ i : Nat, Ph.pre f i ≤ a → i < n) := Lib.hid fun i hi => by
    rcases Nat.lt_or_ge i n with h1 | h1
    · exact h1
    · have h2 := Ph.pre_mono (f := f) (fun x hx => (h0.2.2.1 x hx).1) (i := f.length) (j := i) (by rw [h.len]; exact h1)
      rw [Ph.pre_all, h0.2.2.2] at h2
      omega
  clear h h0 hsp
  go_enter Try.func84, Try.ntmps84
  go_wp2_with fail
  go_loop [1, 5] (fun v i => ∃ k : Nat, i = .int .i64 k ∧ v = .int .i64 (a - Ph.pre f k) ∧ Hid (Ph.pre f k ≤ a)) (fun _ i => n - (intOf i).toNat)
  case atStart => exact ⟨0, rfl, by rw [Ph.pre_zero]; simp, Lib.hid (by rw [Ph.pre_zero]; exact ha.1)⟩
  case round =>
    obtain ⟨k, rfl, rfl, HP⟩ := hrel
    have hlt := HM.out k HP.out
    obtain ⟨b, off, rfl, _, hc⟩ := H.out.at_ hlt
    have hkl : k < f.length := by rw [HL.out]; exact hlt
    have hx := H0.out.2.2.1 _ (Ph.getD_mem (l := f) (i := k) hkl)
    have hp := pre_bd H0.out k
    have hp2 := HP.out
    have hs : Hid (Ph.pre f (k + 1) = Ph.pre f k + f.getD k 0) := Lib.hid (Ph.pre_succ f k hkl)
    obtain ⟨x, hxe⟩ : ∃ x, x = f.getD k 0 := ⟨_, rfl⟩
    rw [← hxe] at hc hx hs
    clear hxe hkl
    by_cases hge : x ≤ a - Ph.pre f k
    · have hlt2 : (k : Int) < (n : Int) := by omega
      go_wp2_with fail
      go_round
      case rel => exact ⟨k + 1, by go_num, by rw [hs.out]; go_num, Lib.hid (by rw [hs.out]; omega)⟩
      case measure => simp [intOf]; omega
    · have hk : Hid (k = Ph.atL f a) := Lib.hid (HU.out k HP.out (by rw [hs.out]; omega))
      go_wp2_with fail
      go_ret
      exact ⟨ret_int (by rw [← hk.out]), rfl⟩
/-- What is wrong with a place. -/
def findErr (f : List Int) (a : Int) : Int := if shErr f ≠ 0 then 3 else if a < 0 ∨ 255 < a then 1 else 0
theorem scaled_shares {l : List Int} (h0 : scaleErr l = 0) : Ph.sharesOk (Ph.scaled l) := by
  have hz := scaleErr_zero.1 h0
  have h1 := Ph.scaled_ok hz.2.1 (fun x hx => (hz.2.2.1 x hx).1) hz.2.2.2
  have hp : ∀ x ∈ Ph.scaled l, 0 ≤ x := by
    intro x hx
    obtain ⟨j, hj, rfl⟩ := List.mem_iff_getElem.1 hx
    have := (h1.1.2 j (by have := h1.1.1; omega)).1
    rwa [List.getD_eq_getElem?_getD, List.getElem?_eq_getElem hj] at this
  refine ⟨by have := h1.1.1; omega, by have := h1.1.1; omega, fun x hx => ⟨hp x hx, ?_⟩, h1.2⟩
  have := Ph.mem_le_total hp x hx
  omega
end Go.Proofs.Ytapjnfhbjmeniaa
