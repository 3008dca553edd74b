/- Walks of a session (chapter 20): a word as a number (run.plain, run.number). -/
import Derived.Test.YtjdpgakkphdjlaaGreatDoorRunPlain
import Derived.Test.YtjdpgakkphdjlaaGreatDoorBuildR
import Derived.Test.YtjdpgakkphdjlaaGreatDoorBytes
import Derived.Test.YtjdpgakkphdjlaaGreatDoorLaid
import Derived.Lib.AtoiErrMem
import Derived.Deep.Cut
namespace Go.Proofs.YtjdpgakkphdjlaaGreatDoor
open Go.RowKit

/-- What a session's world has at its start. -/
structure RunG (w : World) : Prop where
  tab : Lib.TabIs Tryz.prog w "internal/strconv.uint64pow10" .u64 Lib.pow10Tab
  es : ∃ ev, w.cell? ⟨6, 0, none⟩ = some ev ∧ (ev = .nilIface ∨ ∃ te pe, ev = .iface te pe)
  er : ∃ ev, w.cell? ⟨7, 0, none⟩ = some ev ∧ (ev = .nilIface ∨ ∃ te pe, ev = .iface te pe)
  hd : Laid w
  ur : w.cell? ⟨0, 0, none⟩ = some (.iface 69 (.int .i64 2))
theorem cell_lt {w : World} {p : Addr} {v : Value} (h : w.cell? p = some v) : p.block < w.heap.size := by
  rcases Nat.lt_or_ge p.block w.heap.size with h1 | h1
  · exact h1
  · unfold World.cell? at h; rw [Array.getElem?_eq_none h1] at h; cases h
theorem pow_global : Tryz.prog.globalNamed "internal/strconv.uint64pow10" = some 5 := by kernel_rfl
theorem RunG.below {w w' : World} (h : RunG w) (hb : Below w.heap.size w w') : RunG w' := by
  obtain ⟨e1, h1, h2⟩ := h.es
  obtain ⟨e2, h3, h4⟩ := h.er
  exact ⟨tab_below pow_global h.tab hb, ⟨e1, (hb.cell (cell_lt h1)).trans h1, h2⟩, ⟨e2, (hb.cell (cell_lt h3)).trans h3, h4⟩, h.hd.below hb, (hb.cell (cell_lt h.ur)).trans h.ur⟩
/-- Behind the last of these variables. -/
def gB : Nat := max (max 6 7) (max (max 1 0) 5) + 1
theorem RunG.size {w : World} (h : RunG w) : gB ≤ w.heap.size := by
  obtain ⟨e1, h1, h2⟩ := h.es
  obtain ⟨e2, h3, h4⟩ := h.er
  have a1 := cell_lt h1
  have a2 := cell_lt h3
  have a3 := h.hd.pos
  have a4 := cell_lt h.ur
  have a5 : 5 < w.heap.size := by
    have ht := h.tab
    unfold Lib.TabIs World.var? at ht
    rw [pow_global] at ht
    simp only [Option.bind_some] at ht
    rcases Nat.lt_or_ge 5 w.heap.size with h' | h'
    · exact h'
    · rw [Array.getElem?_eq_none h'] at ht; cases ht
  unfold gB
  simp only at a1 a2 a4
  omega
theorem RunG.kept {w w' : World} (h : RunG w) (hk : ∀ k, k < gB → w'.heap[k]? = w.heap[k]?) : RunG w' := by
  obtain ⟨e1, h1, h2⟩ := h.es
  obtain ⟨e2, h3, h4⟩ := h.er
  have ht : Lib.TabIs Tryz.prog w' "internal/strconv.uint64pow10" .u64 Lib.pow10Tab := by
    have ht := h.tab
    unfold Lib.TabIs World.var? at ht ⊢
    rw [pow_global] at ht ⊢
    simp only [Option.bind_some] at ht ⊢
    rw [hk _ (by decide)]
    exact ht
  exact ⟨ht, ⟨e1, (World.cell?_of_block (hk _ (by decide))).trans h1, h2⟩, ⟨e2, (World.cell?_of_block (hk _ (by decide))).trans h3, h4⟩, (World.cell?_of_block (hk _ (by decide))).trans h.hd, (World.cell?_of_block (hk _ (by decide))).trans h.ur⟩
theorem RunG.keptB {S : Nat → Prop} {w w' : World} (h : RunG w) (hk : KeptBut S w w') (hS : ∀ k, S k → gB ≤ k) : RunG w' :=
  h.kept fun k hlt => hk.block k (Nat.lt_of_lt_of_le hlt h.size) fun hs => by have := hS k hs; omega
theorem itoa_below (n : Int) (h0 : -9223372036854775808 ≤ n) (h1 : n ≤ 9223372036854775807) (w : World) (hg : RunG w) :
    Calls Tryz.prog 63 #[.int .i64 n] w fun e w' => e = .returned (.string (strL (Lib.itoa n))) ∧ Below w.heap.size w w' := by
  refine (Tryz.strconv_Itoa n h0 h1 w hg.tab).mono ?_
  rintro e w' ⟨rfl, k, os, rfl⟩
  exact ⟨rfl, Lib.below_grow _ _ (Nat.le_refl _) _ _⟩
theorem strL_data (s : ByteArray) : strL s.data.toList = s := by unfold strL; rfl
theorem atoi_ok (s : ByteArray) (v : Int) (w : World) (hs : s.size ≤ 100000) (h : Lib.atoiAll s.data.toList = .ok v) :
    Calls Tryz.prog 100 #[.string s] w fun e w' => e = .returned (.tuple #[.int .i64 v, .nilIface]) ∧ Below w.heap.size w w' := by
  refine (Tryz.strconv_Atoi_ok s (by omega) v h w).mono ?_
  rintro e w' ⟨rfl, rfl | ⟨t, rfl⟩⟩
  · exact ⟨rfl, Below.refl _ _⟩
  · exact ⟨rfl, Lib.bytesWorld_below _ _ _⟩
theorem atoi_no (s : ByteArray) (w : World) (hg : RunG w) (hs : s.size ≤ 100000) (h : ∀ v, Lib.atoiAll s.data.toList ≠ .ok v) :
    Calls Tryz.prog 100 #[.string s] w fun e w' => ∃ n t q, e = .returned (.tuple #[.int .i64 n, .iface t q]) ∧ Below w.heap.size w w' := by
  cases ha : Lib.atoiAll s.data.toList with
  | ok v => exact absurd ha (h v)
  | «syntax» =>
    obtain ⟨e1, h1, h2⟩ := hg.es
    refine (Tryz.strconv_Atoi_syntax s (by omega) ha e1 w h1 h2).mono ?_
    rintro e w' ⟨N, rfl, _, _, hb⟩
    exact ⟨_, _, _, rfl, hb⟩
  | range =>
    obtain ⟨e1, h1, h2⟩ := hg.er
    refine (Tryz.strconv_Atoi_range s (by omega) ha e1 w h1 h2).mono ?_
    rintro e w' ⟨N, rfl, _, _, hb⟩
    exact ⟨_, _, _, rfl, hb⟩
/-- A number is told, and whether it is one. -/
def NumP (ok : Bool) (P : Int → Prop) (w : World) (e : Ending) (w' : World) : Prop := ∃ n : Int, e = .returned (.tuple #[.int .i64 n, .bool ok]) ∧ (ok = true → P n) ∧ Below w.heap.size w w'
set_option maxHeartbeats 2000000 in
set_option maxRecDepth 100000 in
/-- The plain number of a word. -/
theorem plain_any (s : ByteArray) (w : World) (hg : RunG w) (hs : s.size ≤ 100000) :
    Calls Tryz.prog 83 #[.string s] w (NumP (Pr.numOk s.data.toList) (fun n => n = (Pr.valL s.data.toList : Int)) w) := by
  have hlen : s.data.toList.length = s.size := (Lib.size_eq s).symm
  by_cases ho : ∃ v, Lib.atoiAll s.data.toList = .ok v
  · obtain ⟨v, hv⟩ := ho
    have hvb := Lib.atoiAll_bounds hv
    have HA := Lib.hid (atoi_ok s v w hs hv)
    have HI := Lib.hid fun W hW => itoa_below v hvb.1 (by omega) W hW
    by_cases h0 : 0 ≤ v
    · by_cases h4 : s.size ≤ 4
      · by_cases he : strL (Lib.itoa v) = s
        · have hq := Pr.num_atoi s.data.toList v hv h0 (by omega) (by rw [← he]; unfold strL; simp)
          have HQ := Lib.hid hq
          have HG := Lib.hid hg
          have hse := str_eq he
          have h4' : (s.size : Int) ≤ 4 := by omega
          rw [HQ.out.1]
          clear hv hvb hg hlen he hq
          go_enter Tryz.func83, Tryz.ntmps83
          go_wp2_with fail
          refine HA.out.mono ?_
          rintro e w1 ⟨rfl, hb1⟩
          have HB1 := Lib.hid hb1
          clear hb1
          go_wp2_with fail
          refine (HI.out w1 (HG.out.below HB1.out)).mono ?_
          rintro e w2 ⟨rfl, hb2⟩
          have HB2 := Lib.hid (below_on HB1.out hb2)
          clear hb2
          go_wp2_with fail
          go_ret2
          exact ⟨v, rfl, fun _ => HQ.out.2, HB2.out⟩
        · have hq : Pr.numOk s.data.toList = false := by
            cases hn : Pr.numOk s.data.toList with
            | false => rfl
            | true =>
              have := Pr.atoi_num _ hn
              rw [hv] at this
              have h2 : v = (Pr.valL s.data.toList : Int) := by injection this.1
              exact absurd (by rw [h2, this.2.1, strL_data]) he
          have HG := Lib.hid hg
          have hse := str_ne he
          have h4' : (s.size : Int) ≤ 4 := by omega
          rw [hq]
          clear hv hvb hg hlen he hq
          go_enter Tryz.func83, Tryz.ntmps83
          go_wp2_with fail
          refine HA.out.mono ?_
          rintro e w1 ⟨rfl, hb1⟩
          have HB1 := Lib.hid hb1
          clear hb1
          go_wp2_with fail
          refine (HI.out w1 (HG.out.below HB1.out)).mono ?_
          rintro e w2 ⟨rfl, hb2⟩
          have HB2 := Lib.hid (below_on HB1.out hb2)
          clear hb2
          go_wp2_with fail
          go_ret2
          exact ⟨v, rfl, fun h => (by cases h), HB2.out⟩
      · have hq : Pr.numOk s.data.toList = false := by
          cases hn : Pr.numOk s.data.toList with
          | false => rfl
          | true => have := (Pr.atoi_num _ hn).2.2; omega
        have h4' : ¬ (s.size : Int) ≤ 4 := by omega
        rw [hq]
        clear hv hvb hlen HI hq
        go_enter Tryz.func83, Tryz.ntmps83
        go_wp2_with fail
        refine HA.out.mono ?_
        rintro e w1 ⟨rfl, hb1⟩
        have HB1 := Lib.hid hb1
        clear hb1
        go_wp2_with fail
        go_ret2
        exact ⟨v, rfl, fun h => (by cases h), HB1.out⟩
    · have hq : Pr.numOk s.data.toList = false := by
        cases hn : Pr.numOk s.data.toList with
        | false => rfl
        | true =>
          have := (Pr.atoi_num _ hn).1
          rw [hv] at this
          have h2 : v = (Pr.valL s.data.toList : Int) := by injection this
          omega
      rw [hq]
      clear hv hvb hlen HI hq
      go_enter Tryz.func83, Tryz.ntmps83
      go_wp2_with fail
      refine HA.out.mono ?_
      rintro e w1 ⟨rfl, hb1⟩
      have HB1 := Lib.hid hb1
      clear hb1
      go_wp2_with fail
      go_ret2
      exact ⟨v, rfl, fun h => (by cases h), HB1.out⟩
  · have hq : Pr.numOk s.data.toList = false := by
      cases hn : Pr.numOk s.data.toList with
      | false => rfl
      | true => exact absurd ⟨_, (Pr.atoi_num _ hn).1⟩ ho
    have HA := Lib.hid (atoi_no s w hg hs fun v h => ho ⟨v, h⟩)
    rw [hq]
    clear hq ho hlen
    go_enter Tryz.func83, Tryz.ntmps83
    go_wp2_with fail
    refine HA.out.mono ?_
    rintro e w1 ⟨n, t, q, rfl, hb1⟩
    have HB1 := Lib.hid hb1
    clear hb1
    go_wp2_with fail
    go_ret2
    exact ⟨n, rfl, fun h => (by cases h), HB1.out⟩
theorem cutp_dash (c : UInt8) (r : List UInt8) : Lib.hasPrefix (c :: r) [45] = decide (c = 45) ∧ Lib.trimPrefix (c :: r) [45] = if c = 45 then r else c :: r := by
  unfold Lib.trimPrefix Lib.hasPrefix
  by_cases h : c = 45
  · subst h; simp
  · have : ((45 : UInt8) == c) = false := by rw [beq_eq_false_iff_ne]; exact fun e => h e.symm
    simp only [List.isPrefixOf, this, Bool.false_and, h, decide_false, if_false]
    exact ⟨trivial, by simp⟩
set_option maxHeartbeats 2000000 in
set_option maxRecDepth 100000 in
/-- The number of a word, perhaps below 0. -/
theorem number_any (s : ByteArray) (b : Bool) (w : World) (hg : RunG w) (hs : s.size ≤ 100000) :
    Calls Tryz.prog 59 #[.string s, .bool b] w (NumP (Pr.wordL b s.data.toList).isSome (fun n => Pr.wordL b s.data.toList = some n) w) := by
  have hC := Tryz.strings_CutPrefix s ⟨#[45]⟩ w
  have hlen : s.data.toList.length = s.size := (Lib.size_eq s).symm
  cases hl : s.data.toList with
  | nil =>
    rw [hl] at hC
    have HP := Lib.hid (plain_any s w hg hs)
    rw [hl] at HP
    have HC : Hid (Calls Tryz.prog 82 #[.string s, .string ⟨#[45]⟩] w fun e w' => e = .returned (.tuple #[.string ⟨#[]⟩, .bool false]) ∧ w' = w) := Lib.hid hC
    have hn : Pr.numOk [] = false := rfl
    have hw : Pr.wordL b [] = none := rfl
    rw [hn] at HP
    rw [hw]
    clear hC hlen hl hn hw
    go_enter Tryz.func59, Tryz.ntmps59
    go_wp2_with fail
    refine HC.out.mono ?_
    rintro e w1 ⟨rfl, rfl⟩
    go_wp2_with fail
    refine HP.out.mono ?_
    rintro e w2 ⟨n, rfl, _, hb⟩
    have HB := Lib.hid hb
    clear hb
    go_wp2_with fail
    go_ret2
    exact ⟨n, rfl, fun h => (by cases h), HB.out⟩
  | cons c r =>
    rw [hl] at hC hlen
    rw [show (⟨#[45]⟩ : ByteArray).data.toList = [45] from rfl, (cutp_dash c r).1, (cutp_dash c r).2] at hC
    by_cases hc : c = 45
    · rw [if_pos hc] at hC
      have hd : decide (c = 45) = true := by simp [hc]
      rw [hd] at hC
      cases b with
      | true =>
        have hrs : (strL r).size ≤ 100000 := by rw [strL_size]; simp at hlen; omega
        have hP := plain_any (strL r) w hg hrs
        have hrd : (strL r).data.toList = r := by unfold strL; simp
        rw [hrd] at hP
        have HC : Hid (Calls Tryz.prog 82 #[.string s, .string ⟨#[45]⟩] w fun e w' => e = .returned (.tuple #[.string (strL r), .bool true]) ∧ w' = w) := Lib.hid hC
        by_cases hn : Pr.numOk r = true
        · rw [hn] at hP
          have HP := Lib.hid hP
          by_cases h0 : Pr.valL r = 0
          · have hw : Pr.wordL true (c :: r) = none := by unfold Pr.wordL; simp only; rw [if_pos ⟨hc, trivial⟩, if_neg (by rw [h0]; simp)]
            rw [hw]
            have hz : ((Pr.valL r : Nat) : Int) = 0 := by omega
            have HZ := Lib.hid hz
            clear hC hP hlen hl hn hw h0 hc hd hrd hrs hz
            go_enter Tryz.func59, Tryz.ntmps59
            go_wp2_with fail
            refine HC.out.mono ?_
            rintro e w1 ⟨rfl, rfl⟩
            go_wp2_with fail
            refine HP.out.mono ?_
            rintro e w2 ⟨n, rfl, hnn, hb⟩
            have hn0 := hnn rfl
            rw [HZ.out] at hn0
            subst hn0
            have HB := Lib.hid hb
            clear hb hnn
            go_wp2_with fail
            go_ret2
            exact ⟨_, rfl, fun h => (by cases h), HB.out⟩
          · have hw : Pr.wordL true (c :: r) = some (-(Pr.valL r : Int)) := by unfold Pr.wordL; simp only; rw [if_pos ⟨hc, trivial⟩, if_pos ⟨hn, h0⟩]
            rw [hw]
            have hvb := (Pr.numOk_val hn).1
            obtain ⟨V, hV⟩ : ∃ V, V = Pr.valL r := ⟨_, rfl⟩
            rw [← hV] at h0 hvb HP ⊢
            have hz : (0 : Int) < (V : Int) := by omega
            have hz2 : 0 < V := by omega
            have hz3 : decide (0 < V) = true := by simp [hz2]
            have hwn : IntKind.i64.wrap (-(V : Int)) = -(V : Int) := IntWalk.i64_in _ (by omega)
            clear hC hP hlen hl hn hw h0 hc hd hrd hrs hV
            go_enter Tryz.func59, Tryz.ntmps59
            go_wp2_with fail
            refine HC.out.mono ?_
            rintro e w1 ⟨rfl, rfl⟩
            go_wp2_with fail
            refine HP.out.mono ?_
            rintro e w2 ⟨n, rfl, hnn, hb⟩
            have hn0 := hnn rfl
            subst hn0
            have HB := Lib.hid hb
            clear hb hnn
            go_wp2_with fail
            go_ret2
            exact ⟨_, rfl, fun _ => rfl, HB.out⟩
        · have hn' : Pr.numOk r = false := by simpa using hn
          rw [hn'] at hP
          have HP := Lib.hid hP
          have hw : Pr.wordL true (c :: r) = none := by unfold Pr.wordL; simp only; rw [if_pos ⟨hc, trivial⟩, if_neg (fun h => hn h.1)]
          rw [hw]
          clear hC hP hlen hl hn hn' hw hc hd hrd hrs
          go_enter Tryz.func59, Tryz.ntmps59
          go_wp2_with fail
          refine HC.out.mono ?_
          rintro e w1 ⟨rfl, rfl⟩
          go_wp2_with fail
          refine HP.out.mono ?_
          rintro e w2 ⟨n, rfl, hnn, hb⟩
          have HB := Lib.hid hb
          clear hb hnn
          go_wp2_with fail
          go_ret2
          exact ⟨_, rfl, fun h => (by cases h), HB.out⟩
      | false =>
        have hP := plain_any s w hg hs
        rw [hl] at hP
        have HC : Hid (Calls Tryz.prog 82 #[.string s, .string ⟨#[45]⟩] w fun e w' => e = .returned (.tuple #[.string (strL r), .bool true]) ∧ w' = w) := Lib.hid hC
        have hw : Pr.wordL false (c :: r) = if Pr.numOk (c :: r) = true then some (Pr.valL (c :: r) : Int) else none := by unfold Pr.wordL; simp
        have hsm : (Pr.wordL false (c :: r)).isSome = Pr.numOk (c :: r) := by rw [hw]; cases Pr.numOk (c :: r) <;> rfl
        have HW : Hid (Pr.numOk (c :: r) = true → Pr.wordL false (c :: r) = some (Pr.valL (c :: r) : Int)) := Lib.hid fun h => by rw [hw, if_pos h]
        rw [hsm]
        have HP := Lib.hid hP
        clear hC hP hlen hl hw hsm hc hd
        go_enter Tryz.func59, Tryz.ntmps59
        go_wp2_with fail
        refine HC.out.mono ?_
        rintro e w1 ⟨rfl, rfl⟩
        go_wp2_with fail
        refine HP.out.mono ?_
        rintro e w2 ⟨n, rfl, hnn, hb⟩
        have HB := Lib.hid hb
        have HNN := Lib.hid hnn
        clear hb hnn
        go_wp2_with fail
        go_ret2
        exact ⟨_, rfl, fun h => by rw [HW.out h, HNN.out h], HB.out⟩
    · rw [if_neg hc] at hC
      have hd : decide (c = 45) = false := by simp [hc]
      rw [hd] at hC
      have hP := plain_any s w hg hs
      rw [hl] at hP
      have HC : Hid (Calls Tryz.prog 82 #[.string s, .string ⟨#[45]⟩] w fun e w' => e = .returned (.tuple #[.string (strL (c :: r)), .bool false]) ∧ w' = w) := Lib.hid hC
      have hw : Pr.wordL b (c :: r) = if Pr.numOk (c :: r) = true then some (Pr.valL (c :: r) : Int) else none := by unfold Pr.wordL; simp [hc]
      have hsm : (Pr.wordL b (c :: r)).isSome = Pr.numOk (c :: r) := by rw [hw]; cases Pr.numOk (c :: r) <;> rfl
      have HW : Hid (Pr.numOk (c :: r) = true → Pr.wordL b (c :: r) = some (Pr.valL (c :: r) : Int)) := Lib.hid fun h => by rw [hw, if_pos h]
      rw [hsm]
      have HP := Lib.hid hP
      clear hC hP hlen hl hw hsm hc hd
      go_enter Tryz.func59, Tryz.ntmps59
      go_wp2_with fail
      refine HC.out.mono ?_
      rintro e w1 ⟨rfl, rfl⟩
      go_wp2_with fail
      refine HP.out.mono ?_
      rintro e w2 ⟨n, rfl, hnn, hb⟩
      have HB := Lib.hid hb
      have HNN := Lib.hid hnn
      clear hb hnn
      go_wp2_with fail
      go_ret2
      exact ⟨_, rfl, fun h => by rw [HW.out h, HNN.out h], HB.out⟩
end Go.Proofs.YtjdpgakkphdjlaaGreatDoor
