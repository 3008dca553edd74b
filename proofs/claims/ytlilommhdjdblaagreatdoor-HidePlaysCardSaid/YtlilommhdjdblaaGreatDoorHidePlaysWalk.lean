/- The walk of the law HidePlays. -/
import Derived.Test.YtlilommhdjdblaaGreatDoorTold
import Derived.Test.YtlilommhdjdblaaGreatDoorRefHide
import Derived.Test.YtlilommhdjdblaaGreatDoorOpenS
import Derived.Deep.QuietTactic
import Derived.Deep.DeepCutAuto
import Derived.Deep.CutBlock
import Derived.Deep.Cut
namespace Go.Proofs.YtlilommhdjdblaaGreatDoor
open Go.RowKit

theorem bandErr_bd (s : List Int) : -100 ≤ Ph.bandErr s ∧ Ph.bandErr s ≤ 100 := by
  unfold Ph.bandErr
  split <;> (try split) <;> (try split) <;> (try split) <;> omega
theorem newErr_bd (s : List Int) (bits : Int) : -100 ≤ newErr s bits ∧ newErr s bits ≤ 100 := by
  have h1 := bandErr_bd s
  unfold newErr
  split
  · omega
  · split
    · omega
    · split <;> omega
theorem pulsesErr_bd (v : List Int) : -100 ≤ Ph.pulsesErr v ∧ Ph.pulsesErr v ≤ 100 := by unfold Ph.pulsesErr; split <;> (try split) <;> (try split) <;> omega
theorem decPart_bd : ∀ ps : List Ph.Part, -100 ≤ Ph.decPart ps ∧ Ph.decPart ps ≤ 100
  | [] => by simp [Ph.decPart]
  | p :: ps => by
    have h1 := decPart_bd ps
    have h2 := pulsesErr_bd p.pulses
    unfold Ph.decPart
    split
    · omega
    · split <;> omega
theorem lapErr_bd (l : List Int) (m : Int) : -100 ≤ Ph.lapErr l m ∧ Ph.lapErr l m ≤ 100 := by
  unfold Ph.lapErr
  split <;> (try split) <;> (try split) <;> omega
theorem decErr_bd (ps : List Ph.Part) : -100 ≤ Ph.decErr ps ∧ Ph.decErr ps ≤ 100 := by
  have h1 := decPart_bd ps
  have h2 := lapErr_bd (Ph.decAll ps) 4000
  unfold Ph.decErr
  split
  · omega
  · split
    · omega
    · split <;> omega
theorem unpE_bd (b : List Nat) (s : List Int) (bits : Int) : -100 ≤ unpE b s bits ∧ unpE b s bits ≤ 100 := by
  have h1 := bandErr_bd s
  unfold unpE
  split
  · omega
  · split
    · omega
    · split
      · omega
      · split <;> omega
theorem playE_bd (b : List Nat) (s : List Int) (bits : Int) : -100 ≤ playE b s bits ∧ playE b s bits ≤ 100 := by
  have h1 := unpE_bd b s bits
  have h2 := decErr_bd (unpL b s bits)
  unfold playE
  split <;> omega
theorem playL_few (b : List Nat) (s : List Int) (bits : Int) : (playL b s bits).length ≤ 100000000000000 := by
  unfold playL
  by_cases h0 : playE b s bits = 0
  · rw [h0, got_zero, Ph.lapI_length]
    have h1 : Ph.decErr (unpL b s bits) = 0 := by
      unfold playE at h0
      split at h0
      · omega
      · exact h0
    have h2 : Ph.lapErr (Ph.decAll (unpL b s bits)) 4000 = 0 := by
      unfold Ph.decErr at h1
      split at h1
      · omega
      · split at h1
        · omega
        · split at h1
          · omega
          · exact h1
    have := (Ph.lapErr_zero.1 h2).1
    omega
  · rw [got_ne h0]; simp
/-- Parts that may be. -/
def goodP (ps : List Ph.Part) : Prop := (∀ p ∈ ps, Ph.gainOk p.gain = true ∧ p.pulses.length ≤ 6) ∧ ps.length ≤ 8
theorem goodP_soften {ps : List Ph.Part} (h : goodP ps) : goodP (ps.map Ph.soften) := by
  refine ⟨fun p hp => ?_, by rw [List.length_map]; exact h.2⟩
  obtain ⟨x, hx, rfl⟩ := List.mem_map.1 hp
  have h6 := (h.1 x hx).2
  unfold Ph.soften
  refine ⟨(Ph.down_ok x.gain).1, ?_⟩
  simp only
  split
  · simp; omega
  · exact h6
theorem goodP_play {b : List Nat} {s : List Int} {bits : Int} (hlt : ∀ x ∈ b, x < 256) (h : playE b s bits = 0) : goodP (unpL b s bits) := by
  have h1 : unpE b s bits = 0 := by
    unfold playE at h
    split at h
    · omega
    · omega
  have := unpL_small hlt h1
  exact ⟨this.2.2, this.2.1⟩
/-- The two players, at their blocks, and that they share no row of parts. -/
def Duo (w : World) (X Y : Nat) (As : Option Addr) (ns cs : Nat) (s : List Int) (bits many : Int) (A0 : Option Addr) (n0 c0 : Nat) (A : Option Addr) (n c : Nat) (ps : List Ph.Part) (lost : Int) (Am : Option Addr) (nm cm : Nat) (qs : List Ph.Part) (lost2 : Int) (wx : World) : Prop :=
  PlayerAt wx w.heap.size X As ns cs s bits many A n c ps lost ∧ RPlayerAt wx w.heap.size Y A0 n0 c0 bits Am nm cm qs lost2 ∧ Sep A n c Am nm cm ∧ Below w.heap.size w wx
/-- Rows of numbers go on. -/
def RowsOn (wx w' : World) : Prop := ∀ b v n l, wx.ownsRow b 3 1 v n (ivals l) → w'.ownsRow b 3 1 v n (ivals l)
section
variable {w wx : World} {X Y : Nat} {As : Option Addr} {ns cs : Nat} {s : List Int} {bits many : Int} {A0 : Option Addr} {n0 c0 : Nat} {A : Option Addr} {n c : Nat} {ps : List Ph.Part} {lost : Int} {Am : Option Addr} {nm cm : Nat} {qs : List Ph.Part} {lost2 : Int}
theorem duo_below {w' : World} (h : Duo w X Y As ns cs s bits many A0 n0 c0 A n c ps lost Am nm cm qs lost2 wx) (hb : Below wx.heap.size wx w') : Duo w X Y As ns cs s bits many A0 n0 c0 A n c ps lost Am nm cm qs lost2 w' :=
  ⟨h.1.below' hb, h.2.1.below' hb, h.2.2.1, below_on h.2.2.2 hb⟩
theorem duo_lose (h : Duo w X Y As ns cs s bits many A0 n0 c0 A n c ps lost Am nm cm qs lost2 wx) (hg : goodP ps) (hl : 0 ≤ lost ∧ lost ≤ 1000000) (hm : 0 ≤ many ∧ many ≤ 32) :
    Calls Tryz.prog 11 #[.pointer (some ⟨X, 0, none⟩)] wx fun e w' => ∃ A' n' c', e = .returned (.slice A' n' c') ∧ n' ≤ 100000 ∧ w'.ownsRow wx.heap.size 3 1 (.slice A' n' c') n' (ivals (Ph.heardOf (ps.map Ph.soften) many.toNat)) ∧ Duo w X Y As ns cs s bits many A0 n0 c0 A n c (ps.map Ph.soften) (lost + 1) Am nm cm qs lost2 w' := by
  obtain ⟨h1, h2, h3, h4⟩ := h
  have hn : n ≤ 8 := by have := h1.2.2.2.len; have := hg.2; omega
  refine (lose_own wx w.heap.size X As ns cs s bits many A n c ps lost h1 h4.size hg.1 hn hl hm).mono ?_
  rintro e w' ⟨A', n', c', rfl, hn', ho, hp, hk⟩
  exact ⟨A', n', c', rfl, hn', ho, hp, h2.apart h1 h3 hk, h3, h4.trans (hk.belowP h1 (Nat.le_refl _) h4.size)⟩
theorem rows_onR (h2 : RPlayerAt wx w.heap.size Y A0 n0 c0 bits Am nm cm qs lost2) {w' : World} (hk : KeptBut (fun k => k = Y) wx w') : RowsOn wx w' := fun b v n l hr => hk.row hr (by
  rintro k h rfl
  exact row_type hr h2.2.1 (by decide) h)
theorem rows_on (h1 : PlayerAt wx w.heap.size X As ns cs s bits many A n c ps lost) {w' : World} (hk : KeptBut (fun k => k = X) wx w') : RowsOn wx w' := fun b v n l hr => hk.row hr (by
  rintro k h rfl
  exact row_type hr h1.2.1 (by decide) h)
theorem duo_rlose (h : Duo w X Y As ns cs s bits many A0 n0 c0 A n c ps lost Am nm cm qs lost2 wx) (hS : RdI w w.heap.size A0 n0 s) (h0 : Ph.bandErr s = 0) (hg : goodP qs) (hl : 0 ≤ lost2 ∧ lost2 ≤ 1000000) :
    Calls Tryz.prog 12 #[.pointer (some ⟨Y, 0, none⟩)] wx fun e w' => ∃ A' n' c', e = .returned (.slice A' n' c') ∧ RdI w' w'.heap.size A' n' (Ph.heardOf (qs.map Ph.soften) (Ph.total s).toNat) ∧ RowsOn wx w' ∧ wx.heap.size ≤ w'.heap.size ∧ ∃ Am' nm' cm', Duo w X Y As ns cs s bits many A0 n0 c0 A n c ps lost Am' nm' cm' (qs.map Ph.soften) (lost2 + 1) w' := by
  obtain ⟨h1, h2, h3, h4⟩ := h
  have hn : nm ≤ 8 := by have := h2.2.2.len; have := hg.2; omega
  refine (rlose_any wx w.heap.size Y A0 n0 c0 s bits Am nm cm qs lost2 w.heap.size h2 h4.size (hS.below h4) (Nat.le_refl _) h0 hg.1 hn hl).mono ?_
  rintro e w' ⟨A', n', c', rfl, hr, ⟨A2, n2, c2, hp, hf⟩, hk⟩
  refine ⟨A', n', c', rfl, hr, rows_onR h2 hk, hk.size, A2, n2, c2, h1.apartR h2 hk, hp, fun q hq hq2 => ?_, h4.trans (h2.belowR hk (Nat.le_refl _) h4.size)⟩
  obtain ⟨vs, a1, _, _⟩ := h1.2.2.2
  have := (a1.lt q hq).2
  have := hf q hq2
  omega
theorem duo_rplay (b : ByteArray) (h : Duo w X Y As ns cs s bits many A0 n0 c0 A n c ps lost Am nm cm qs lost2 wx) (hS : RdI w w.heap.size A0 n0 s) (hs : b.size ≤ 140737488351232) (hns : n0 ≤ 100000000000000) :
    Calls Tryz.prog 13 #[.pointer (some ⟨Y, 0, none⟩), .string b] wx fun e w' => ∃ A' n' c', e = .returned (.tuple #[.slice A' n' c', .int .i64 (playE (bytesOf b) s bits)]) ∧ w'.ownsRow wx.heap.size 3 1 (.slice A' n' c') n' (ivals (playL (bytesOf b) s bits)) ∧
      ∃ Am' nm' cm' qs' lost2', Duo w X Y As ns cs s bits many A0 n0 c0 A n c ps lost Am' nm' cm' qs' lost2' w' ∧ (playE (bytesOf b) s bits = 0 → qs' = unpL (bytesOf b) s bits ∧ lost2' = 0) ∧ (playE (bytesOf b) s bits ≠ 0 → qs' = qs ∧ lost2' = lost2) := by
  obtain ⟨h1, h2, h3, h4⟩ := h
  refine (rplay_own wx w.heap.size Y A0 n0 c0 s bits Am nm cm qs lost2 b w.heap.size h2 h4.size (hS.below h4) (Nat.le_refl _) hs hns).mono ?_
  rintro e w' ⟨A', n', c', rfl, ho, hne, heq, hk⟩
  refine ⟨A', n', c', rfl, ho, ?_⟩
  have hb := h4.trans (h2.belowR hk (Nat.le_refl _) h4.size)
  by_cases hE : playE (bytesOf b) s bits = 0
  · obtain ⟨A2, n2, c2, hp, hf⟩ := heq hE
    refine ⟨A2, n2, c2, _, _, ⟨h1.apartR h2 hk, hp, fun q hq hq2 => ?_, hb⟩, fun _ => ⟨rfl, rfl⟩, fun h => absurd hE h⟩
    obtain ⟨vs, a1, _, _⟩ := h1.2.2.2
    have := (a1.lt q hq).2
    have := hf q hq2
    omega
  · exact ⟨Am, nm, cm, _, _, ⟨h1.apartR h2 hk, hne hE, h3, hb⟩, fun h => absurd h hE, fun _ => ⟨rfl, rfl⟩⟩
theorem duo_play (b : ByteArray) (h : Duo w X Y As ns cs s bits many A0 n0 c0 A n c ps lost Am nm cm qs lost2 wx) (hs : b.size ≤ 140737488351232) (hns : ns ≤ 100000000000000) :
    Calls Tryz.prog 14 #[.pointer (some ⟨X, 0, none⟩), .string b] wx fun e w' => ∃ A' c', e = .returned (.tuple #[.slice A' (playL (bytesOf b) s bits).length c', errV (playE (bytesOf b) s bits)]) ∧ w'.ownsRow wx.heap.size 3 1 (.slice A' (playL (bytesOf b) s bits).length c') (playL (bytesOf b) s bits).length (ivals (playL (bytesOf b) s bits)) ∧ RowsOn wx w' ∧
      ∃ A2 n2 c2 ps' lost', Duo w X Y As ns cs s bits many A0 n0 c0 A2 n2 c2 ps' lost' Am nm cm qs lost2 w' ∧ (playE (bytesOf b) s bits = 0 → ps' = unpL (bytesOf b) s bits ∧ lost' = 0) ∧ (playE (bytesOf b) s bits ≠ 0 → ps' = ps ∧ lost' = lost) := by
  obtain ⟨h1, h2, h3, h4⟩ := h
  refine (play_own wx w.heap.size X As ns cs s bits many A n c ps lost b h1 h4.size hs hns).mono ?_
  rintro e w' ⟨A', c', rfl, ho, hne, heq, hk⟩
  refine ⟨A', c', rfl, ho, rows_on h1 hk, ?_⟩
  have hk2 : KeptBut (ownBlocks X A n c) wx w' := hk.mono fun k _ h => .inl h
  have hb := h4.trans (hk2.belowP h1 (Nat.le_refl _) h4.size)
  by_cases hE : playE (bytesOf b) s bits = 0
  · obtain ⟨A2, n2, c2, hp, hf⟩ := heq hE
    refine ⟨A2, n2, c2, _, _, ⟨hp, h2.apart h1 h3 hk2, fun q hq hq2 => ?_, hb⟩, fun _ => ⟨rfl, rfl⟩, fun h => absurd hE h⟩
    obtain ⟨vs, a1, _, _⟩ := h2.2.2
    have := (a1.lt q hq2).2
    have := hf q hq
    omega
  · exact ⟨A, n, c, _, _, ⟨hne hE, h2.apart h1 h3 hk2, h3, hb⟩, fun h => absurd h hE, fun _ => ⟨rfl, rfl⟩⟩
end
/-- Both players have lost as many, and have the same parts. -/
def Two2 (w : World) (X Y : Nat) (As : Option Addr) (ns cs : Nat) (s : List Int) (bits many : Int) (A0 : Option Addr) (n0 c0 : Nat) (K : Int) (wx : World) : Prop :=
  ∃ A n c ps lost Am nm cm, Duo w X Y As ns cs s bits many A0 n0 c0 A n c ps lost Am nm cm ps lost wx ∧ goodP ps ∧ 0 ≤ lost ∧ lost ≤ K
set_option maxHeartbeats 8000000 in
set_option maxRecDepth 1000000 in
theorem hidePlays_walk (w : World) (A0 : Option Addr) (n0 c0 : Nat) (s : List Int) (h0 : RdI w w.heap.size A0 n0 s) (hb0 : n0 ≤ c0 ∧ c0 ≤ 17592186044415) (_ : ∀ x ∈ s, Is64 x) (bits : Int) (A2 : Option Addr) (n2 c2 : Nat) (ls : List ByteArray) (h2 : RdS w w.heap.size A2 n2 ls) (_hb2 : n2 ≤ c2 ∧ c2 ≤ 17592186044415) (hm2 : ∀ l ∈ ls, l.size ≤ 140737488351232) (A3 : Option Addr) (n3 c3 : Nat) (lo : List Int) (h3 : RdI w w.heap.size A3 n3 lo) (_hb3 : n3 ≤ c3 ∧ c3 ≤ 17592186044415) (_ : ∀ x ∈ lo, Is64 x) (hg : Laid w) :
    Calls Tryz.prog 3 #[.slice A0 n0 c0, .int .i64 bits, .slice A2 n2 c2, .slice A3 n3 c3] w fun e w' => e = .returned (.bool true) ∧ Below w.heap.size w w' := by
  have HG := Lib.hid hg
  have H0 := Lib.hid h0
  have H2 := Lib.hid h2
  have H3 := Lib.hid h3
  have HM2 := Lib.hid hm2
  have hn0 : n0 ≤ 100000000000000 := by omega
  have HNP := Lib.hid (rnewp_any A0 n0 c0 s bits w w.heap.size h0 hn0)
  have HBD := Lib.hid (newErr_bd s bits)
  by_cases hE : newErr s bits = 0
  · have hz := newErr_zero.1 hE
    have HHN := Lib.hid (hnew_ok A0 n0 c0 s bits w w.heap.size h0 (Nat.le_refl _) hE)
    have hbz := Ph.bandErr_zero.1 hz.1
    have HB0 := Lib.hid hz.1
    have hmT : 0 ≤ Ph.total s ∧ Ph.total s ≤ 32 := ⟨Ph.total_nonneg fun x hx => by have := hbz.2.2.1 x hx; omega, hbz.2.2.2⟩
    have HMT := Lib.hid hmT
    rw [hE] at HNP
    clear h0 h2 h3 hb0 hm2 hg hz hbz hmT hE HBD
    go_enter Tryz.func3, Tryz.ntmps3
    go_wp2_with fail
    refine HNP.out.mono ?_
    rintro e w' ⟨rfl, rfl⟩
    go_wp2_with fail
    refine HHN.out.mono ?_
    rintro e w1 ⟨X, As, cs, rfl, hp, hb⟩
    have HP1 := Lib.hid hp
    have HB1 := Lib.hid hb
    have HE0 := Lib.hid (herr_yes 0 _ (HG.out.below hb) (by omega))
    rw [errV_zero] at HE0
    clear hp hb HNP HHN
    go_wp2_with fail
    refine HE0.out.mono ?_
    rintro e w2 ⟨rfl, hb⟩
    have HP2 := Lib.hid (HP1.out.below' hb)
    have HB2 := Lib.hid (below_on HB1.out hb)
    clear hb HP1 HB1 HE0
    obtain ⟨Y, hY⟩ : ∃ Y, Y = w2.heap.size := ⟨_, rfl⟩
    obtain ⟨W3, hW3⟩ : ∃ W3, W3 = w2.alloc (.cells #[.slice A0 n0 c0, .int .i64 bits, .slice none 0 0, .int .i64 0] 34) := ⟨_, rfl⟩
    have HT3 : Hid (Two2 w X Y As n0 cs s bits (Ph.total s) A0 n0 c0 0 W3) := Lib.hid (by
      refine ⟨none, 0, 0, [], 0, none, 0, 0, ⟨?_, ⟨?_, ?_, OwnPV.nil _ _⟩, fun q hq => by simp [Value.ownBlock] at hq, ?_⟩, ⟨fun p hp => (by simp at hp), by simp⟩, Int.le_refl _, Int.le_refl _⟩
      · rw [hW3]; exact HP2.out.alloc _
      · rw [hY]; exact HB2.out.size
      · rw [hW3, hY]; exact heap_alloc_new w2 _
      · rw [hW3]; exact HB2.out.alloc HB2.out.size _)
    have HY := Lib.hid hY
    have HW3 := Lib.hid hW3
    clear hY hW3 HP2 HB2
    go_wp2_with fail
    rw [← HW3.out, ← HY.out]
    clear HW3 HY
    go_loopw [12, 14, 15, 16, 17, 18] (fun _ i _ _ _ _ wr => ∃ k : Nat, k ≤ 30 ∧ i = .int .i64 k ∧ Hid (Two2 w X Y As n0 cs s bits (Ph.total s) A0 n0 c0 k wr)) (fun _ i _ _ _ _ _ => 30 - (intOf i).toNat)
    case atStart => exact ⟨0, Nat.zero_le _, rfl, HT3⟩
    case round =>
      obtain ⟨k, hk, rfl, HT⟩ := hrel
      clear HT3
      obtain ⟨q, hq⟩ : ∃ q, q = (decide (k < n2) && decide (k < 30)) := ⟨_, rfl⟩
      have HQ := Lib.hid hq
      clear hq
      go_upto_region 8 with (fail)
      go_cut [49] (fun s49 wx => s49 = .bool q ∧ wx = wr)
      case first =>
        by_cases h1 : k < n2
        · have h1' : (k : Int) < (n2 : Int) := by omega
          by_cases h3 : k < 30
          · obtain rfl : q = true := by rw [HQ.out]; simp [h1, h3]
            have h3' : (k : Int) < 30 := by omega
            go_wp2_with fail
            go_meet
            case rel => exact ⟨rfl, rfl⟩
          · obtain rfl : q = false := by rw [HQ.out]; simp [h1, h3]
            have h3' : ¬ (k : Int) < 30 := by omega
            go_wp2_with fail
            go_meet
            case rel => exact ⟨rfl, rfl⟩
        · obtain rfl : q = false := by rw [HQ.out]; simp [h1]
          have h1' : ¬ (k : Int) < (n2 : Int) := by omega
          go_wp2_with fail
          go_meet
          case rel => exact ⟨rfl, rfl⟩
      case rest =>
        obtain ⟨rfl, rfl⟩ := hcut
        rename World => wr
        cases q with
        | true =>
          have hlt := HQ.out
          simp at hlt
          obtain ⟨A, n, c, ps, lost, Am, nm, cm, hduo, hgood, hl0, hlK⟩ := HT.out
          have HD := Lib.hid hduo
          have HGD := Lib.hid hgood
          have HB := Lib.hid hduo.2.2.2
          have hk2 : k < n2 := hlt.1
          have hk30 : k < 30 := hlt.2
          obtain ⟨r, hr⟩ : ∃ r, r = (decide (k < n3) && decide (lo.getD k 0 = 1)) := ⟨_, rfl⟩
          have HR := Lib.hid hr
          clear hr hduo hgood hlt HT HQ
          go_upto_region 10 with (fail)
          go_cut [62] (fun s62 wx => s62 = .bool r ∧ wx = wr)
          case first =>
            by_cases h1 : k < n3
            · have h1' : (k : Int) < (n3 : Int) := by omega
              obtain ⟨b6, o6, rfl, hb6, d6⟩ := (H3.out.below HB.out).at_ h1
              by_cases h3 : lo.getD k 0 = 1
              · obtain rfl : r = true := by rw [HR.out, decide_eq_true h1, decide_eq_true h3]; rfl
                rw [h3] at d6
                clear h3
                go_wp2_with fail
                go_meet
                case rel => exact ⟨rfl, rfl⟩
              · obtain rfl : r = false := by rw [HR.out, decide_eq_false h3, Bool.and_false]
                obtain ⟨z, hz⟩ : ∃ z, z = lo.getD k 0 := ⟨_, rfl⟩
                rw [← hz] at d6 h3
                have h3b : (z == 1) = false := by simp [h3]
                clear h3 hz
                go_wp2_with fail
                go_meet
                case rel => exact ⟨rfl, rfl⟩
            · obtain rfl : r = false := by rw [HR.out]; simp [h1]
              have h1' : ¬ (k : Int) < (n3 : Int) := by omega
              go_wp2_with fail
              go_meet
              case rel => exact ⟨rfl, rfl⟩
          case rest =>
            obtain ⟨rfl, rfl⟩ := hcut
            rename World => wr
            clear HR
            go_upto_if 62 with (fail)
            go_cut [] (fun wx => Hid (Two2 w X Y As n0 cs s bits (Ph.total s) A0 n0 c0 ((k : Int) + 1) wx))
            case first =>
              cases r with
              | true =>
                have HLO := Lib.hid (duo_lose HD.out HGD.out ⟨hl0, by omega⟩ HMT.out)
                clear HD
                go_wp2_with fail
                refine HLO.out.mono ?_
                rintro e w4 ⟨A4, n4, c4, rfl, hn4, ho4, hd4⟩
                have HO4 := Lib.hid ho4
                have HLR := Lib.hid (duo_rlose hd4 H0.out HB0.out HGD.out ⟨hl0, by omega⟩)
                clear ho4 hd4 HLO
                go_wp2_with fail
                refine HLR.out.mono ?_
                rintro e w5 ⟨A5, n5, c5, rfl, hr5, hon, _, Am', nm', cm', hd5⟩
                have HI := Lib.hid (ints_any A4 A5 n4 c4 n5 c5 _ _ w5 _ _ (RdI.own (hon _ _ _ _ HO4.out)) hr5 (Nat.le_refl _) (Nat.le_refl _) (by omega))
                rw [sameI_true.2 rfl] at HI
                have HD5 := Lib.hid hd5
                clear hr5 hon hd5 HLR HO4
                go_wp2_with fail
                refine HI.out.mono ?_
                rintro e w6 ⟨rfl, hb6⟩
                have HD6 := Lib.hid (duo_below HD5.out hb6)
                clear hb6 HI HD5
                go_wp2_with fail
                go_meet
                case rel => exact Lib.hid ⟨A, n, c, _, _, Am', nm', cm', HD6.out, goodP_soften HGD.out, by omega, by omega⟩
              | false =>
                go_wp2_with fail
                go_meet
                case rel => exact Lib.hid ⟨A, n, c, ps, lost, Am, nm, cm, HD.out, HGD.out, hl0, by omega⟩
            case rest =>
              have HT7 := hcut
              rename World => w7
              clear HD HGD HB hl0 hlK
              obtain ⟨A, n, c, ps, lost, Am, nm, cm, hduo, hgood, hl0, hlK⟩ := HT7.out
              have HD := Lib.hid hduo
              have HGD := Lib.hid hgood
              obtain ⟨b7, o7, rfl, hb7, d7⟩ := (H2.out.below hduo.2.2.2).at_ hk2
              have hsz : (ls.getD k ByteArray.empty).size ≤ 140737488351232 := HM2.out _ (by
                have := H2.out.len
                rw [List.getD_eq_getElem?_getD, List.getElem?_eq_getElem (by omega)]; exact List.getElem_mem (by omega))
              have HAT : Hid (∀ W, Below w.heap.size w W → W.cell? ⟨b7, o7 + k, none⟩ = some (.string (ls.getD k ByteArray.empty))) := Lib.hid fun W hW => by
                obtain ⟨b1, o1, hA1, _, dd⟩ := (H2.out.below hW).at_ hk2
                obtain ⟨rfl, rfl⟩ : b7 = b1 ∧ o7 = o1 := by simpa using hA1
                exact dd
              obtain ⟨b, hb⟩ : ∃ b, b = ls.getD k ByteArray.empty := ⟨_, rfl⟩
              rw [← hb] at d7 hsz HAT
              have HRP := Lib.hid (duo_rplay b hduo H0.out hsz hn0)
              have HPB := Lib.hid (playE_bd (bytesOf b) s bits)
              have HPF := Lib.hid (playL_few (bytesOf b) s bits)
              have HGP := Lib.hid fun h => goodP_play (b := bytesOf b) (s := s) (bits := bits) (bytesOf_lt b) h
              have HPL := Lib.hid fun A n c ps lost Am nm cm qs lost2 wx (h : Duo w X Y As n0 cs s bits (Ph.total s) A0 n0 c0 A n c ps lost Am nm cm qs lost2 wx) => duo_play b h hsz hn0
              obtain ⟨E, hE⟩ : ∃ E, E = playE (bytesOf b) s bits := ⟨_, rfl⟩
              rw [← hE] at HRP HPB HGP HPL
              obtain ⟨L, hL⟩ : ∃ E, E = playL (bytesOf b) s bits := ⟨_, rfl⟩
              rw [← hL] at HRP HPF HPL
              obtain ⟨U, hU⟩ : ∃ E, E = unpL (bytesOf b) s bits := ⟨_, rfl⟩
              rw [← hU] at HRP HGP HPL
              clear hduo hgood hE hL hU hb HD
              go_wp2_with fail
              refine HRP.out.mono ?_
              rintro e w8 ⟨A8, n8, c8, rfl, ho8, Am', nm', cm', qs', lost2', hd8, he1, he2⟩
              have HO8 := Lib.hid ho8
              have d8 := HAT.out w8 hd8.2.2.2
              have HP8 := Lib.hid (HPL.out _ _ _ _ _ _ _ _ _ _ _ hd8)
              have HE12 := Lib.hid (And.intro he1 he2)
              clear ho8 hd8 he1 he2 d7 HRP HPL
              go_wp2_with fail
              refine HP8.out.mono ?_
              rintro e w9 ⟨A9, c9, rfl, ho9, hon, A2', n2', c2', ps', lost', hd9, hf1, hf2⟩
              have HO9 := Lib.hid ho9
              have HO8' := Lib.hid (hon _ _ _ _ HO8.out)
              have HD9 := Lib.hid hd9
              have HF12 := Lib.hid (And.intro hf1 hf2)
              clear ho9 hon hd9 hf1 hf2 d8 HP8 HO8
              have HSAME : Hid (ps' = qs' ∧ lost' = lost2' ∧ goodP ps' ∧ 0 ≤ lost' ∧ lost' ≤ (k : Int) + 1) := Lib.hid (by
                by_cases hz : E = 0
                · have e1 := HE12.out.1 hz
                  have e2 := HF12.out.1 hz
                  refine ⟨by rw [e1.1, e2.1], by rw [e1.2, e2.2], by rw [e2.1]; exact HGP.out hz, by rw [e2.2]; omega, by rw [e2.2]; omega⟩
                · have e1 := HE12.out.2 hz
                  have e2 := HF12.out.2 hz
                  exact ⟨by rw [e1.1, e2.1], by rw [e1.2, e2.2], by rw [e2.1]; exact HGD.out, by rw [e2.2]; omega, by rw [e2.2]; omega⟩)
              clear HE12 HF12 HGP HGD hl0 hlK
              go_wp2_with fail
              refine (herr_yes E _ (HG.out.below HD9.out.2.2.2) HPB.out).mono ?_
              rintro e w10 ⟨rfl, hb10⟩
              have HD10 := Lib.hid (duo_below HD9.out hb10)
              have HI := Lib.hid (ints_any A9 A8 L.length c9 n8 c8 L L w10 _ _ ((RdI.own HO9.out).on hb10) ((RdI.own HO8'.out).on hb10) (Nat.le_refl _) (Nat.le_refl _) HPF.out)
              rw [sameI_true.2 rfl] at HI
              clear hb10 HD9 HO8' HO9 HPB HPF
              go_wp2_with fail
              refine HI.out.mono ?_
              rintro e w11 ⟨rfl, hb11⟩
              have HD11 := Lib.hid (duo_below HD10.out hb11)
              clear hb11 HD10 HI
              obtain ⟨e1, e2, e3, e4, e5⟩ := HSAME.out
              subst e1
              subst e2
              have HL11 := Lib.hid fun q => lost_any (w11.drewN q) w.heap.size X As n0 cs s bits (Ph.total s) A2' n2' c2' ps' lost' (HD11.out.1.drewN q)
              have y3 := HD11.out.2.1.cells.2.2.2
              have hll : (lost' != lost') = false := by simp
              have HGD' := Lib.hid e3
              clear e3 HSAME
              go_wp2_with fail
              go_quiet ((go_at_call 15; exact Calls.quiet_of_same (HL11.out _)))
              go_wp2_with fail
              go_roundw
              case rel => exact ⟨k + 1, by omega, by go_num, Lib.hid ⟨A2', n2', c2', ps', lost', Am', nm', cm', duo_below HD11.out ⟨rfl, rfl, rfl, Nat.le_refl _, fun _ _ => rfl⟩, HGD'.out, e4, by omega⟩⟩
              case measure => simp [intOf]; omega
        | false =>
          obtain ⟨A, n, c, ps, lost, Am, nm, cm, hduo, hgood, hl0, hlK⟩ := HT.out
          have HGD := Lib.hid hgood
          have HLO := Lib.hid (duo_lose hduo hgood ⟨hl0, by omega⟩ HMT.out)
          clear hduo hgood HQ HT
          go_wp2_with fail
          refine HLO.out.mono ?_
          rintro e w4 ⟨A4, n4, c4, rfl, hn4, ho4, hd4⟩
          have HO4 := Lib.hid ho4
          have HLR := Lib.hid (duo_rlose hd4 H0.out HB0.out HGD.out ⟨hl0, by omega⟩)
          clear ho4 hd4 HLO
          go_wp2_with fail
          refine HLR.out.mono ?_
          rintro e w5 ⟨A5, n5, c5, rfl, hr5, hon, _, Am', nm', cm', hd5⟩
          have HI := Lib.hid (ints_any A4 A5 n4 c4 n5 c5 _ _ w5 _ _ (RdI.own (hon _ _ _ _ HO4.out)) hr5 (Nat.le_refl _) (Nat.le_refl _) (by omega))
          rw [sameI_true.2 rfl] at HI
          have HD5 := Lib.hid hd5
          clear hr5 hon hd5 HLR HO4
          go_wp2_with fail
          refine HI.out.mono ?_
          rintro e w6 ⟨rfl, hb6⟩
          have HLO := Lib.hid (duo_lose (duo_below HD5.out hb6) (goodP_soften HGD.out) ⟨by omega, by omega⟩ HMT.out)
          clear hb6 HI HD5
          go_wp2_with fail
          refine HLO.out.mono ?_
          rintro e w7 ⟨A7, n7, c7, rfl, hn7, ho7, hd7⟩
          have HO7 := Lib.hid ho7
          have HLR := Lib.hid (duo_rlose hd7 H0.out HB0.out (goodP_soften HGD.out) ⟨by omega, by omega⟩)
          clear ho7 hd7 HLO
          go_wp2_with fail
          refine HLR.out.mono ?_
          rintro e w8 ⟨A8, n8, c8, rfl, hr8, hon, _, Am2, nm2, cm2, hd8⟩
          have HI := Lib.hid (ints_any A7 A8 n7 c7 n8 c8 _ _ w8 _ _ (RdI.own (hon _ _ _ _ HO7.out)) hr8 (Nat.le_refl _) (Nat.le_refl _) (by omega))
          rw [sameI_true.2 rfl] at HI
          have HB8 := Lib.hid hd8.2.2.2
          clear hr8 hon hd8 HLR HO7
          go_wp2_with fail
          refine HI.out.mono ?_
          rintro e w9 ⟨rfl, hb9⟩
          have HB9 := Lib.hid (below_on HB8.out hb9)
          clear hb9 HI
          go_wp2_with fail
          go_ret
          exact ⟨ret_true (by simp), HB9.out⟩
  · have HHN := Lib.hid (hnew_no A0 n0 c0 s bits w w.heap.size h0 hn0 hE)
    obtain ⟨E, hEe⟩ : ∃ E, E = newErr s bits := ⟨_, rfl⟩
    rw [← hEe] at HNP HHN HBD hE
    have hEb : (E != 0) = true := by simp [hE]
    clear h0 h2 h3 hb0 hm2 hg hEe hE
    go_enter Tryz.func3, Tryz.ntmps3
    go_wp2_with fail
    refine HNP.out.mono ?_
    rintro e w' ⟨rfl, rfl⟩
    go_wp2_with fail
    refine HHN.out.mono ?_
    rintro e w' ⟨rfl, rfl⟩
    go_wp2_with fail
    refine (herr_yes E _ HG.out HBD.out).mono ?_
    rintro e w2 ⟨rfl, hb⟩
    have HB2 := Lib.hid hb
    clear hb
    go_wp2_with fail
    go_ret
    exact ⟨ret_true (by simp), HB2.out⟩
end Go.Proofs.YtlilommhdjdblaaGreatDoor
