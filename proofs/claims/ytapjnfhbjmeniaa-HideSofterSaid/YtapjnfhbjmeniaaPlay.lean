/- Walks: a frame out of bytes, and a frame that is played (chapters 17, 18). -/
import Derived.Test.YtapjnfhbjmeniaaUnpack
import Derived.Test.YtapjnfhbjmeniaaLose
namespace Go.Proofs.Ytapjnfhbjmeniaa
open Go.RowKit

/-- What is wrong with bytes as a frame. -/
def unpE (b : List Nat) (s : List Int) (bits : Int) : Int :=
  if Ph.bandErr s ≠ 0 then Ph.bandErr s else if bits < 0 ∨ 400 < bits then 1 else if 50 < b.length then 2 else if (Ph.unpack b s bits).isSome = true then 0 else 2
def unpL (b : List Nat) (s : List Int) (bits : Int) : List Ph.Part := if unpE b s bits = 0 then (Ph.unpack b s bits).getD [] else []
theorem unpE_zero {b : List Nat} {s : List Int} {bits : Int} (h : unpE b s bits = 0) : Ph.bandErr s = 0 ∧ (0 ≤ bits ∧ bits ≤ 400) ∧ b.length ≤ 50 ∧ Ph.unpack b s bits = some (unpL b s bits) := by
  have h' := h
  unfold unpE at h
  split at h
  · omega
  · split at h
    · omega
    · split at h
      · omega
      · split at h
        · rename_i h1 h2 h3 h4
          refine ⟨by omega, by omega, by omega, ?_⟩
          unfold unpL
          rw [if_pos h']
          cases hu : Ph.unpack b s bits with
          | none => rw [hu] at h4; cases h4
          | some p => rfl
        · omega
set_option maxHeartbeats 2000000 in
theorem unpack_any (b : ByteArray) (A2 : Option Addr) (n2 c2 : Nat) (s : List Int) (bits : Int) (w : World) (B : Nat) (h2 : RdI w B A2 n2 s) (hB : B ≤ w.heap.size) (hn : n2 ≤ 100000000000000) (hs : b.size ≤ 140737488351232) :
    Calls Try.prog 56 #[.string b, .slice A2 n2 c2, .int .i64 bits] w (ToldP (unpE (bytesOf b) s bits) (unpL (bytesOf b) s bits) w) := by
  have hbl := bytesOf_length b
  by_cases hb : Ph.bandErr s = 0
  · have HBC := Lib.hid (bandCheck_ok A2 n2 c2 s w B h2 hb)
    have HSB := Lib.hid fun W => shbits_any bits W
    by_cases hbi : 0 ≤ bits ∧ bits ≤ 400
    · rw [show bitsOk bits = true from bitsOk_iff.2 hbi] at HSB
      by_cases hsz : 50 < b.size
      · have e : unpE (bytesOf b) s bits = 2 := by unfold unpE; rw [if_neg (by omega), if_neg (by omega), if_pos (by omega)]
        have e2 : unpL (bytesOf b) s bits = [] := by unfold unpL; rw [if_neg (by omega)]
        rw [e, e2]
        have hsz' : (50 : Int) < (b.size : Int) := by omega
        clear e e2 h2 hb hbi hbl
        go_enter Try.func56, Try.ntmps56
        go_wp2_with fail
        refine HBC.out.mono ?_
        rintro e w' ⟨rfl, rfl⟩
        go_wp2_with fail
        refine (HSB.out _).mono ?_
        rintro e w' ⟨rfl, rfl⟩
        go_wp2_with fail
        go_ret2
        exact ToldP.none _ _ (errV_ne (by omega)).symm (Below.refl _ _)
      · have e : unpE (bytesOf b) s bits = if (Ph.unpack (bytesOf b) s bits).isSome = true then 0 else 2 := by unfold unpE; rw [if_neg (by omega), if_neg (by omega), if_neg (by omega)]
        have HRE := Lib.hid (read_any b A2 n2 c2 s bits w B h2 hB (by omega) hb hbi)
        have hul : unpL (bytesOf b) s bits = if unpE (bytesOf b) s bits = 0 then (Ph.unpack (bytesOf b) s bits).getD [] else [] := rfl
        have hsz' : ¬ (50 : Int) < (b.size : Int) := by omega
        obtain ⟨R, hR⟩ : ∃ R, R = Ph.unpack (bytesOf b) s bits := ⟨_, rfl⟩
        rw [← hR] at e HRE hul
        obtain ⟨E, hE⟩ : ∃ E, E = unpE (bytesOf b) s bits := ⟨_, rfl⟩
        obtain ⟨L, hL⟩ : ∃ E, E = unpL (bytesOf b) s bits := ⟨_, rfl⟩
        rw [← hE] at e hul ⊢
        rw [← hL] at hul ⊢
        clear h2 hb hbi hR hE hL hbl
        cases R with
        | none =>
          have e' : E = 2 := by rw [e]; rfl
          subst e'
          have hl : L = [] := by rw [hul, if_neg (by omega)]
          subst hl
          clear e hul
          go_enter Try.func56, Try.ntmps56
          go_wp2_with fail
          refine HBC.out.mono ?_
          rintro e w' ⟨rfl, rfl⟩
          go_wp2_with fail
          refine (HSB.out _).mono ?_
          rintro e w' ⟨rfl, rfl⟩
          go_wp2_with fail
          refine HRE.out.mono ?_
          rintro e w3 ⟨A3, n3, c3, rfl, _, hb⟩
          have HB3 := Lib.hid hb
          clear hb
          go_wp2_with fail
          go_ret2
          exact ToldP.none _ _ (errV_ne (by omega)).symm HB3.out
        | some p =>
          have e' : E = 0 := by rw [e]; rfl
          subst e'
          have hl : L = p := by rw [hul, if_pos rfl]; rfl
          subst hl
          clear e hul
          go_enter Try.func56, Try.ntmps56
          go_wp2_with fail
          refine HBC.out.mono ?_
          rintro e w' ⟨rfl, rfl⟩
          go_wp2_with fail
          refine (HSB.out _).mono ?_
          rintro e w' ⟨rfl, rfl⟩
          go_wp2_with fail
          refine HRE.out.mono ?_
          rintro e w3 ⟨A3, n3, c3, rfl, hp, hb⟩
          have HP3 := Lib.hid (hp _ rfl)
          have HB3 := Lib.hid hb
          clear hb hp
          go_wp2_with fail
          go_ret2
          exact ⟨A3, n3, c3, rfl, HP3.out, HB3.out⟩
    · rw [show bitsOk bits = false by unfold bitsOk; simp; omega] at HSB
      have e : unpE (bytesOf b) s bits = 1 := by unfold unpE; rw [if_neg (by omega), if_pos (by omega)]
      have e2 : unpL (bytesOf b) s bits = [] := by unfold unpL; rw [if_neg (by omega)]
      rw [e, e2]
      clear e e2 h2 hb hbi hbl
      go_enter Try.func56, Try.ntmps56
      go_wp2_with fail
      refine HBC.out.mono ?_
      rintro e w' ⟨rfl, rfl⟩
      go_wp2_with fail
      refine (HSB.out _).mono ?_
      rintro e w' ⟨rfl, rfl⟩
      go_wp2_with fail
      go_ret2
      exact ToldP.none _ _ (errV_ne (by omega)).symm (Below.refl _ _)
  · have HBC := Lib.hid (bandCheck_no A2 n2 c2 s w B h2 hn hb)
    have e : unpE (bytesOf b) s bits = Ph.bandErr s := by unfold unpE; rw [if_pos hb]
    have e2 : unpL (bytesOf b) s bits = [] := by unfold unpL; rw [if_neg (by omega)]
    rw [e, e2]
    obtain ⟨E, hE⟩ : ∃ E, E = Ph.bandErr s := ⟨_, rfl⟩
    rw [← hE] at HBC hb ⊢
    rw [errV_ne hb] at HBC
    clear e e2 h2 hE hbl
    go_enter Try.func56, Try.ntmps56
    go_wp2_with fail
    refine HBC.out.mono ?_
    rintro e w' ⟨rfl, rfl⟩
    go_wp2_with fail
    go_ret2
    exact ToldP.none _ _ (errV_ne hb).symm (Below.refl _ _)
/-- What is wrong with a frame that is played. -/
def playE (b : List Nat) (s : List Int) (bits : Int) : Int := if unpE b s bits ≠ 0 then unpE b s bits else Ph.decErr (unpL b s bits)
/-- .. and what is told. -/
def playL (b : List Nat) (s : List Int) (bits : Int) : List Int := got (playE b s bits) (Ph.lapI (Ph.decAll (unpL b s bits)))
/-- Sizes that are right: no part has more pulses than six, there are eight at most. -/
theorem unpL_small {b : List Nat} {s : List Int} {bits : Int} (hlt : ∀ x ∈ b, x < 256) (h : unpE b s bits = 0) : Ph.frameErr (unpL b s bits) s bits = 0 ∧ (unpL b s bits).length ≤ 8 ∧ ∀ p ∈ unpL b s bits, Ph.gainOk p.gain = true ∧ p.pulses.length ≤ 6 := by
  have hz := unpE_zero h
  have hf := (Ph.unpack_back hz.1 hz.2.1.1 hz.2.1.2 hlt hz.2.2.2).1
  have hfz := Ph.frameErr_zero.1 hf
  refine ⟨hf, ?_, fun p hp => ⟨(hfz.2.2.1 p hp).1, (Ph.pulsesErr_zero.1 (hfz.2.2.1 p hp).2).1⟩⟩
  have h8 := (Ph.bandErr_zero.1 hz.1).2.1
  have := congrArg List.length hfz.2.1
  rw [List.length_map] at this
  omega
/-- What it played last turns. -/
theorem PlayerAt.setLast {w : World} {base X ns cs n c n2 c2 : Nat} {As A A2 : Option Addr} {sizes : List Int} {bits many lost : Int} {ps qs : List Ph.Part} (h : PlayerAt w base X As ns cs sizes bits many A n c ps lost) (hq : OwnPV w base A2 n2 c2 qs) : PlayerAt (w.setCell ⟨X, 3, none⟩ (.slice A2 n2 c2)) base X As ns cs sizes bits many A2 n2 c2 qs lost := by
  have hg : w.grownBy (w.setCell ⟨X, 3, none⟩ (.slice A2 n2 c2)) (some X) := ⟨rfl, rfl, rfl, by simp, fun k _ hk => heap_setCell_other w ⟨X, 3, none⟩ k _ (fun e => hk (by simp [e]))⟩
  refine ⟨h.1, ?_, h.2.2.1.kept hg (.inr (row_type h.2.2.1 h.2.1 (by decide))), hq.kept hg h.2.1 (by decide) (by decide)⟩
  rw [heap_setCell_same w X 3 _ _ _ h.2.1]; rfl
/-- What becomes of a player, and what is told, where a frame is played. -/
def PlayP (W : World) (base X : Nat) (As : Option Addr) (ns cs : Nat) (s : List Int) (bits many : Int) (A : Option Addr) (n c : Nat) (ps : List Ph.Part) (lost E : Int) (L : List Int) (U : List Ph.Part) (e : Ending) (w' : World) : Prop :=
  ∃ A' c', e = .returned (.tuple #[.slice A' L.length c', errV E]) ∧ w'.ownsRow W.heap.size 3 1 (.slice A' L.length c') L.length (ivals L) ∧ (E ≠ 0 → PlayerAt w' base X As ns cs s bits many A n c ps lost) ∧ (E = 0 → ∃ A2 n2 c2, PlayerAt w' base X As ns cs s bits many A2 n2 c2 U 0) ∧ KeptBut (fun k => k = X) W w'
set_option maxHeartbeats 4000000 in
set_option maxRecDepth 100000 in
theorem play_any (W : World) (base X : Nat) (As : Option Addr) (ns cs : Nat) (s : List Int) (bits many : Int) (A : Option Addr) (n c : Nat) (ps : List Ph.Part) (lost : Int) (b : ByteArray) (hP : PlayerAt W base X As ns cs s bits many A n c ps lost) (hbs : base ≤ W.heap.size) (hs : b.size ≤ 140737488351232) (hns : ns ≤ 100000000000000) :
    Calls Try.prog 23 #[.pointer (some ⟨X, 0, none⟩), .string b] W (PlayP W base X As ns cs s bits many A n c ps lost (playE (bytesOf b) s bits) (playL (bytesOf b) s bits) (unpL (bytesOf b) s bits)) := by
  have HP := Lib.hid hP
  obtain ⟨c0, c1, c2, c3, c4⟩ := hP.cells
  have HUN := Lib.hid fun W' (hW : PlayerAt W' base X As ns cs s bits many A n c ps lost) => unpack_any b As ns cs s bits W' W'.heap.size (RdI.own hW.2.2.1) (Nat.le_refl _) hns hs
  have hsm := fun h => unpL_small (b := bytesOf b) (s := s) (bits := bits) (bytesOf_lt b) h
  have hpe : playE (bytesOf b) s bits = if unpE (bytesOf b) s bits ≠ 0 then unpE (bytesOf b) s bits else Ph.decErr (unpL (bytesOf b) s bits) := rfl
  have hpl : playL (bytesOf b) s bits = got (playE (bytesOf b) s bits) (Ph.lapI (Ph.decAll (unpL (bytesOf b) s bits))) := rfl
  obtain ⟨E1, hE1⟩ : ∃ E, E = unpE (bytesOf b) s bits := ⟨_, rfl⟩
  obtain ⟨U, hU⟩ : ∃ E, E = unpL (bytesOf b) s bits := ⟨_, rfl⟩
  rw [← hE1] at hsm hpe HUN
  rw [← hU] at hsm hpe hpl HUN
  obtain ⟨E, hE⟩ : ∃ E, E = playE (bytesOf b) s bits := ⟨_, rfl⟩
  obtain ⟨L, hL⟩ : ∃ E, E = playL (bytesOf b) s bits := ⟨_, rfl⟩
  rw [← hE] at hpe hpl ⊢
  rw [← hL] at hpl ⊢
  try rw [← hU]
  have HSM := Lib.hid hsm
  have HPE := Lib.hid hpe
  have HPL := Lib.hid hpl
  clear hP c2 c3 c4 hsm hpe hpl hE1 hU hE hL
  go_enter Try.func23, Try.ntmps23
  go_upto_region 1 with (fail)
  go_cut [6, 7] (fun s6 s7 wx => ∃ A6 n6 c6, s6 = .slice A6 n6 c6 ∧ s7 = errV E1 ∧ Hid (OwnPV wx W.heap.size A6 n6 c6 U) ∧ Hid (Below W.heap.size W wx))
  case first =>
    go_region_with (go_at_call 56; refine (HUN.out _ (HP.out.drewN 1)).mono ?_; rintro e w3 ⟨A6, n6, c6, rfl, ho3, hb3⟩)
    all_goals go_wp2_with fail
    all_goals go_meet
    all_goals exact ⟨A6, n6, c6, rfl, rfl, Lib.hid ho3, Lib.hid ⟨hb3.os, hb3.tape, hb3.output, hb3.size, hb3.block⟩⟩
  case rest =>
    obtain ⟨A6, n6, c6, rfl, rfl, HU6, HB6⟩ := hcut
    rename World => w3
    by_cases hE1 : E1 = 0
    · have hsm := HSM.out hE1
      have hE : E = Ph.decErr U := by rw [HPE.out, if_neg (by omega)]
      have HDE := Lib.hid (decode_any A6 n6 c6 U w3 w3.heap.size HU6.out.rd (Nat.le_refl _) (by have := HU6.out.len; omega) (fun p hp => by have := (hsm.2.2 p hp).2; omega))
      rw [← hE] at HDE
      rw [← HPL.out] at HDE
      subst hE1
      clear HPE HSM hsm HUN
      by_cases hE0 : E = 0
      · have HP3 := Lib.hid (HP.out.below' HB6.out)
        rw [errV_zero]
        subst hE0
        clear HPL hE
        go_wp2_with fail
        refine HDE.out.mono ?_
        rintro e w4 ⟨A8, c8, rfl, ho, hb⟩
        have HO8 := Lib.hid ho
        have HP4 := Lib.hid (HP3.out.below' hb)
        have HU8 := Lib.hid ((HU6.out.more hbs).below' hb)
        have HB8 := Lib.hid (below_on HB6.out hb)
        have f3 := HP4.out.frozen 3
        have f4 := HP4.out.frozen 4
        have x3 := HP4.out.cells.2.2.2.1
        have x4 := HP4.out.cells.2.2.2.2
        rw [errV_zero]
        clear ho hb c0 c1 HP HP3
        go_wp2_with fail
        go_ret2
        have h1 := HP4.out.setLast HU8.out
        have h2 := h1.setLost 0
        refine ⟨A8, c8, by rw [errV_zero]; rfl, ?_, fun h => absurd rfl h, fun _ => ⟨A6, n6, c6, h2⟩, ((KeptBut.of_below (S := fun k => k = X) HB8.out).setCell (p := ⟨X, 3, none⟩) rfl _).setCell (p := ⟨X, 4, none⟩) rfl _⟩
        have hr := HO8.out
        have g1 : w4.grownBy (w4.setCell ⟨X, 3, none⟩ (.slice A6 n6 c6)) (some X) := ⟨rfl, rfl, rfl, by simp, fun k _ hk => heap_setCell_other w4 ⟨X, 3, none⟩ k _ (fun e => hk (by simp [e]))⟩
        have hr1 := hr.kept g1 (.inr (row_type hr HP4.out.2.1 (by decide)))
        have g2 : (w4.setCell ⟨X, 3, none⟩ (.slice A6 n6 c6)).grownBy ((w4.setCell ⟨X, 3, none⟩ (.slice A6 n6 c6)).setCell ⟨X, 4, none⟩ (.int .i64 0)) (some X) := ⟨rfl, rfl, rfl, by simp, fun k _ hk => heap_setCell_other _ ⟨X, 4, none⟩ k _ (fun e => hk (by simp [e]))⟩
        exact own_more (hr1.kept g2 (.inr (row_type hr1 h1.2.1 (by decide)))) HB6.out.size
      · have hL : L = [] := by rw [HPL.out, got_ne hE0]
        subst hL
        rw [errV_zero]
        have HP3 := Lib.hid (HP.out.below' HB6.out)
        clear HPL hE
        go_wp2_with fail
        refine HDE.out.mono ?_
        rintro e w4 ⟨A8, c8, rfl, ho, hb⟩
        have HP4 := Lib.hid (HP3.out.below' hb)
        have HB8 := Lib.hid (below_on HB6.out hb)
        rw [errV_ne hE0]
        clear ho hb c0 c1 HP HP3
        go_wp2_with fail
        go_ret2
        exact ⟨none, 0, by rw [errV_ne hE0]; rfl, own_nil _ _ _, fun _ => HP4.out, fun h => absurd h hE0, .of_below HB8.out⟩
    · have hE : E = E1 := by rw [HPE.out, if_pos hE1]
      have hL : L = [] := by rw [HPL.out, hE, got_ne hE1]
      subst hL
      have HP3 := Lib.hid (HP.out.below' HB6.out)
      subst hE
      rw [errV_ne hE1]
      clear HPE HPL HSM HUN
      go_wp2_with fail
      go_ret2
      exact ⟨none, 0, by rw [errV_ne hE1]; rfl, own_nil _ _ _, fun _ => HP3.out, fun h => absurd h hE1, .of_below HB6.out⟩
/-- Rows of two types never share a block. -/
theorem rows_differ {w : World} {b1 b2 s1 s2 n k : Nat} {e1 e2 : TypeId} {v u : Value} {xs ys : List Value} (h1 : w.ownsRow b1 e1 s1 v n xs) (h2 : w.ownsRow b2 e2 s2 u k ys) (he : ¬ e1 = e2) : ∀ q, v.ownBlock = some q → u.ownBlock ≠ some q := by
  intro q hq
  rcases h1.2 with ⟨a1, _⟩ | ⟨g, cap, cur, rfl, _, hh, _⟩
  · rw [a1] at hq; simp [Value.ownBlock] at hq
  · have : g = q := by simpa [Value.ownBlock] using hq
    subst this
    exact row_type h2 hh he
section
variable {W w' : World} {bq bp X Y ns cs ms ds n c : Nat} {As Bs A : Option Addr} {s t : List Int} {bits many lost bits2 many2 lost2 : Int} {ps : List Ph.Part}
/-- A player that has played nothing stays as it is while another one turns. -/
theorem PlayerAt.apart (hq : PlayerAt W bq Y Bs ms ds t bits2 many2 none 0 0 [] lost2) (hp : PlayerAt W bp X As ns cs s bits many A n c ps lost) (hne : Y ≠ X) (hk : KeptBut (ownBlocks X A n c) W w') : PlayerAt w' bq Y Bs ms ds t bits2 many2 none 0 0 [] lost2 := by
  obtain ⟨vs, a1, a2, a3⟩ := hp.2.2.2
  refine ⟨hq.1, ?_, hk.row hq.2.2.1 ?_, OwnPV.nil _ _⟩
  · refine (hk.block Y hq.lt ?_).trans hq.2.1
    rintro (h | h)
    · exact hne h
    · exact row_type a1 hq.2.1 (by decide) h
  · intro k h
    rintro (h2 | h2)
    · subst h2
      exact row_type hq.2.2.1 hp.2.1 (by decide) h
    · exact rows_differ a1 hq.2.2.1 (by decide) k h2 h
theorem KeptBut.belowP {B : Nat} (h : KeptBut (ownBlocks X A n c) W w') (hp : PlayerAt W bp X As ns cs s bits many A n c ps lost) (hb : B ≤ bp) (hB : B ≤ W.heap.size) : Below B W w' := by
  obtain ⟨vs, a1, a2, a3⟩ := hp.2.2.2
  refine h.below hB ?_
  rintro k (rfl | hk)
  · exact Nat.le_trans hb hp.1
  · exact Nat.le_trans hb (a1.lt k hk).1
end
/-- What a frame has that is read: numbers as many as its bands. -/
theorem unpL_many {b : List Nat} {s : List Int} {bits : Int} (hlt : ∀ x ∈ b, x < 256) (h : unpE b s bits = 0) : (Ph.manyOf (unpL b s bits) : Int) = Ph.total s := by
  have hf := Ph.frameErr_zero.1 (unpL_small hlt h).1
  have key : ∀ p : List Ph.Part, (Ph.manyOf p : Int) = Ph.total (p.map (fun x => (x.pulses.length : Int))) := by
    intro p
    unfold Ph.manyOf
    induction p with
    | nil => rfl
    | cons x p ih => simp only [List.map_cons, List.sum_cons, Ph.total]; omega
  rw [key, hf.2.1]
end Go.Proofs.Ytapjnfhbjmeniaa
