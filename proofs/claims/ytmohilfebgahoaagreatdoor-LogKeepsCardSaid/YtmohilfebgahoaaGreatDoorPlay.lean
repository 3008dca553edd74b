/- Walks: a frame that is played (chapter 18). -/
import Derived.Test.YtmohilfebgahoaaGreatDoorUnpack
import Derived.Test.YtmohilfebgahoaaGreatDoorHide
namespace Go.Proofs.YtmohilfebgahoaaGreatDoor
open Go.RowKit

/-- What is wrong with a frame that is played. -/
def playE (b : List Nat) (s : List Int) (bits : Int) : Int := if unpE b s bits ≠ 0 then unpE b s bits else Ph.decErr (unpL b s bits)
/-- .. and what is told. -/
def playL (b : List Nat) (s : List Int) (bits : Int) : List Int := got (playE b s bits) (Ph.lapI (Ph.decAll (unpL b s bits)))
/-- What it played last turns. -/
theorem PlayerAt.setLast {w : World} {base X ns cs n c n2 c2 : Nat} {As A A2 : Option Addr} {sizes : List Int} {bits many lost : Int} {ps qs : List Ph.Part} (h : PlayerAt w base X As ns cs sizes bits many A n c ps lost) (hq : OwnPV w base A2 n2 c2 qs) : PlayerAt (w.setCell ⟨X, 3, none⟩ (.slice A2 n2 c2)) base X As ns cs sizes bits many A2 n2 c2 qs lost := by
  have hg : w.grownBy (w.setCell ⟨X, 3, none⟩ (.slice A2 n2 c2)) (some X) := ⟨rfl, rfl, rfl, by simp, fun k _ hk => heap_setCell_other w ⟨X, 3, none⟩ k _ (fun e => hk (by simp [e]))⟩
  refine ⟨h.1, ?_, h.2.2.1.kept hg (.inr (row_type h.2.2.1 h.2.1 (by decide))), hq.kept hg h.2.1 (by decide) (by decide)⟩
  rw [heap_setCell_same w X 3 _ _ _ h.2.1]; rfl
/-- What becomes of a player, and what is told, where a frame is played. -/
def PlayP (W : World) (base X : Nat) (As : Option Addr) (ns cs : Nat) (s : List Int) (bits many : Int) (A : Option Addr) (n c : Nat) (ps : List Ph.Part) (lost E : Int) (L : List Int) (U : List Ph.Part) (e : Ending) (w' : World) : Prop :=
  ∃ A' c', e = .returned (.tuple #[.slice A' L.length c', errV E]) ∧ w'.ownsRow W.heap.size 3 1 (.slice A' L.length c') L.length (ivals L) ∧ (E ≠ 0 → PlayerAt w' base X As ns cs s bits many A n c ps lost) ∧ (E = 0 → ∃ A2 n2 c2, PlayerAt w' base X As ns cs s bits many A2 n2 c2 U 0) ∧ KeptBut (fun k => k = X) W w'
/-- The same, and that its parts are new. -/
def PlayO (W : World) (base X : Nat) (As : Option Addr) (ns cs : Nat) (s : List Int) (bits many : Int) (A : Option Addr) (n c : Nat) (ps : List Ph.Part) (lost E : Int) (L : List Int) (U : List Ph.Part) (e : Ending) (w' : World) : Prop :=
  ∃ A' c', e = .returned (.tuple #[.slice A' L.length c', errV E]) ∧ w'.ownsRow W.heap.size 3 1 (.slice A' L.length c') L.length (ivals L) ∧ (E ≠ 0 → PlayerAt w' base X As ns cs s bits many A n c ps lost) ∧ (E = 0 → ∃ A2 n2 c2, PlayerAt w' base X As ns cs s bits many A2 n2 c2 U 0 ∧ ∀ q, (Value.slice A2 n2 c2).ownBlock = some q → W.heap.size ≤ q) ∧ KeptBut (fun k => k = X) W w'
theorem OwnPV.fresh {w : World} {b n c : Nat} {A : Option Addr} {ps : List Ph.Part} (h : OwnPV w b A n c ps) : ∀ q, (Value.slice A n c).ownBlock = some q → b ≤ q := by
  obtain ⟨vs, h1, h2, h3⟩ := h
  exact fun q hq => (h1.lt q hq).1
set_option maxHeartbeats 4000000 in
set_option maxRecDepth 100000 in
theorem play_own (W : World) (base X : Nat) (As : Option Addr) (ns cs : Nat) (s : List Int) (bits many : Int) (A : Option Addr) (n c : Nat) (ps : List Ph.Part) (lost : Int) (b : ByteArray) (hP : PlayerAt W base X As ns cs s bits many A n c ps lost) (hbs : base ≤ W.heap.size) (hs : b.size ≤ 140737488351232) (hns : ns ≤ 100000000000000) :
    Calls Tryz.prog 23 #[.pointer (some ⟨X, 0, none⟩), .string b] W (PlayO W base X As ns cs s bits many A n c ps lost (playE (bytesOf b) s bits) (playL (bytesOf b) s bits) (unpL (bytesOf b) s bits)) := by
  have HP := Lib.hid hP
  obtain ⟨c0, c1, c2, c3, c4⟩ := hP.cells
  have HUN := Lib.hid fun W' (hW : PlayerAt W' base X As ns cs s bits many A n c ps lost) => unpack_any b As ns cs s bits W' W'.heap.size (RdI.own hW.2.2.1) (Nat.le_refl _) hns hs
  have hsm := fun h => unpL_small (b := bytesOf b) (s := s) (bits := bits) (bytesOf_lt b) h
  have hpe : playE (bytesOf b) s bits = if unpE (bytesOf b) s bits ≠ 0 then unpE (bytesOf b) s bits else Ph.decErr (unpL (bytesOf b) s bits) := rfl
  have hpl : playL (bytesOf b) s bits = got (playE (bytesOf b) s bits) (Ph.lapI (Ph.decAll (unpL (bytesOf b) s bits))) := rfl
  obtain ⟨E1, hE1⟩ : ∃ E, E = unpE (bytesOf b) s bits := ⟨_, rfl⟩
  obtain ⟨U, hU⟩ : ∃ E, E = unpL (bytesOf b) s bits := ⟨_, rfl⟩
  rw [← hE1] at hsm hpe HUN
  rw [← hU] at hsm hpe hpl HUN
  obtain ⟨E, hE⟩ : ∃ E, E = playE (bytesOf b) s bits := ⟨_, rfl⟩
  obtain ⟨L, hL⟩ : ∃ E, E = playL (bytesOf b) s bits := ⟨_, rfl⟩
  rw [← hE] at hpe hpl ⊢
  rw [← hL] at hpl ⊢
  try rw [← hU]
  have HSM := Lib.hid hsm
  have HPE := Lib.hid hpe
  have HPL := Lib.hid hpl
  clear hP c2 c3 c4 hsm hpe hpl hE1 hU hE hL
  go_enter Tryz.func23, Tryz.ntmps23
  go_upto_region 1 with (fail)
  go_cut [6, 7] (fun s6 s7 wx => ∃ A6 n6 c6, s6 = .slice A6 n6 c6 ∧ s7 = errV E1 ∧ Hid (OwnPV wx W.heap.size A6 n6 c6 U) ∧ Hid (Below W.heap.size W wx))
  case first =>
    go_region_with (go_at_call 27; refine (HUN.out _ (HP.out.drewN 1)).mono ?_; rintro e w3 ⟨A6, n6, c6, rfl, ho3, hb3⟩)
    all_goals go_wp2_with fail
    all_goals go_meet
    all_goals exact ⟨A6, n6, c6, rfl, rfl, Lib.hid ho3, Lib.hid ⟨hb3.os, hb3.tape, hb3.output, hb3.size, hb3.block⟩⟩
  case rest =>
    obtain ⟨A6, n6, c6, rfl, rfl, HU6, HB6⟩ := hcut
    rename World => w3
    by_cases hE1 : E1 = 0
    · have hsm := HSM.out hE1
      have hE : E = Ph.decErr U := by rw [HPE.out, if_neg (by omega)]
      have HDE := Lib.hid (decode_any A6 n6 c6 U w3 w3.heap.size HU6.out.rd (Nat.le_refl _) (by have := HU6.out.len; omega) (fun p hp => by have := (hsm.2.2 p hp).2; omega))
      rw [← hE] at HDE
      rw [← HPL.out] at HDE
      subst hE1
      clear HPE HSM hsm HUN
      by_cases hE0 : E = 0
      · have HP3 := Lib.hid (HP.out.below' HB6.out)
        rw [errV_zero]
        subst hE0
        clear HPL hE
        go_wp2_with fail
        refine HDE.out.mono ?_
        rintro e w4 ⟨A8, c8, rfl, ho, hb⟩
        have HO8 := Lib.hid ho
        have HP4 := Lib.hid (HP3.out.below' hb)
        have HU8 := Lib.hid ((HU6.out.more hbs).below' hb)
        have HB8 := Lib.hid (below_on HB6.out hb)
        have f3 := HP4.out.frozen 3
        have f4 := HP4.out.frozen 4
        have x3 := HP4.out.cells.2.2.2.1
        have x4 := HP4.out.cells.2.2.2.2
        rw [errV_zero]
        clear ho hb c0 c1 HP HP3
        go_wp2_with fail
        go_ret2
        have h1 := HP4.out.setLast HU8.out
        have h2 := h1.setLost 0
        refine ⟨A8, c8, by rw [errV_zero]; rfl, ?_, fun h => absurd rfl h, fun _ => ⟨A6, n6, c6, h2, HU6.out.fresh⟩, ((KeptBut.of_below (S := fun k => k = X) HB8.out).setCell (p := ⟨X, 3, none⟩) rfl _).setCell (p := ⟨X, 4, none⟩) rfl _⟩
        have hr := HO8.out
        have g1 : w4.grownBy (w4.setCell ⟨X, 3, none⟩ (.slice A6 n6 c6)) (some X) := ⟨rfl, rfl, rfl, by simp, fun k _ hk => heap_setCell_other w4 ⟨X, 3, none⟩ k _ (fun e => hk (by simp [e]))⟩
        have hr1 := hr.kept g1 (.inr (row_type hr HP4.out.2.1 (by decide)))
        have g2 : (w4.setCell ⟨X, 3, none⟩ (.slice A6 n6 c6)).grownBy ((w4.setCell ⟨X, 3, none⟩ (.slice A6 n6 c6)).setCell ⟨X, 4, none⟩ (.int .i64 0)) (some X) := ⟨rfl, rfl, rfl, by simp, fun k _ hk => heap_setCell_other _ ⟨X, 4, none⟩ k _ (fun e => hk (by simp [e]))⟩
        exact own_more (hr1.kept g2 (.inr (row_type hr1 h1.2.1 (by decide)))) HB6.out.size
      · have hL : L = [] := by rw [HPL.out, got_ne hE0]
        subst hL
        rw [errV_zero]
        have HP3 := Lib.hid (HP.out.below' HB6.out)
        clear HPL hE
        go_wp2_with fail
        refine HDE.out.mono ?_
        rintro e w4 ⟨A8, c8, rfl, ho, hb⟩
        have HP4 := Lib.hid (HP3.out.below' hb)
        have HB8 := Lib.hid (below_on HB6.out hb)
        rw [errV_ne hE0]
        clear ho hb c0 c1 HP HP3
        go_wp2_with fail
        go_ret2
        exact ⟨none, 0, by rw [errV_ne hE0]; rfl, own_nil _ _ _, fun _ => HP4.out, fun h => absurd h hE0, .of_below HB8.out⟩
    · have hE : E = E1 := by rw [HPE.out, if_pos hE1]
      have hL : L = [] := by rw [HPL.out, hE, got_ne hE1]
      subst hL
      have HP3 := Lib.hid (HP.out.below' HB6.out)
      subst hE
      rw [errV_ne hE1]
      clear HPE HPL HSM HUN
      go_wp2_with fail
      go_ret2
      exact ⟨none, 0, by rw [errV_ne hE1]; rfl, own_nil _ _ _, fun _ => HP3.out, fun h => absurd h hE1, .of_below HB6.out⟩
theorem play_any (W : World) (base X : Nat) (As : Option Addr) (ns cs : Nat) (s : List Int) (bits many : Int) (A : Option Addr) (n c : Nat) (ps : List Ph.Part) (lost : Int) (b : ByteArray) (hP : PlayerAt W base X As ns cs s bits many A n c ps lost) (hbs : base ≤ W.heap.size) (hs : b.size ≤ 140737488351232) (hns : ns ≤ 100000000000000) :
    Calls Tryz.prog 23 #[.pointer (some ⟨X, 0, none⟩), .string b] W (PlayP W base X As ns cs s bits many A n c ps lost (playE (bytesOf b) s bits) (playL (bytesOf b) s bits) (unpL (bytesOf b) s bits)) := by
  refine (play_own W base X As ns cs s bits many A n c ps lost b hP hbs hs hns).mono ?_
  rintro e w' ⟨A', c', h1, h2, h3, h4, h5⟩
  exact ⟨A', c', h1, h2, h3, fun h => by obtain ⟨A2, n2, c2, h6, _⟩ := h4 h; exact ⟨A2, n2, c2, h6⟩, h5⟩
/-- Rows of two types never share a block. -/
theorem rows_differ {w : World} {b1 b2 s1 s2 n k : Nat} {e1 e2 : TypeId} {v u : Value} {xs ys : List Value} (h1 : w.ownsRow b1 e1 s1 v n xs) (h2 : w.ownsRow b2 e2 s2 u k ys) (he : ¬ e1 = e2) : ∀ q, v.ownBlock = some q → u.ownBlock ≠ some q := by
  intro q hq
  rcases h1.2 with ⟨a1, _⟩ | ⟨g, cap, cur, rfl, _, hh, _⟩
  · rw [a1] at hq; simp [Value.ownBlock] at hq
  · have : g = q := by simpa [Value.ownBlock] using hq
    subst this
    exact row_type h2 hh he
section
variable {W w' : World} {bq bp X Y ns cs ms ds n c : Nat} {As Bs A : Option Addr} {s t : List Int} {bits many lost bits2 many2 lost2 : Int} {ps : List Ph.Part}
/-- A player that has played nothing stays as it is while another one turns. -/
theorem PlayerAt.apart (hq : PlayerAt W bq Y Bs ms ds t bits2 many2 none 0 0 [] lost2) (hp : PlayerAt W bp X As ns cs s bits many A n c ps lost) (hne : Y ≠ X) (hk : KeptBut (ownBlocks X A n c) W w') : PlayerAt w' bq Y Bs ms ds t bits2 many2 none 0 0 [] lost2 := by
  obtain ⟨vs, a1, a2, a3⟩ := hp.2.2.2
  refine ⟨hq.1, ?_, hk.row hq.2.2.1 ?_, OwnPV.nil _ _⟩
  · refine (hk.block Y hq.lt ?_).trans hq.2.1
    rintro (h | h)
    · exact hne h
    · exact row_type a1 hq.2.1 (by decide) h
  · intro k h
    rintro (h2 | h2)
    · subst h2
      exact row_type hq.2.2.1 hp.2.1 (by decide) h
    · exact rows_differ a1 hq.2.2.1 (by decide) k h2 h
theorem KeptBut.belowP {B : Nat} (h : KeptBut (ownBlocks X A n c) W w') (hp : PlayerAt W bp X As ns cs s bits many A n c ps lost) (hb : B ≤ bp) (hB : B ≤ W.heap.size) : Below B W w' := by
  obtain ⟨vs, a1, a2, a3⟩ := hp.2.2.2
  refine h.below hB ?_
  rintro k (rfl | hk)
  · exact Nat.le_trans hb hp.1
  · exact Nat.le_trans hb (a1.lt k hk).1
end
end Go.Proofs.YtmohilfebgahoaaGreatDoor
