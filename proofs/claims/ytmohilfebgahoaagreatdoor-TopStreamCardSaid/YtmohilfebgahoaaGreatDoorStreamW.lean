/- What the law TopStream keeps beside its log: a player, a tank, and the frames; each step's law, with no program in sight. -/
import Derived.Test.YtmohilfebgahoaaGreatDoorStreamLog
import Derived.Test.YtmohilfebgahoaaGreatDoorStream
import Derived.Test.YtmohilfebgahoaaGreatDoorPlay
import Derived.Test.YtmohilfebgahoaaGreatDoorTank
namespace Go.Proofs.YtmohilfebgahoaaGreatDoor
open Go.RowKit

section
variable {T : TypeId → Prop} {w w' : World}
theorem KeepT.log {base X ns cs na ca : Nat} {As Aa : Option Addr} {s : List Int} {bits : Int} {S : LogS} (h : KeepT T w w') (h1 : T 64) (h2 : T 3) (h3 : T 9) (hl : LogAt w base X As ns cs s bits Aa na ca S) : LogAt w' base X As ns cs s bits Aa na ca S :=
  ⟨hl.1, h X _ _ _ hl.2.1 h1, h.own h2 hl.2.2.1, h.own h3 hl.2.2.2⟩
theorem KeepT.player {base X ns cs n c : Nat} {As A : Option Addr} {s : List Int} {bits many lost : Int} {ps : List Ph.Part} (h : KeepT T w w') (h1 : T 88) (h2 : T 3) (h3 : T 78) (hl : PlayerAt w base X As ns cs s bits many A n c ps lost) : PlayerAt w' base X As ns cs s bits many A n c ps lost :=
  ⟨hl.1, h X _ _ _ hl.2.1 h1, h.own h2 hl.2.2.1, h.ownPV h3 h2 hl.2.2.2⟩
theorem LogAt.more {base b X ns cs na ca : Nat} {As Aa : Option Addr} {s : List Int} {bits : Int} {S : LogS} (hl : LogAt w base X As ns cs s bits Aa na ca S) (hb : b ≤ base) : LogAt w b X As ns cs s bits Aa na ca S :=
  ⟨Nat.le_trans hb hl.1, hl.2.1, own_more hl.2.2.1 hb, own_more hl.2.2.2 hb⟩
theorem PlayerAt.more {base b X ns cs n c : Nat} {As A : Option Addr} {s : List Int} {bits many lost : Int} {ps : List Ph.Part} (hl : PlayerAt w base X As ns cs s bits many A n c ps lost) (hb : b ≤ base) : PlayerAt w b X As ns cs s bits many A n c ps lost :=
  ⟨Nat.le_trans hb hl.1, hl.2.1, own_more hl.2.2.1 hb, hl.2.2.2.more hb⟩
end
/-- A tank that is as large as what comes at each turn. -/
def TankAt (w : World) (k : Nat) (m has : Int) : Prop := w.heap[k]? = some (.cells #[.int .i64 m, .int .i64 m, .int .i64 has] 49 (0, 0))
/-- The log, the player, the tank, the frames. -/
structure StreamX (w : World) (b X Y K : Nat) (As Ys : Option Addr) (ns cs ys : Nat) (s : List Int) (bits m : Int) (Aa : Option Addr) (na ca : Nat) (S : LogS) (has : Int) (fA : Option Addr) (fn fc : Nat) (vs : List Value) (qs pss : List (List Ph.Part)) : Prop where
  log : LogAt w b X As ns cs s bits Aa na ca S
  str : StreamS s bits qs S
  pl : PlayerAt w b Y Ys ns ys s bits (Ph.total s) none 0 0 [] 0
  tk : TankAt w K m has
  kb : b ≤ K
  ok : 0 ≤ has ∧ has ≤ m
  row : w.ownsRow b 36 1 (.slice fA fn fc) fn vs
  frs : FramesV w b vs pss
  len : fn = pss.length
  bw : b ≤ w.heap.size
section
variable {w0 w w' : World} {b X Y K ns cs ys na ca fn fc : Nat} {As Ys Aa fA : Option Addr} {s : List Int} {bits m has : Int} {S : LogS} {vs : List Value} {qs pss : List (List Ph.Part)}
theorem StreamX.keep {T : TypeId → Prop} (h : StreamX w b X Y K As Ys ns cs ys s bits m Aa na ca S has fA fn fc vs qs pss) (hk : KeepT T w w') (hw : w.heap.size ≤ w'.heap.size)
    (h1 : T 64) (h2 : T 3) (h3 : T 9) (h4 : T 88) (h5 : T 78) (h6 : T 49) (h7 : T 36) : StreamX w' b X Y K As Ys ns cs ys s bits m Aa na ca S has fA fn fc vs qs pss :=
  ⟨hk.log h1 h2 h3 h.log, h.str, hk.player h4 h2 h5 h.pl, hk K _ _ _ h.tk h6, h.kb, h.ok, hk.own h7 h.row, h.frs.keep hk h5 h2, h.len, Nat.le_trans h.bw hw⟩
theorem StreamX.below' (h : StreamX w b X Y K As Ys ns cs ys s bits m Aa na ca S has fA fn fc vs qs pss) (hb : Below w.heap.size w w') : StreamX w' b X Y K As Ys ns cs ys s bits m Aa na ca S has fA fn fc vs qs pss :=
  h.keep (T := fun _ => True) (.below hb) hb.size trivial trivial trivial trivial trivial trivial trivial
/-- A log is put into, or made safe, or crashes. -/
theorem StreamX.logged {A' : Option Addr} {n' c' : Nat} {S' : LogS} {rs : List (List Ph.Part)} (h : StreamX w b X Y K As Ys ns cs ys s bits m Aa na ca S has fA fn fc vs qs pss) (hl : LogAt w' b X As ns cs s bits A' n' c' S') (hk : KeptBut (logBlocks X Aa na ca) w w') (hs : StreamS s bits rs S') :
    StreamX w' b X Y K As Ys ns cs ys s bits m A' n' c' S' has fA fn fc vs rs pss := by
  have hT : KeepT (fun t => t ≠ 64 ∧ t ≠ 9) w w' := .kept hk fun k cs t fr hS hh hn => by
    rcases hS with rfl | hS
    · rw [h.log.2.1] at hh
      injection hh with hh
      injection hh with _ h2 _
      exact hn.1 h2.symm
    · exact hn.2 (own_typed h.log.2.2.2 hS hh)
  exact ⟨hl, hs, hT.player (by decide) (by decide) (by decide) h.pl, hT K _ _ _ h.tk (by decide), h.kb, h.ok, hT.own (by decide) h.row, h.frs.keep hT (by decide) (by decide), h.len, Nat.le_trans h.bw hk.size⟩
theorem StreamX.logged_below (h : StreamX w b X Y K As Ys ns cs ys s bits m Aa na ca S has fA fn fc vs qs pss) (hk : KeptBut (logBlocks X Aa na ca) w w') {B : Nat} (hB : B ≤ b) (hb : Below B w0 w) : Below B w0 w' :=
  hb.trans (h.log.belowL hk hB (Nat.le_trans hB h.bw))
theorem logged_part {A : Option Addr} {n c : Nat} {p : List Ph.Part} (h : StreamX w b X Y K As Ys ns cs ys s bits m Aa na ca S has fA fn fc vs qs pss) (hk : KeptBut (logBlocks X Aa na ca) w w') (hp : OwnPV w b A n c p) : OwnPV w' b A n c p := by
  have hT : KeepT (fun t => t ≠ 64 ∧ t ≠ 9) w w' := .kept hk fun k cs t fr hS hh hn => by
    rcases hS with rfl | hS
    · rw [h.log.2.1] at hh
      injection hh with hh
      injection hh with _ h2 _
      exact hn.1 h2.symm
    · exact hn.2 (own_typed h.log.2.2.2 hS hh)
  exact hT.ownPV (by decide) (by decide) hp
/-- The tank turns. -/
theorem StreamX.turned (h : StreamX w b X Y K As Ys ns cs ys s bits m Aa na ca S has fA fn fc vs qs pss) {h2 : Int} (ho : 0 ≤ h2 ∧ h2 ≤ m) (hk : KeptBut (fun k => k = K) w w') (ht : TankAt w' K m h2) :
    StreamX w' b X Y K As Ys ns cs ys s bits m Aa na ca S h2 fA fn fc vs qs pss := by
  have hT : KeepT (fun t => t ≠ 49) w w' := .kept hk fun k cs t fr hS hh hn => by
    subst hS
    have := h.tk
    unfold TankAt at this
    rw [this] at hh
    injection hh with hh
    injection hh with _ h2 _
    exact hn h2.symm
  exact ⟨hT.log (by decide) (by decide) (by decide) h.log, h.str, hT.player (by decide) (by decide) (by decide) h.pl, ht, h.kb, ho, hT.own (by decide) h.row, h.frs.keep hT (by decide) (by decide), h.len, Nat.le_trans h.bw hk.size⟩
theorem turned_part {A : Option Addr} {n c : Nat} {p : List Ph.Part} (h : StreamX w b X Y K As Ys ns cs ys s bits m Aa na ca S has fA fn fc vs qs pss) (hk : KeptBut (fun k => k = K) w w') (hp : OwnPV w b A n c p) : OwnPV w' b A n c p := by
  have hT : KeepT (fun t => t ≠ 49) w w' := .kept hk fun k cs t fr hS hh hn => by
    subst hS
    have := h.tk
    unfold TankAt at this
    rw [this] at hh
    injection hh with hh
    injection hh with _ h2 _
    exact hn h2.symm
  exact hT.ownPV (by decide) (by decide) hp
/-- A frame is kept. -/
theorem StreamX.pushed {o : Obj} {A : Option Addr} {n c g cap : Nat} {p : List Ph.Part} (h : StreamX w b X Y K As Ys ns cs ys s bits m Aa na ca S has fA fn fc vs qs pss) (hp : OwnPV w b A n c p)
    (ho : w'.ownsRow b 36 1 (.slice (some ⟨g, 0, none⟩) (fn + 1) cap) (fn + 1) (vs ++ [.slice A n c])) (hg : (w.alloc o).grownBy w' (Value.slice fA fn fc).ownBlock) :
    StreamX w' b X Y K As Ys ns cs ys s bits m Aa na ca S has (some ⟨g, 0, none⟩) (fn + 1) cap (vs ++ [.slice A n c]) qs (pss ++ [p]) := by
  have hT : KeepT (fun t => t ≠ 36) w w' := .grown hg fun k cs t fr hS hh hn => hn (own_typed h.row hS hh)
  exact ⟨hT.log (by decide) (by decide) (by decide) h.log, h.str, hT.player (by decide) (by decide) (by decide) h.pl, hT K _ _ _ h.tk (by decide), h.kb, h.ok, ho, (h.frs.keep hT (by decide) (by decide)).snoc (hT.ownPV (by decide) (by decide) hp), by rw [List.length_append, List.length_singleton, h.len],
    Nat.le_trans h.bw (Nat.le_trans (by simp) hg.size)⟩
theorem StreamX.pushed_below {o : Obj} (h : StreamX w b X Y K As Ys ns cs ys s bits m Aa na ca S has fA fn fc vs qs pss) (hg : (w.alloc o).grownBy w' (Value.slice fA fn fc).ownBlock) {B : Nat} (hB : B ≤ b) (hb : Below B w0 w) (hBw : B ≤ w.heap.size) : Below B w0 w' :=
  (hb.alloc hBw _).grown hg (by simp; omega) fun q hq => Nat.le_trans hB (h.row.lt q hq).1
/-- The tank's law: what is told at most is always there. -/
theorem stream_turn {n : Int} (h : 0 ≤ has ∧ has ≤ m) (hm : 0 ≤ m ∧ m ≤ 1000) (hn : 0 ≤ n ∧ n ≤ m) : Ph.turnErr ⟨m, m, has⟩ n = 0 ∧ Ph.full ⟨m, m, has⟩ - n = m - n ∧ 0 ≤ m - n ∧ m - n ≤ m := by
  have hf : Ph.full ⟨m, m, has⟩ = m := by unfold Ph.full; simp only; split <;> omega
  refine ⟨?_, by rw [hf], by omega, by omega⟩
  unfold Ph.turnErr
  rw [if_neg (by rw [Ph.tankErr_zero.2 ⟨by simp only; omega, by simp only; omega, by simp only; omega, by simp only; omega, h.1, h.2⟩]; omega), if_neg (by omega), if_neg (by rw [hf]; omega)]
theorem longN_bd (h : longErr s bits = 0) : 1 ≤ longN s bits ∧ longN s bits ≤ 1000 := by
  unfold longN
  rw [if_pos h]
  unfold longErr at h
  split at h
  · omega
  · rename_i hb
    have hz := Ph.bandErr_zero.1 (Decidable.of_not_not hb)
    have := hz.2.1
    split at h
    · omega
    · split at h
      · omega
      · omega
/-- What was packed is played as its frame is. -/
theorem stream_play {p : List Ph.Part} (h : Ph.packErr p s bits = 0) : playE (bytesOf (packS p s bits)) s bits = Ph.decErr p ∧ playL (bytesOf (packS p s bits)) s bits = got (Ph.decErr p) (Ph.lapI (Ph.decAll p)) := by
  obtain ⟨h1, h2⟩ := pack_unp h
  have e : playE (bytesOf (packS p s bits)) s bits = Ph.decErr p := by unfold playE; rw [if_neg (by omega), h2]
  exact ⟨e, by unfold playL; rw [e, h2]⟩
end
theorem dec_few (p : List Ph.Part) : (got (Ph.decErr p) (Ph.lapI (Ph.decAll p))).length ≤ 100000 := by
  by_cases h : Ph.decErr p = 0
  · rw [h, got_zero, Ph.lapI_length, Ph.decAll_length]
    unfold Ph.decErr at h
    split at h
    · omega
    · split at h
      · omega
      · omega
  · rw [got_ne h]; simp
theorem TankAt.cells {w : World} {k : Nat} {m has : Int} (h : TankAt w k m has) : (w.cell? ⟨k, 0, none⟩ = some (.int .i64 m) ∧ w.cell? ⟨k, 1, none⟩ = some (.int .i64 m) ∧ w.cell? ⟨k, 2, none⟩ = some (.int .i64 has)) ∧ (w.frozen? ⟨k, 0, none⟩ = false ∧ w.frozen? ⟨k, 1, none⟩ = false ∧ w.frozen? ⟨k, 2, none⟩ = false) :=
  ⟨⟨cell_of_row w k 0 _ _ (0, 0) h, cell_of_row w k 1 _ _ (0, 0) h, cell_of_row w k 2 _ _ (0, 0) h⟩, frozen_of_row w k 0 _ _ h, frozen_of_row w k 1 _ _ h, frozen_of_row w k 2 _ _ h⟩
theorem TankAt.set {w : World} {k : Nat} {m has : Int} (h : TankAt w k m has) (a b c : Int) : (((w.setCell ⟨k, 0, none⟩ (.int .i64 a)).setCell ⟨k, 1, none⟩ (.int .i64 b)).setCell ⟨k, 2, none⟩ (.int .i64 c)).heap[k]? = some (.cells #[.int .i64 a, .int .i64 b, .int .i64 c] 49 (0, 0)) := by
  rw [heap_setCell_same _ k 2 _ _ _ (heap_setCell_same _ k 1 _ _ _ (heap_setCell_same w k 0 _ _ _ h))]; rfl
theorem KeptBut.set3 (w : World) (k : Nat) (a b c : Value) : KeptBut (fun q => q = k) w (((w.setCell ⟨k, 0, none⟩ a).setCell ⟨k, 1, none⟩ b).setCell ⟨k, 2, none⟩ c) :=
  (((KeptBut.refl (fun q => q = k) w).setCell (p := ⟨k, 0, none⟩) rfl a).setCell (p := ⟨k, 1, none⟩) rfl b).setCell (p := ⟨k, 2, none⟩) rfl c
/-- The player, what comes to it, and the frames. -/
structure StreamY (w : World) (b Y : Nat) (Ys : Option Addr) (ns ys : Nat) (s : List Int) (bits : Int) (A5 : Option Addr) (n5 c5 : Nat) (fA : Option Addr) (fn fc : Nat) (vs : List Value) (pss : List (List Ph.Part)) : Prop where
  pl : ∃ A n c ps lost, PlayerAt w b Y Ys ns ys s bits (Ph.total s) A n c ps lost
  all : w.ownsRow b 9 1 (.slice A5 n5 c5) n5 (svals (pss.map fun p => packS p s bits))
  row : w.ownsRow b 36 1 (.slice fA fn fc) fn vs
  frs : FramesV w b vs pss
  bw : b ≤ w.heap.size
section
variable {w0 w w' : World} {b Y ns ys n5 c5 fn fc : Nat} {Ys A5 fA : Option Addr} {s : List Int} {bits : Int} {vs : List Value} {pss : List (List Ph.Part)}
theorem StreamY.below' (h : StreamY w b Y Ys ns ys s bits A5 n5 c5 fA fn fc vs pss) (hb : Below w.heap.size w w') : StreamY w' b Y Ys ns ys s bits A5 n5 c5 fA fn fc vs pss := by
  have hT : KeepT (fun _ => True) w w' := .below hb
  obtain ⟨A, n, c, ps, lost, hp⟩ := h.pl
  exact ⟨⟨A, n, c, ps, lost, hT.player trivial trivial trivial hp⟩, hT.own trivial h.all, hT.own trivial h.row, h.frs.keep hT trivial trivial, Nat.le_trans h.bw hb.size⟩
theorem StreamY.played (h : StreamY w b Y Ys ns ys s bits A5 n5 c5 fA fn fc vs pss) (hp : ∃ A n c ps lost, PlayerAt w' b Y Ys ns ys s bits (Ph.total s) A n c ps lost) (hk : KeptBut (fun k => k = Y) w w') : StreamY w' b Y Ys ns ys s bits A5 n5 c5 fA fn fc vs pss := by
  obtain ⟨A, n, c, ps, lost, hp0⟩ := h.pl
  have hT : KeepT (fun t => t ≠ 88) w w' := .kept hk fun k cs t fr hS hh hn => by
    subst hS
    rw [hp0.2.1] at hh
    injection hh with hh
    injection hh with _ h2 _
    exact hn h2.symm
  exact ⟨hp, hT.own (by decide) h.all, hT.own (by decide) h.row, h.frs.keep hT (by decide) (by decide), Nat.le_trans h.bw hk.size⟩
theorem StreamY.played_below (h : StreamY w b Y Ys ns ys s bits A5 n5 c5 fA fn fc vs pss) (hk : KeptBut (fun k => k = Y) w w') {B : Nat} (hB : B ≤ b) (hb : Below B w0 w) : Below B w0 w' := by
  obtain ⟨A, n, c, ps, lost, hp0⟩ := h.pl
  exact hb.trans (hk.below (Nat.le_trans hB h.bw) fun k hS => by subst hS; exact Nat.le_trans hB hp0.1)
end
/-- The same, whatever lies within. -/
def StreamW (w : World) (b X Y K : Nat) (As Ys : Option Addr) (ns cs ys : Nat) (s : List Int) (bits m : Int) (fA : Option Addr) (fn fc : Nat) (qs pss : List (List Ph.Part)) : Prop :=
  ∃ Aa na ca S has vs, StreamX w b X Y K As Ys ns cs ys s bits m Aa na ca S has fA fn fc vs qs pss
section
variable {w0 w w' : World} {b X Y K ns cs ys fn fc : Nat} {As Ys fA : Option Addr} {s : List Int} {bits m : Int} {qs pss : List (List Ph.Part)}
theorem StreamW.below' (h : StreamW w b X Y K As Ys ns cs ys s bits m fA fn fc qs pss) (hb : Below w.heap.size w w') : StreamW w' b X Y K As Ys ns cs ys s bits m fA fn fc qs pss := by
  obtain ⟨Aa, na, ca, S, has, vs, h⟩ := h
  exact ⟨Aa, na, ca, S, has, vs, h.below' hb⟩
theorem StreamW.bw (h : StreamW w b X Y K As Ys ns cs ys s bits m fA fn fc qs pss) : b ≤ w.heap.size := by
  obtain ⟨Aa, na, ca, S, has, vs, h⟩ := h
  exact h.bw
theorem StreamW.len (h : StreamW w b X Y K As Ys ns cs ys s bits m fA fn fc qs pss) : fn = pss.length := by
  obtain ⟨Aa, na, ca, S, has, vs, h⟩ := h
  exact h.len
/-- Parts of one's own stay. -/
def PartsStay (b : Nat) (w w' : World) : Prop := ∀ (A : Option Addr) (n c : Nat) (p : List Ph.Part), OwnPV w b A n c p → OwnPV w' b A n c p
theorem s_put {p : List Ph.Part} (h : StreamW w b X Y K As Ys ns cs ys s bits m fA fn fc qs pss) (hp : Ph.packErr p s bits = 0) (hq : qs.length < 20) (hns : ns ≤ 100000000000000) (htab : Lib.TabIs Tryz.prog w "internal/strconv.uint64pow10" .u64 Lib.pow10Tab) :
    Calls Tryz.prog 6 #[.pointer (some ⟨X, 0, none⟩), .string (packS p s bits)] w fun e w' => e = .returned .nilIface ∧ StreamW w' b X Y K As Ys ns cs ys s bits m fA fn fc (qs ++ [p]) pss ∧ PartsStay b w w' ∧ Below b w w' := by
  obtain ⟨Aa, na, ca, S, has, vs, h⟩ := h
  have hu := (pack_unp hp).1
  have hs := stream_put h.str hp hq
  have hz := h.str
  obtain ⟨_, _, _, z4, z5, _⟩ := hz
  refine (lput_own w b X As ns cs s bits Aa na ca S (packS p s bits) h.log h.bw ⟨by omega, by omega⟩ (pack_size hp) hns (by omega) htab).mono ?_
  rintro e w' ⟨A', n', c', rfl, hl, hk, _⟩
  rw [hu] at hl
  rw [hu, hs.1, errV_zero]
  exact ⟨rfl, ⟨A', n', c', _, has, vs, h.logged hl hk hs.2⟩, fun A n c q hq => logged_part h hk hq, h.log.belowL hk (Nat.le_refl _) h.bw⟩
theorem s_sync (h : StreamW w b X Y K As Ys ns cs ys s bits m fA fn fc qs pss) :
    Calls Tryz.prog 7 #[.pointer (some ⟨X, 0, none⟩)] w fun e w' => e = .returned .nilIface ∧ (∃ Aa na ca S has vs, S.safe = ((S.bytes.length : Nat) : Int) ∧ StreamX w' b X Y K As Ys ns cs ys s bits m Aa na ca S has fA fn fc vs qs pss) ∧ Below b w w' := by
  obtain ⟨Aa, na, ca, S, has, vs, h⟩ := h
  have hs := stream_sync h.str
  have hz := h.str
  obtain ⟨_, _, _, z4, z5, _⟩ := hz
  refine (lsync_any w b X As ns cs s bits Aa na ca S h.log ⟨by omega, by omega⟩).mono ?_
  rintro e w' ⟨rfl, hl, hk⟩
  have hk' : KeptBut (logBlocks X Aa na ca) w w' := hk.mono fun k _ h => .inl h
  rw [hs.1, errV_zero]
  exact ⟨rfl, ⟨Aa, na, ca, _, has, vs, hs.2.2, h.logged hl hk' hs.2.1⟩, h.log.belowL hk' (Nat.le_refl _) h.bw⟩
theorem s_crash {Aa : Option Addr} {na ca : Nat} {S : LogS} {has : Int} {vs : List Value} (keep : Int) (h : StreamX w b X Y K As Ys ns cs ys s bits m Aa na ca S has fA fn fc vs qs pss) (hs : S.safe = ((S.bytes.length : Nat) : Int)) (hq : qs.length ≤ 20) :
    Calls Tryz.prog 8 #[.pointer (some ⟨X, 0, none⟩), .int .i64 keep] w fun e w' => e = .returned (.tuple #[]) ∧ StreamW w' b X Y K As Ys ns cs ys s bits m fA fn fc qs pss ∧ Below b w w' := by
  have hz := h.str
  obtain ⟨z1, z2, z3, z4, z5, z6⟩ := hz
  have z2' := z2
  obtain ⟨⟨tail, t1, t2, t3⟩, t4, t5⟩ := z2
  have hlen := stream_len h.str
  have hna := h.log.len
  refine (lcrash_any w b X As ns cs s bits Aa na ca S keep (recsOf S.all) tail h.log t1 (by rw [recsOf_len]; exact hna) (recsOf_rec _) t2 ⟨t4, t5⟩ (by omega) (by omega)).mono ?_
  rintro e w' ⟨rfl, ⟨i, c', hi, m1, m2, hl⟩, hk⟩
  have hi' : i = qs.length := stream_crash h.str hs keep (by omega) fun j h1 h2 => m2 j h1 (by omega)
  have hk' : KeptBut (logBlocks X Aa na ca) w w' := hk.mono fun k _ h => .inl h
  have hall : (crashS S (recsOf S.all) i).all = S.all := by simp only [crashS]; exact List.take_of_length_le (by omega)
  have ht := t3 z3
  subst ht
  have hby : (crashS S (recsOf S.all) i).bytes = S.bytes := by simp only [crashS]; rw [List.take_of_length_le (by rw [recsOf_len]; omega), t1, List.append_nil]
  have hstr : StreamS s bits qs (crashS S (recsOf S.all) i) := ⟨hall.trans z1, ok_crash S i, rfl, rfl, by rw [hby]; exact z5, z6⟩
  exact ⟨rfl, ⟨Aa, i, c', _, has, vs, h.logged hl hk' hstr⟩, h.log.belowL hk' (Nat.le_refl _) h.bw⟩
theorem s_all (h : StreamW w b X Y K As Ys ns cs ys s bits m fA fn fc qs pss) (hq : qs.length ≤ 20) :
    Calls Tryz.prog 9 #[.pointer (some ⟨X, 0, none⟩)] w fun e w' => ∃ A5 n5 c5 vs, n5 = qs.length ∧ e = .returned (.slice A5 n5 c5) ∧ (qs = pss → StreamY w' b Y Ys ns ys s bits A5 n5 c5 fA fn fc vs pss) ∧ Below w.heap.size w w' := by
  obtain ⟨Aa, na, ca, S, has, vs, h⟩ := h
  have hlen := stream_len h.str
  have hna := h.log.len
  refine (lall_any w b X As ns cs s bits Aa na ca S h.log (by omega)).mono ?_
  rintro e w' ⟨A', c', rfl, ho, hb⟩
  refine ⟨A', na, c', vs, by omega, rfl, ?_, hb⟩
  rintro rfl
  have h2 := h.below' hb
  rw [h.str.1] at ho
  exact ⟨⟨none, 0, 0, [], 0, h2.pl⟩, own_more ho h.bw, h2.row, h2.frs, h2.bw⟩
end
section
variable {w0 w w' : World} {b Y ns ys n5 c5 fn fc : Nat} {Ys A5 fA : Option Addr} {s : List Int} {bits : Int} {vs : List Value} {pss : List (List Ph.Part)}
theorem s_play {p : List Ph.Part} (h : StreamY w b Y Ys ns ys s bits A5 n5 c5 fA fn fc vs pss) (hp : Ph.packErr p s bits = 0) (hns : ns ≤ 100000000000000) :
    Calls Tryz.prog 23 #[.pointer (some ⟨Y, 0, none⟩), .string (packS p s bits)] w fun e w' => ∃ A n c, e = .returned (.tuple #[.slice A n c, errV (Ph.decErr p)]) ∧ n ≤ 100000 ∧ RdI w' w'.heap.size A n (got (Ph.decErr p) (Ph.lapI (Ph.decAll p))) ∧ StreamY w' b Y Ys ns ys s bits A5 n5 c5 fA fn fc vs pss ∧ Below b w w' := by
  obtain ⟨A, n, c, ps, lost, hP⟩ := h.pl
  obtain ⟨e1, e2⟩ := stream_play hp
  refine (play_any w b Y Ys ns ys s bits (Ph.total s) A n c ps lost (packS p s bits) hP h.bw (pack_size hp) hns).mono ?_
  rintro e w' ⟨A', c', rfl, ho, p1, p2, hk⟩
  rw [e1] at p1 p2
  rw [e2] at ho
  rw [e1, e2]
  have hpl : ∃ A n c ps lost, PlayerAt w' b Y Ys ns ys s bits (Ph.total s) A n c ps lost := by
    by_cases hE : Ph.decErr p = 0
    · obtain ⟨A2, n2, c2, h2⟩ := p2 hE
      exact ⟨A2, n2, c2, _, 0, h2⟩
    · exact ⟨A, n, c, ps, lost, p1 hE⟩
  have hln : (got (Ph.decErr p) (Ph.lapI (Ph.decAll p))).length ≤ 100000 := dec_few p
  exact ⟨A', _, c', rfl, hln, RdI.own ho, h.played hpl hk, h.played_below hk (Nat.le_refl _) (.refl _ _)⟩
end
end Go.Proofs.YtmohilfebgahoaaGreatDoor
