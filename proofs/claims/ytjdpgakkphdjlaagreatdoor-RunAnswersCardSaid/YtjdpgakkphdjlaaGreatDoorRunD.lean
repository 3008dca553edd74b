/- Walks of a session (chapter 20): its tank (desk.turn), how loud a number is (run.loud). -/
import Derived.Test.YtjdpgakkphdjlaaGreatDoorRunJ
import Derived.Test.YtjdpgakkphdjlaaGreatDoorTank5
import Derived.Test.YtjdpgakkphdjlaaGreatDoorGain
namespace Go.Proofs.YtjdpgakkphdjlaaGreatDoor
open Go.RowKit

/-- A desk at block X that has a tank. -/
def DeskAt (w : World) (X : Nat) (t : Ph.Tank) : Prop := w.heap[X]? = some (.cells #[.int .i64 t.size, .int .i64 t.each, .int .i64 t.has] 35 (0, 0))
theorem DeskAt.lt {w : World} {X : Nat} {t : Ph.Tank} (h : DeskAt w X t) : X < w.heap.size := (Array.getElem?_eq_some_iff.1 h).1
theorem DeskAt.below {w w' : World} {X : Nat} {t : Ph.Tank} (h : DeskAt w X t) (hb : Below w.heap.size w w') : DeskAt w' X t := (hb.block X h.lt).trans h
theorem DeskAt.cells {w : World} {X : Nat} {t : Ph.Tank} (h : DeskAt w X t) : (w.cell? ⟨X, 0, none⟩ = some (.int .i64 t.size) ∧ w.cell? ⟨X, 1, none⟩ = some (.int .i64 t.each) ∧ w.cell? ⟨X, 2, none⟩ = some (.int .i64 t.has)) ∧ (w.frozen? ⟨X, 0, none⟩ = false ∧ w.frozen? ⟨X, 1, none⟩ = false ∧ w.frozen? ⟨X, 2, none⟩ = false) :=
  ⟨⟨cell_of_row w X 0 _ _ (0, 0) h, cell_of_row w X 1 _ _ (0, 0) h, cell_of_row w X 2 _ _ (0, 0) h⟩, frozen_of_row w X 0 _ _ h, frozen_of_row w X 1 _ _ h, frozen_of_row w X 2 _ _ h⟩
theorem DeskAt.set {w : World} {X : Nat} {t : Ph.Tank} (h : DeskAt w X t) (a b c : Int) : DeskAt (((w.setCell ⟨X, 0, none⟩ (.int .i64 a)).setCell ⟨X, 1, none⟩ (.int .i64 b)).setCell ⟨X, 2, none⟩ (.int .i64 c)) X ⟨a, b, c⟩ := by
  unfold DeskAt
  rw [heap_setCell_same _ X 2 _ _ _ (heap_setCell_same _ X 1 _ _ _ (heap_setCell_same w X 0 _ _ _ h))]; rfl
theorem KeptBut.set3 (w : World) (k : Nat) (a b c : Value) : KeptBut (fun q => q = k) w (((w.setCell ⟨k, 0, none⟩ a).setCell ⟨k, 1, none⟩ b).setCell ⟨k, 2, none⟩ c) :=
  (((KeptBut.refl (fun q => q = k) w).setCell (p := ⟨k, 0, none⟩) rfl a).setCell (p := ⟨k, 1, none⟩) rfl b).setCell (p := ⟨k, 2, none⟩) rfl c
/-- What a line tells: a text, and an error; the tank then. -/
def TextP (E : Int) (s : List UInt8) (X : Nat) (t : Ph.Tank) (w : World) (e : Ending) (w' : World) : Prop :=
  ∃ q, e = .returned (.tuple #[.string q, errV E]) ∧ (E = 0 → q = strL s) ∧ DeskAt w' X t ∧ KeptBut (fun k => k = X) w w'
/-- A tank that may be. -/
def TankOk (t : Ph.Tank) : Prop := (0 ≤ t.size ∧ t.size ≤ 1000000) ∧ (0 ≤ t.each ∧ t.each ≤ t.size) ∧ (0 ≤ t.has ∧ t.has ≤ t.size)
set_option maxHeartbeats 4000000 in
set_option maxRecDepth 100000 in
theorem dturn_ok (X : Nat) (t : Ph.Tank) (n : Int) (w : World) (hg : RunG w) (hX : DeskAt w X t) (hXg : gB ≤ X) (ht : TankOk t) (hn : 0 ≤ n ∧ n ≤ 1000000) (hf : n ≤ Ph.full t) :
    Calls Tryz.prog 50 #[.pointer (some ⟨X, 0, none⟩), .int .i64 n] w (TextP 0 (Lib.itoa (Ph.full t - n)) X (Ph.turned t n) w) := by
  obtain ⟨⟨c0, c1, c2⟩, _⟩ := hX.cells
  have hlt := hX.lt
  have HX := Lib.hid hX
  have HG := Lib.hid hg
  have hT := tturn_ok t.size t.each t.has n w ht.1 ht.2.1 ht.2.2 hn hf
  unfold tankV at hT
  obtain ⟨z, hz⟩ : ∃ z, z = Ph.full t - n := ⟨_, rfl⟩
  have hfe : Ph.full ⟨t.size, t.each, t.has⟩ - n = z := by rw [hz]
  rw [hfe] at hT
  have HT := Lib.hid hT
  have HTD : Hid (Ph.turned t n = ⟨t.size, t.each, z⟩) := Lib.hid (by unfold Ph.turned; rw [hz])
  have HZB : Hid (-9223372036854775808 ≤ z ∧ z ≤ 9223372036854775807) := Lib.hid (by
    have : Ph.full t ≤ 1000000 ∧ 0 ≤ Ph.full t := by unfold Ph.full; have := ht.1; have := ht.2.1; have := ht.2.2; split <;> omega
    omega)
  rw [HTD.out, ← hz]
  clear hX hg hT hfe ht hn hf hz
  obtain ⟨a, b, c⟩ := t
  simp only at c0 c1 c2 HT HTD HX ⊢
  go_enter Tryz.func50, Tryz.ntmps50
  go_wp2_with fail
  refine HT.out.mono ?_
  rintro e w1 ⟨rfl, hb1⟩
  have HX1 := Lib.hid (HX.out.below hb1)
  have HB1 := Lib.hid hb1
  have hX1 := HX1.out.lt
  obtain ⟨_, f0, f1, f2⟩ := HX1.out.cells
  have hk3 := KeptBut.set3 w1 X (.int .i64 a) (.int .i64 b) (.int .i64 z)
  obtain ⟨W3, hW3⟩ : ∃ W3, W3 = (((w1.setCell ⟨X, 0, none⟩ (.int .i64 a)).setCell ⟨X, 1, none⟩ (.int .i64 b)).setCell ⟨X, 2, none⟩ (.int .i64 z)) := ⟨_, rfl⟩
  have HD3 : Hid (DeskAt W3 X ⟨a, b, z⟩) := Lib.hid (by rw [hW3]; exact HX1.out.set a b z)
  have HK3 : Hid (KeptBut (fun k => k = X) w W3) := Lib.hid ((KeptBut.of_below HB1.out).trans (by rw [hW3]; exact hk3))
  have HG3 : Hid (RunG W3) := Lib.hid (HG.out.keptB HK3.out fun k hk => by subst hk; exact hXg)
  have hsz3 : W3.heap.size = w1.heap.size := by rw [hW3]; simp
  have HB5 := Lib.hid (below_on (below_alloc0 W3 (.cells #[.int .i64 a, .int .i64 b, .int .i64 z] 26)) (below_alloc0 _ (.cells #[.int .i64 z] 3)))
  have hr := RdI.lit' (W3.alloc (.cells #[.int .i64 a, .int .i64 b, .int .i64 z] 26)) [z] 3 #[.int .i64 z] rfl
  have hs4 : (W3.alloc (.cells #[.int .i64 a, .int .i64 b, .int .i64 z] 26)).heap.size = w1.heap.size + 1 := by simp [hsz3]
  rw [hs4] at hr
  have hrow := row_any (some ⟨w1.heap.size + 1, 0, none⟩) 1 1 [z] _ (HG3.out.below HB5.out) hr (by omega) (fun x hx => by rw [List.mem_singleton.1 hx]; exact HZB.out)
  rw [hW3] at hrow
  have hti : Pr.toldL [z] = Lib.itoa z := rfl
  rw [hti] at hrow
  have HR := Lib.hid hrow
  have HW3 := Lib.hid hW3
  clear hb1 c0 c1 c2 hk3 hrow hr hs4 hsz3 hti hW3
  go_wp2_with fail
  refine HR.out.mono ?_
  rintro e w6 ⟨rfl, hb6⟩
  have hb6' : Below _ W3 w6 := below_on HB5.out (by rw [HW3.out]; exact hb6)
  have HD6 := Lib.hid (HD3.out.below hb6')
  have HK6 := Lib.hid (HK3.out.on hb6')
  clear hb6 hb6' HR f0 f1 f2
  go_wp2_with fail
  go_ret2
  exact ⟨_, by rw [errV_zero]; rfl, fun _ => rfl, HD6.out, HK6.out⟩
set_option maxHeartbeats 4000000 in
set_option maxRecDepth 100000 in
theorem dturn_no (X : Nat) (t : Ph.Tank) (n : Int) (w : World) (hX : DeskAt w X t) (ht : TankOk t) (h0 : Ph.turnErr t n ≠ 0) :
    Calls Tryz.prog 50 #[.pointer (some ⟨X, 0, none⟩), .int .i64 n] w (TextP (Ph.turnErr t n) [] X t w) := by
  obtain ⟨⟨c0, c1, c2⟩, _⟩ := hX.cells
  have hlt := hX.lt
  have HX := Lib.hid hX
  have hT := tturn_no t.size t.each t.has n w ht.1 ht.2.1 ht.2.2 h0
  have hte : Ph.turnErr ⟨t.size, t.each, t.has⟩ n = Ph.turnErr t n := rfl
  rw [hte] at hT
  obtain ⟨E, hE⟩ : ∃ E, E = Ph.turnErr t n := ⟨_, rfl⟩
  rw [← hE] at hT h0 ⊢
  unfold tankV at hT
  rw [errV_ne h0] at hT
  have HT := Lib.hid hT
  have HE := Lib.hid h0
  clear hX hT hte ht h0 hE
  obtain ⟨a, b, c⟩ := t
  simp only at c0 c1 c2 HT HX ⊢
  go_enter Tryz.func50, Tryz.ntmps50
  go_wp2_with fail
  refine HT.out.mono ?_
  rintro e w1 ⟨rfl, hb1⟩
  have HX1 := Lib.hid (HX.out.below hb1)
  have HB1 := Lib.hid hb1
  clear hb1 c0 c1 c2
  go_wp2_with fail
  go_ret2
  exact ⟨_, by rw [errV_ne HE.out]; rfl, fun h => absurd h HE.out, HX1.out.below (below_alloc0 _ _), (KeptBut.of_below HB1.out).alloc _⟩
theorem desk_same {X : Nat} {t : Ph.Tank} {w w' : World} (h : DeskAt w X t) (hb : Below w.heap.size w w') : DeskAt w' X t ∧ KeptBut (fun k => k = X) w w' := ⟨h.below hb, .of_below hb⟩
set_option maxHeartbeats 4000000 in
set_option maxRecDepth 100000 in
/-- How loud a number is. -/
theorem loud_ok (n : Nat) (w : World) (hg : RunG w) (hn : n ≤ 8000) :
    Calls Tryz.prog 49 #[.int .i64 n] w fun e w' => e = .returned (.tuple #[.string (strL (Pr.toldL [((Ph.step n : Nat) : Int), Ph.val ((Ph.step n : Nat) : Int)])), .nilIface]) ∧ Below w.heap.size w w' := by
  have HI := Lib.hid (index_ok n w hn)
  have hst := Ph.step_ok hn
  have hvb : (0 ≤ ((Ph.step n : Nat) : Int) ∧ ((Ph.step n : Nat) : Int) ≤ 8000) ∧ 0 ≤ Ph.val ((Ph.step n : Nat) : Int) ∧ Ph.val ((Ph.step n : Nat) : Int) ≤ 8000 := by
    unfold Ph.val
    rw [Int.toNat_natCast]
    omega
  have HV : Hid (Calls Tryz.prog 72 #[.int .i64 (Ph.step n : Nat)] w fun e w' => e = .returned (.tuple #[.int .i64 (Ph.val ((Ph.step n : Nat) : Int)), .nilIface]) ∧ Below w.heap.size w w') := Lib.hid (by
    refine (value_ok (Ph.step n) w (Ph.valued_step hn)).mono ?_
    rintro e w' ⟨rfl, q, rfl⟩
    exact ⟨by unfold Ph.val; rw [Int.toNat_natCast], ⟨rfl, rfl, rfl, Nat.le_refl _, fun _ _ => rfl⟩⟩)
  obtain ⟨g, hgE⟩ : ∃ g : Nat, g = Ph.step n := ⟨_, rfl⟩
  rw [← hgE] at HI HV hvb ⊢
  obtain ⟨v, hv⟩ : ∃ v, v = Ph.val ((g : Nat) : Int) := ⟨_, rfl⟩
  rw [← hv] at HV hvb ⊢
  have HG := Lib.hid hg
  have HVB := Lib.hid hvb
  clear hst hgE hv hg hn hvb
  go_enter Tryz.func49, Tryz.ntmps49
  go_wp2_with fail
  refine HI.out.mono ?_
  rintro e w1 ⟨rfl, rfl⟩
  clear HI
  go_wp2_with fail
  refine HV.out.mono ?_
  rintro e w2 ⟨rfl, hb2⟩
  have HB2 := Lib.hid hb2
  have HB3 : Hid (Below w.heap.size w (w2.alloc (.cells #[.int .i64 g, .int .i64 v] 3))) := Lib.hid (below_onAlloc hb2 _)
  have hrow := row_any (some ⟨w2.heap.size, 0, none⟩) 2 2 [(g : Int), v] _ (HG.out.below HB3.out) (RdI.lit' w2 [(g : Int), v] 3 #[.int .i64 g, .int .i64 v] rfl) (by omega) (fun x hx => by
    have hh := HVB.out
    rcases List.mem_cons.1 hx with rfl | hx
    · omega
    · rw [List.mem_singleton.1 hx]; omega)
  have HR := Lib.hid hrow
  clear hb2 hrow HV
  go_wp2_with fail
  refine HR.out.mono ?_
  rintro e w3 ⟨rfl, hb3⟩
  have HB4 := Lib.hid (below_on HB3.out hb3)
  clear hb3 HR
  go_wp2_with fail
  go_ret2
  exact ⟨rfl, HB4.out⟩
set_option maxRecDepth 100000 in
theorem loud_no (n : Int) (w : World) (h : 8000 < n) : Calls Tryz.prog 49 #[.int .i64 n] w fun e w' => e = .returned (.tuple #[.string ⟨#[]⟩, errV 1]) ∧ w' = w := by
  have HI := Lib.hid (index_no n w (.inr h))
  have he : errV 1 = .iface 69 (.int .i64 1) := errV_ne (by omega)
  rw [he]
  clear he h
  go_enter Tryz.func49, Tryz.ntmps49
  go_wp2_with fail
  refine HI.out.mono ?_
  rintro e w1 ⟨rfl, rfl⟩
  go_wp2_with fail
  go_ret2
  exact ⟨rfl, rfl⟩
end Go.Proofs.YtjdpgakkphdjlaaGreatDoor
