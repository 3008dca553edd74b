/- Walks of a session (chapter 20): a line's answer (desk.answer). -/
import Derived.Test.YtjdpgakkphdjlaaGreatDoorRunL
import Derived.Test.YtjdpgakkphdjlaaGreatDoorRunA2
namespace Go.Proofs.YtjdpgakkphdjlaaGreatDoor
open Go.RowKit

set_option maxRecDepth 100000 in
theorem errname_any (k : Int) (hk : k = 1 ∨ k = 4 ∨ k = 5 ∨ k = 8) (w : World) : Calls Tryz.prog 34 #[.int .i64 k] w fun e w' => e = .returned (.string (strL (Pr.nameL k))) ∧ w' = w := by
  rcases hk with rfl | rfl | rfl | rfl
  all_goals
    go_enter Tryz.func34, Tryz.ntmps34
    go_wp2
    go_ret
    exact ⟨rfl, rfl⟩
set_option maxRecDepth 100000 in
theorem as_none (v : Value) (w : World) : Calls Tryz.prog 33 #[.nilIface, v] w fun e w' => e = .returned (.bool false) ∧ w' = w := by
  go_enter Tryz.func33, Tryz.ntmps33
  go_wp2
  go_ret
  exact ⟨rfl, rfl⟩
/-- A line's answer; the tank then. -/
def AnsP (X : Nat) (t : Ph.Tank) (l : List UInt8) (w : World) (e : Ending) (w' : World) : Prop :=
  e = .returned (.string (strL (Pr.lineL t l).1)) ∧ DeskAt w' X (Pr.lineL t l).2 ∧ KeptBut (fun k => k = X) w w'
theorem below4 {B : Nat} {w W : World} (h : Below B w W) (hB : B ≤ W.heap.size) (o1 o2 o3 o4 : Obj) : Below B w ((((W.alloc o1).alloc o2).alloc o3).alloc o4) :=
  (((h.alloc hB _).alloc (by simp; omega) _).alloc (by simp; omega) _).alloc (by simp; omega) _
set_option maxHeartbeats 4000000 in
set_option maxRecDepth 100000 in
theorem answer_any (X : Nat) (t : Ph.Tank) (s : ByteArray) (w : World) (hg : RunG w) (hX : DeskAt w X t) (hXg : gB ≤ X) (ht : TankOk t) (hs : s.size ≤ 3000) :
    Calls Tryz.prog 12 #[.pointer (some ⟨X, 0, none⟩), .string s] w (AnsP X t s.data.toList w) := by
  have HLN := Lib.hid (line_any X t s w hg hX hXg ht hs)
  have HG := Lib.hid hg
  clear hg hX ht hs
  go_enter Tryz.func12, Tryz.ntmps12
  go_wp2_with fail
  refine HLN.out.mono ?_
  rintro e w1 ⟨t', hd1, hk1, ht1, hcase⟩
  have HD1 := Lib.hid hd1
  have HK1 := Lib.hid hk1
  have HT1 := Lib.hid ht1
  have HG1 := Lib.hid (HG.out.keptB hk1 fun k hk => by subst hk; exact hXg)
  have hLa : Laid ((w1.alloc (.cells #[.nilIface] 68)).alloc (.cells #[.int .i64 0] 69)) := (HG1.out.hd.alloc _).alloc _
  have HB3 := Lib.hid (below_on (below_alloc0 w1 (.cells #[.nilIface] 68)) (below_alloc0 _ (.cells #[.int .i64 0] 69)))
  clear hd1 hk1 ht1 HLN
  rcases hcase with ⟨hb, rfl⟩ | ⟨E, q, rfl, hq, hE⟩
  · have HA := Lib.hid (as_hitB ⟨w1.heap.size, 0, none⟩ .nilIface _ hLa (by simp) (by simp))
    have HBD := Lib.hid hb
    clear hb hLa
    go_wp2_with fail
    refine HA.out.mono ?_
    rintro e w2 ⟨rfl, hw2⟩
    have HW2 := Lib.hid hw2
    clear hw2 HA
    have HB2 : Hid (Below w1.heap.size w1 w2) := Lib.hid (by rw [HW2.out]; exact (below4 HB3.out HB3.out.size _ _ _ _).setCell (Nat.le_refl _) _)
    go_wp2_with fail
    go_ret
    exact ⟨by rw [HBD.out]; rfl, by rw [HT1.out]; exact HD1.out.below HB2.out, HK1.out.on HB2.out⟩
  · by_cases h0 : E = 0
    · subst h0
      rw [errV_zero]
      have HQ := Lib.hid hq
      have HA1 := Lib.hid fun v W => as_none v W
      clear hLa hq hE
      go_wp2_with (go_at_call 33; refine (HA1.out _ _).mono ?_; rintro e w2 ⟨rfl, rfl⟩)
      go_ret
      exact ⟨by rw [show (Pr.lineL t s.data.toList).1 = q.data.toList from by simpa using HQ.out, strL_data]; rfl, by rw [HT1.out]; exact HD1.out.below HB3.out, HK1.out.on HB3.out⟩
    · have HQ := Lib.hid hq
      have hE2 : E = 1 ∨ E = 4 ∨ E = 5 ∨ E = 8 := by omega
      rw [errV_ne h0]
      have HN0 := Lib.hid h0
      have HE2 := Lib.hid hE2
      have HM := Lib.hid (as_missB E ⟨w1.heap.size, 0, none⟩ .nilIface _ hLa (by simp))
      have HLa := Lib.hid hLa
      clear hLa hq hE h0 hE2
      go_wp2_with fail
      refine HM.out.mono ?_
      rintro e w2 ⟨rfl, hb2⟩
      have HB2 := Lib.hid (below_on HB3.out hb2)
      have hce : w2.cell? ⟨w1.heap.size + 1, 0, none⟩ = some (.int .i64 0) := (hb2.cell (p := ⟨w1.heap.size + 1, 0, none⟩) (by simp)).trans (by simp)
      have hfe : w2.frozen? ⟨w1.heap.size + 1, 0, none⟩ = false := (hb2.frozen (p := ⟨w1.heap.size + 1, 0, none⟩) (by simp)).trans (by simp)
      have HH := Lib.hid (as_hit E ⟨w1.heap.size + 1, 0, none⟩ (.int .i64 0) w2 (HLa.out.below hb2) hce hfe)
      have hke : w2.heap[w1.heap.size + 1]? = some (.cells #[.int .i64 0] 69 (0, 0)) := (hb2.block (w1.heap.size + 1) (by simp)).trans (by have := heap_alloc_new (w1.alloc (.cells #[.nilIface] 68)) (.cells #[.int .i64 0] 69); rwa [World.size_alloc] at this)
      have hlt : w1.heap.size + 1 < w2.heap.size := by have := hb2.size; simp at this; omega
      have HKE := Lib.hid hke
      clear hb2 HM hke
      go_wp2_with fail
      refine HH.out.mono ?_
      rintro e w3 ⟨rfl, hw3⟩
      have HB3' : Hid (Below w1.heap.size w1 w3) := Lib.hid (by rw [hw3]; exact (below4 HB2.out HB2.out.size _ _ _ _).setCell (Nat.le_succ _) _)
      have hc3 : w3.cell? ⟨w1.heap.size + 1, 0, none⟩ = some (.int .i64 E) := by
        rw [hw3]
        have h1 := ((((below_alloc0 w2 (.cells #[.pointer (some ⟨w1.heap.size + 1, 0, none⟩)] 72)).alloc (by simp) (.cells #[.pointer (some ⟨10, 72, none⟩), .pointer (some ⟨w2.heap.size, 0, none⟩), .int .u64 150] 97)).alloc (by simp; omega) (.cells #[.pointer (some ⟨10, 72, none⟩), .pointer (some ⟨w2.heap.size, 0, none⟩), .int .u64 150] 97)).alloc (by simp; omega) (.cells #[.int .i64 E] 69)).block (w1.heap.size + 1) hlt
        refine cell_of_row _ (w1.heap.size + 1) 0 #[.int .i64 E] 69 (0, 0) ?_
        rw [heap_setCell_same _ (w1.heap.size + 1) 0 _ _ _ (h1.trans HKE.out)]; rfl
      have HNM := Lib.hid fun W => errname_any E HE2.out W
      clear hw3 hce hfe HH
      go_wp2_with fail
      refine (HNM.out _).mono ?_
      rintro e w4 ⟨rfl, rfl⟩
      go_wp2_with fail
      go_ret
      exact ⟨by rw [HQ.out, if_neg HN0.out]; rfl, by rw [HT1.out]; exact HD1.out.below HB3'.out, HK1.out.on HB3'.out⟩
theorem do_tank (w0 : List UInt8) (t : Ph.Tank) (ns : List Int) (h0 : 0 ≤ ns.getD 0 0) (ht : TankOk t) : TankOk (Pr.doL w0 t ns).2.2 := by
  unfold Pr.doL
  split
  · split <;> exact ht
  · split
    · exact ht
    · split
      · split <;> exact ht
      · split
        · exact ht
        · split
          · split <;> exact ht
          · split
            · split
              · rename_i h8
                have hf : 0 ≤ Ph.full t ∧ Ph.full t ≤ t.size := by unfold Ph.full; have := ht.1; have := ht.2.1; have := ht.2.2; split <;> omega
                have hle : ns.getD 0 0 ≤ Ph.full t := by
                  unfold Ph.turnErr at h8
                  split at h8
                  · omega
                  · split at h8
                    · omega
                    · split at h8
                      · omega
                      · omega
                unfold TankOk Ph.turned
                exact ⟨ht.1, ht.2.1, by simp only; omega, by simp only; omega⟩
              · exact ht
            · exact ht
theorem line_tank (t : Ph.Tank) (l : List UInt8) (ht : TankOk t) : TankOk (Pr.lineL t l).2 := by
  unfold Pr.lineL
  split
  · exact ht
  · rename_i x hx
    split
    · exact ht
    · rename_i ns hns
      split
      · by_cases hw : (Pr.cutL 32 l).headD [] = Pr.wTurn
        · refine do_tank _ t ns ?_ ht
          have hb := Pr.argsL_bd x.below _ 0 ns hns 0
          rw [hw] at hx
          have hxe : x = ⟨1, false, 99⟩ := by
            have : Pr.wantOf Pr.wTurn = some ⟨1, false, 99⟩ := rfl
            rw [this] at hx
            injection hx with hx
            exact hx.symm
          cases ns with
          | nil => simp
          | cons a r => exact (hb (by simp)).2.2 (by rw [hxe]; show 0 + 0 < 99; omega)
        · unfold Pr.doL
          rw [if_neg hw]
          split
          · split <;> exact ht
          · split
            · exact ht
            · split
              · split <;> exact ht
              · split
                · exact ht
                · split
                  · split <;> exact ht
                  · exact ht
      · exact ht
end Go.Proofs.YtjdpgakkphdjlaaGreatDoor
