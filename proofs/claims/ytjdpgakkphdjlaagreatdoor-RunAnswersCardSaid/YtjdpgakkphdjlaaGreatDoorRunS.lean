/- Walks of a session (chapter 20): a line's words (strings.Split at a space). -/
import Derived.Test.YtjdpgakkphdjlaaGreatDoorRunM
namespace Go.Proofs.YtjdpgakkphdjlaaGreatDoor
open Go.RowKit

theorem gensplit_one (s : ByteArray) (c : UInt8) (w : World) (hs : s.size ≤ 100000) :
    Calls Tryz.prog 58 #[.string s, .string ⟨#[c]⟩, .int .i64 0, .int .i64 (-1)] w fun e w' => e = .returned (.slice (some ⟨w.heap.size, 0, none⟩) (Lib.countB s ⟨#[c]⟩ + 1) (Lib.countB s ⟨#[c]⟩ + 1)) ∧ w' = w.alloc (.cells ((Lib.splitB ⟨#[c]⟩ 0 (Lib.countB s ⟨#[c]⟩) s).map Value.string).toArray 9) := by
  have h1 : 1 ≤ (⟨#[c]⟩ : ByteArray).size := by show 1 ≤ 1; omega
  have hle := Lib.countB_le (⟨#[c]⟩ : ByteArray) h1 s.size s (Nat.le_refl _)
  have hlen := Lib.splitB_all (⟨#[c]⟩ : ByteArray) h1 0 _ s rfl
  have hI : ∀ (x : ByteArray) (cs : Array Value), x.size ≤ s.size → Calls Tryz.prog 81 #[.string x, .string ⟨#[c]⟩] (w.alloc (.cells cs 9)) fun e w' => e = .returned (.int .i64 (Lib.indexB x ⟨#[c]⟩)) ∧ w' = w.alloc (.cells cs 9) := fun x cs _ => by
    refine (Tryz.strings_Index_one x c _).mono ?_
    rintro e w' ⟨rfl, rfl⟩
    refine ⟨?_, rfl⟩
    unfold Lib.indexB
    rw [show (⟨#[c]⟩ : ByteArray).data.toList = [c] from rfl, Lib.index_one]
  have hC : Calls Tryz.prog 80 #[.string s, .string ⟨#[c]⟩] w fun e w' => e = .returned (.int .i64 (Lib.countB s ⟨#[c]⟩)) ∧ w' = w := by
    refine (Tryz.strings_Count_one s c w).mono ?_
    rintro e w' ⟨rfl, rfl⟩
    refine ⟨?_, rfl⟩
    unfold Lib.countB Lib.countByte
    rw [show (⟨#[c]⟩ : ByteArray).data.toList = [c] from rfl, Lib.count_one]
  have h := Any.strings_genSplit_core Tryz.lays221 (by kernel_rfl) s ⟨#[c]⟩ 0 (-1) (Lib.countB s ⟨#[c]⟩ + 1) w (by omega) h1 (Nat.zero_le _) hI hC (by decide) (by decide) (by rw [if_pos (by decide)]; omega)
  rw [Nat.add_sub_cancel, hlen] at h
  have e2 : Lib.cellsOf (Lib.splitB ⟨#[c]⟩ 0 (Lib.countB s ⟨#[c]⟩) s) (Lib.countB s ⟨#[c]⟩ + 1) = ((Lib.splitB ⟨#[c]⟩ 0 (Lib.countB s ⟨#[c]⟩) s).map Value.string).toArray := by rw [← hlen]; exact Lib.cellsOf_full _
  rw [e2] at h
  exact h
/-- A line's words. -/
def SplitP (l : List (List UInt8)) (w : World) (e : Ending) (w' : World) : Prop := ∃ A c ws, e = .returned (.slice A l.length c) ∧ RdS w' w'.heap.size A l.length ws ∧ bytesL ws = l ∧ l.length ≤ c ∧ Below w.heap.size w w'
theorem split_any (s : ByteArray) (c : UInt8) (w : World) (hs : s.size ≤ 100000) : Calls Tryz.prog 41 #[.string s, .string ⟨#[c]⟩] w (SplitP (Pr.cutL c s.data.toList) w) := by
  have HG := Lib.hid (gensplit_one s c w hs)
  have h1 : 1 ≤ (⟨#[c]⟩ : ByteArray).size := by show 1 ≤ 1; omega
  have hlen := Lib.splitB_all (⟨#[c]⟩ : ByteArray) h1 0 _ s rfl
  have hcut := Pr.split_cut c s
  obtain ⟨ws, hws⟩ : ∃ ws, ws = Lib.splitB ⟨#[c]⟩ 0 (Lib.countB s ⟨#[c]⟩) s := ⟨_, rfl⟩
  rw [← hws] at HG hlen hcut
  have hl2 : (Pr.cutL c s.data.toList).length = Lib.countB s ⟨#[c]⟩ + 1 := by rw [← hcut, List.length_map, hlen]
  obtain ⟨N, hN⟩ : ∃ N, N = Lib.countB s ⟨#[c]⟩ + 1 := ⟨_, rfl⟩
  rw [← hN] at HG hlen hl2
  have HL := Lib.hid (And.intro hlen (And.intro hl2 hcut))
  clear hs h1 hlen hcut hws hl2 hN
  go_enter Tryz.func41, Tryz.ntmps41
  go_wp2_with fail
  refine HG.out.mono ?_
  rintro e w1 ⟨rfl, hw⟩
  have HW := Lib.hid hw
  clear hw HG
  go_wp2_with fail
  go_ret
  obtain ⟨h1, h2, h3⟩ := HL.out
  refine ⟨some ⟨w.heap.size, 0, none⟩, N, ws, by rw [h2]; rfl, ?_, h3, by omega, by rw [HW.out]; exact below_alloc0 _ _⟩
  rw [h2, HW.out]
  refine ⟨by unfold svals; rw [List.length_map]; exact h1, fun _ => ⟨w.heap.size, 0, rfl, by simp, fun j hj => ?_⟩⟩
  rw [Nat.zero_add, cell_of_row _ w.heap.size j _ _ (0, 0) (heap_alloc_new w _)]
  unfold svals
  simp
end Go.Proofs.YtjdpgakkphdjlaaGreatDoor
