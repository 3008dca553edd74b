/- The walk of the law HornNone. -/
import Derived.Test.YtomaipmmjngdlaaDoorTold
import Derived.Test.YtomaipmmjngdlaaDoorHornE
import Derived.Test.YtomaipmmjngdlaaDoorOpen
namespace Go.Proofs.YtomaipmmjngdlaaDoor
open Go.RowKit

set_option maxRecDepth 1000000 in
set_option maxHeartbeats 2000000 in
theorem hornNone_walk (w : World) (A : Option Addr) (n c : Nat) (f : List Int) (h : RdI w w.heap.size A n f) (hb : n ≤ c ∧ c ≤ 17592186044415) (_ : ∀ x ∈ f, Is64 x) (hg : Laid w) :
    Calls Tryd.prog 3 #[.slice A n c] w fun e w' => e = .returned (.bool true) ∧ Below w.heap.size w w' := by
  have HG := Lib.hid hg
  have H := Lib.hid h
  have hn : n ≤ 100000000000000 := by omega
  have HE := Lib.hid fun W hW hBW => hencode_any A n c f none 0 0 [] W w.heap.size hW RdI.nil hBW hn (by omega)
  have HM := Lib.hid fun W hW => hmost_told A n c f none 0 0 [] W w.heap.size hW RdI.nil hn
  by_cases h0 : shErr f = 0
  · have hz : hornErr f [] = 0 := by unfold hornErr; rw [if_neg (by omega), if_neg (by simp)]; rfl
    have hbe : Ph.bytes f [] = [1, 0, 0] := by simp [Ph.bytes, Ph.enc, Ph.told]
    have hes : encS f [] = ⟨#[1, 0, 0]⟩ := by unfold encS; rw [if_pos hz, hbe]; rfl
    have hby : bytesOf ⟨#[1, 0, 0]⟩ = [1, 0, 0] := by rfl
    have hdr : decR f [1, 0, 0] 0 = some [] := by
      unfold decR
      have : Ph.heard f [1, 0, 0] 0 = some ([], 65536, []) := by simp [Ph.heard, Ph.dec]
      rw [this]
      simp [hbe]
    have hde : decE f (bytesOf ⟨#[1, 0, 0]⟩) 0 = 0 := by
      unfold decE
      rw [hby, if_neg (by omega), if_neg (by omega), show (0 : Int).toNat = 0 from rfl, hdr]; rfl
    have HD := Lib.hid fun W hW hBW => hdecode_any A n c f ⟨#[1, 0, 0]⟩ 0 W w.heap.size hW hBW hn
    have hdl : decL f (bytesOf ⟨#[1, 0, 0]⟩) 0 = [] := by unfold decL; rw [if_pos hde, hby, show (0 : Int).toNat = 0 from rfl, hdr]; rfl
    rw [hde, hdl, errV_zero] at HD
    rw [hz, hes, errV_zero] at HE
    rw [hz, if_pos rfl, errV_zero] at HM
    have hnd : (4 : Int) + ((Ph.needs f [] : Nat) : Int) / 8 = 4 := by simp [Ph.needs]
    rw [hnd] at HM
    clear h h0 hz hes hby hbe hdr hde hdl hg hnd hb
    go_enter Tryd.func3, Tryd.ntmps3
    go_wp2_with fail
    refine (HE.out _ H.out (Nat.le_refl _)).mono ?_
    rintro e w1 ⟨rfl, hb1⟩
    have HB1 := Lib.hid hb1
    have H1 := Lib.hid (H.out.below hb1)
    clear hb1
    go_wp2_with fail
    refine (HD.out _ H1.out HB1.out.size).mono ?_
    rintro e w2 ⟨A2, n2, c2, rfl, _, _, hr, hb2⟩
    obtain rfl : n2 = 0 := by have := hr.len; simpa using this.symm
    have HB2 := Lib.hid (below_on HB1.out hb2)
    have H2 := Lib.hid (H.out.below HB2.out)
    clear hb2 hr
    go_wp2_with fail
    refine (HM.out _ H2.out).mono ?_
    rintro e wk ⟨rfl, rfl⟩
    go_wp2_with fail
    go_ret
    exact ⟨ret_true (by simp), HB2.out⟩
  · have h3 : shErr f = 3 := (shErr_two f).resolve_left h0
    have hz : hornErr f [] = 3 := by unfold hornErr; rw [if_pos h0]
    rw [hz, errV_ne (by omega)] at HE
    have HT := Lib.hid fun W hW => herr_yes 3 W hW (by omega)
    rw [errV_ne (by omega)] at HT
    clear h h0 h3 hz hg HM hb
    go_enter Tryd.func3, Tryd.ntmps3
    go_wp2_with fail
    refine (HE.out _ H.out (Nat.le_refl _)).mono ?_
    rintro e w1 ⟨rfl, hb1⟩
    have HB1 := Lib.hid hb1
    clear hb1
    go_wp2_with fail
    refine (HT.out _ (HG.out.below HB1.out)).mono ?_
    rintro e w2 ⟨rfl, hb2⟩
    have HB2 := Lib.hid (below_on HB1.out hb2)
    clear hb2
    go_wp2_with fail
    go_ret
    exact ⟨rfl, HB2.out⟩
end Go.Proofs.YtomaipmmjngdlaaDoor
