/- The document's answers, walked (chapter 11): signs as bytes. -/
import Derived.Test.YtomaipmmjngdlaaDoorHornE
import Derived.Test.YtomaipmmjngdlaaDoorRefScale
import Derived.Laws.Concat
namespace Go.Proofs.YtomaipmmjngdlaaDoor
open Go.RowKit

theorem RdB.lit' (w : World) (l : List Nat) (t : TypeId) (cs : Array Value) (hcs : cs.toList = bvals l) : RdB (w.alloc (.cells cs t)) (w.alloc (.cells cs t)).heap.size (some ⟨w.heap.size, 0, none⟩) l.length l := by
  refine ⟨bvals_length l, fun _ => ⟨w.heap.size, 0, rfl, by simp, fun j _ => ?_⟩⟩
  rw [Nat.zero_add, cell_of_row _ w.heap.size j cs t (0, 0) (heap_alloc_new w _), ← hcs]
  simp
/-- The last k signs, the last one first. -/
def lastS (l : List Int) (k : Nat) : List Int := l.reverse.take k
theorem lastS_succ {l : List Int} {k : Nat} (h : k < l.length) : lastS l (k + 1) = lastS l k ++ [l.getD (l.length - 1 - k) 0] := by
  unfold lastS
  rw [List.take_add_one, List.getElem?_eq_getElem (by simpa using h), List.getElem_reverse, List.getD_eq_getElem?_getD, List.getElem?_eq_getElem (by omega)]
  rfl
set_option maxRecDepth 1000000 in
set_option maxHeartbeats 4000000 in
theorem rhorn_ok (A1 : Option Addr) (n1 c1 : Nat) (f : List Int) (A2 : Option Addr) (n2 c2 : Nat) (l : List Int) (w : World) (B : Nat) (h1 : RdI w B A1 n1 f) (h2 : RdI w B A2 n2 l) (hB : B ≤ w.heap.size) (hc1 : n1 ≤ c1) (hf : Ph.sharesOk f) (hl : l.length ≤ 60) (hg : ∀ s ∈ l, Ph.good f s) :
    Calls Tryd.prog 13 #[.slice A1 n1 c1, .slice A2 n2 c2] w fun e w' => e = .returned (.string (strB (Ph.bytes f l))) ∧ Below w.heap.size w w' := by
  have hlen1 := h1.len
  have hlen2 := h2.len
  have hn60 : n2 ≤ 60 := by omega
  have HF := Lib.hid hf
  have HGD := Lib.hid hg
  have HL1 := Lib.hid hlen1
  have HL2 := Lib.hid hlen2
  have H1 := Lib.hid h1
  have H2 := Lib.hid h2
  have hf1 : 1 ≤ n1 ∧ n1 ≤ 40 := by have := hf.1; have := hf.2.1; omega
  have hBY := Ph.bytes_fold f l
  have HBY := Lib.hid hBY
  clear h1 h2 hf hl hg hlen1 hlen2 hBY
  go_enter Tryd.func13, Tryd.ntmps13
  go_wp2_with fail
  go_loopw [5, 6, 7, 8, 9] (fun x o i _ _ wr => ∃ (k X : Nat) (L : List Nat), k ≤ n2 ∧ i = .int .i64 ((n2 : Int) - 1 - (k : Int)) ∧ x = .int .i64 X ∧ 65536 ≤ X ∧ X < 16777216 ∧ o = .string (strB L.reverse) ∧ Hid (Ph.efold f (lastS l k) = (X, L)) ∧ Hid (Below w.heap.size w wr)) (fun _ _ i _ _ _ => (intOf i + 1).toNat)
  case atStart => exact ⟨0, 65536, [], Nat.zero_le _, by simp, rfl, by omega, by omega, rfl, Lib.hid rfl, Lib.hid (Below.refl _ _)⟩
  case round =>
    obtain ⟨k, X, L, hk, rfl, rfl, hX1, hX2, rfl, HE, HBW⟩ := hrel
    by_cases hlt : k < n2
    · obtain ⟨I, hI⟩ : ∃ I, I = n2 - 1 - k := ⟨_, rfl⟩
      have hIi : (n2 : Int) - 1 - (k : Int) = (I : Int) := by omega
      have hIl : I < n2 := by omega
      obtain ⟨b2, o2, rfl, _, d2⟩ := (H2.out.below (HBW.out.mono hB)).at_ hIl
      have hg := HGD.out _ (Ph.getD_mem (l := l) (i := I) (by rw [HL2.out]; exact hIl))
      have hgb := Ph.good_bd HF.out hg
      have hls := lastS_succ (l := l) (k := k) (by rw [HL2.out]; exact hlt)
      rw [HL2.out, ← hI] at hls
      have hstep := Ph.efold_snoc f (lastS l k) (l.getD I 0)
      rw [← hls, HE.out] at hstep
      unfold Ph.estep at hstep
      have hbd2 := Ph.efold_bd HF.out (ss := lastS l (k + 1)) (fun s hs => HGD.out s (by unfold lastS at hs; simpa using List.mem_of_mem_take hs))
      obtain ⟨y, hy⟩ : ∃ y, y = l.getD I 0 := ⟨_, rfl⟩
      rw [← hy] at d2 hg hgb hstep
      obtain ⟨S, rfl⟩ := Int.eq_ofNat_of_zero_le hg.1
      rw [Int.toNat_natCast] at hgb hstep
      have hSn : S < n1 := by have := hg.2.1; rw [HL1.out] at this; omega
      obtain ⟨q1, o1, rfl, _, c0⟩ := (H1.out.below (HBW.out.mono hB)).at_ hSn
      have hfx : f.getD S 0 = (Ph.sh f S : Nat) := by unfold Ph.sh; have := (HF.out.2.2.1 _ (Ph.getD_mem (l := f) (i := S) (by rw [HL1.out]; exact hSn))).1; omega
      rw [hfx] at c0
      have HSU := Lib.hid fun W (hW : RdI W B (some ⟨q1, o1, none⟩) n1 f) => rsum_any (some ⟨q1, o1, none⟩) S c1 (f.take S) W B (hW.take (by omega)) (fun x hx => by have := HF.out.2.2.1 x (List.mem_of_mem_take hx); omega) (by omega)
      have hts : Ph.total (f.take S) = (Ph.st f S : Nat) := by
        show Ph.pre f S = _
        unfold Ph.st; have := (pre_bd HF.out S).1; omega
      rw [hts] at HSU
      obtain ⟨F, hF⟩ : ∃ F, F = Ph.sh f S := ⟨_, rfl⟩
      obtain ⟨T, hT0⟩ : ∃ T, T = Ph.st f S := ⟨_, rfl⟩
      rw [← hF] at c0 hgb hstep
      rw [← hT0] at hgb hstep HSU
      rw [hIi]
      have hS0 : (0 : Int) ≤ (S : Int) := by omega
      have hS1 : (S : Int) < (n1 : Int) := by omega
      have hS2 : (S : Int) ≤ (c1 : Int) := by omega
      have hI0 : (0 : Int) ≤ (I : Int) := by omega
      have hI1 : (I : Int) < (n2 : Int) := by omega
      have hkI : k + I + 1 = n2 := by omega
      have hFX : F ≤ 256 ∧ 1 ≤ F ∧ T + F ≤ 256 := by omega
      have k8 : ¬ F = 0 := by omega
      clear hg hgb hls hy hfx hts hF hT0 hI hIi
      by_cases hge : 65536 * F ≤ X
      · rw [if_pos hge] at hstep
        have hge' : 65536 * (F : Int) ≤ (X : Int) := by omega
        rw [hstep] at hbd2
        have x1 : ((X : Int)).tdiv 256 = ((X / 256 : Nat) : Int) := by rw [Int.tdiv_eq_ediv_of_nonneg (by omega)]; rfl
        have x2 : ((X : Int)) / 256 = ((X / 256 : Nat) : Int) := by omega
        have t1 : ((X : Int)).tmod 256 = ((X % 256 : Nat) : Int) := by rw [Int.tmod_eq_emod_of_nonneg (by omega)]; rfl
        have t2 : (X : Int) % 256 = ((X % 256 : Nat) : Int) := by omega
        have u1 : IntKind.u8.wrap ((X % 256 : Nat) : Int) = ((X % 256 : Nat) : Int) := by rw [u8_wrap]; congr 1; omega
        obtain ⟨Y, hY⟩ : ∃ Y, Y = X / 256 := ⟨_, rfl⟩
        obtain ⟨Z, hZ⟩ : ∃ Z, Z = X % 256 := ⟨_, rfl⟩
        rw [← hY] at x1 x2 hstep hbd2
        rw [← hZ] at u1 t1 t2 hstep hbd2
        have hZb : Z < 256 := by omega
        have hYb : Y < 65536 := by omega
        have hlt2 : ¬ (65536 * (F : Int) ≤ (Y : Int)) := by omega
        have HST := Lib.hid hstep
        have hUb : 65536 ≤ Ph.up F T Y ∧ Ph.up F T Y < 16777216 := ⟨hbd2.1, hbd2.2.1⟩
        have hLl : L.length ≤ 60 := by
          have h1 := hbd2.2.2
          have h2 : (lastS l (k + 1)).length ≤ 60 := by unfold lastS; rw [List.length_take, List.length_reverse, HL2.out]; omega
          simp at h1; omega
        obtain ⟨W5, hW5⟩ : ∃ W5, W5 = wr.alloc (.cells #[.int .u8 (Z : Int)] 5) := ⟨_, rfl⟩
        have hcv : (convert 54 9 (.slice (some ⟨wr.heap.size, 0, none⟩) 1 1)).run Tryd.prog (wr.alloc (.cells #[.int .u8 (Z : Int)] 5)) = .ok (.string (strB [Z])) (wr.alloc (.cells #[.int .u8 (Z : Int)] 5)) :=
          conv_str (RdB.lit' wr [Z] 5 #[.int .u8 (Z : Int)] (by rfl)) 1
        have HSS : Hid (strB [Z] ++ strB L.reverse = strB (L ++ [Z]).reverse) := Lib.hid (by rw [← strB_append]; simp)
        have hs1 : (strB [Z]).size = 1 := by rw [strB_size]; rfl
        have hs2 : (strB L.reverse).size = L.length := by rw [strB_size, List.length_reverse]
        obtain ⟨S1, hS1'⟩ : ∃ S, S = strB [Z] := ⟨_, rfl⟩
        obtain ⟨S2, hS2'⟩ : ∃ S, S = strB L.reverse := ⟨_, rfl⟩
        rw [← hS1'] at hcv hs1 HSS
        rw [← hS2'] at hs2 HSS ⊢
        have hss : ¬ 9223372036854775807 < S1.size + S2.size := by omega
        have HBW5 : Hid (Below w.heap.size w W5) := Lib.hid (by rw [hW5]; exact HBW.out.alloc HBW.out.size _)
        have HRW5 : Hid (RdI W5 B (some ⟨q1, o1, none⟩) n1 f) := Lib.hid (H1.out.below (HBW5.out.mono hB))
        have c0' : W5.cell? ⟨q1, o1 + S, none⟩ = some (.int .i64 (F : Int)) := by
          rw [hW5]
          exact (World.cell?_alloc_lt wr _ ⟨q1, o1 + S, none⟩ (World.block_lt_of_cell? wr _ c0)).trans c0
        have HW5 := Lib.hid hW5
        clear hY hZ hge hs1 hs2 hS1' hS2' hW5
        have k1 : ((Y : Int)).tdiv (F : Int) = ((Y / F : Nat) : Int) := by rw [Int.tdiv_eq_ediv_of_nonneg (by omega)]; rfl
        have k2 : ((Y : Int)).tmod (F : Int) = ((Y % F : Nat) : Int) := by rw [Int.tmod_eq_emod_of_nonneg (by omega)]; rfl
        have m1 : Y / F ≤ Y := Nat.div_le_self _ _
        have m2 : Y % F ≤ Y := Nat.mod_le _ _
        have HQM : Hid (Ph.up F T Y = Y / F * 256 + Y % F + T) := Lib.hid rfl
        obtain ⟨Q, hQ⟩ : ∃ Q, Q = Y / F := ⟨_, rfl⟩
        obtain ⟨M, hM⟩ : ∃ M, M = Y % F := ⟨_, rfl⟩
        rw [← hQ] at k1 m1 HQM
        rw [← hM] at k2 m2 HQM
        have z3 : IntKind.i64.wrap (Q : Int) = (Q : Int) := IntWalk.i64_in _ (by omega)
        have z4 : IntKind.i64.wrap ((Q : Int) * 256) = (Q : Int) * 256 := IntWalk.i64_in _ (by omega)
        have z5 : IntKind.i64.wrap ((Q : Int) * 256 + (M : Int)) = (Q : Int) * 256 + (M : Int) := IntWalk.i64_in _ (by omega)
        have z6 : IntKind.i64.wrap ((Q : Int) * 256 + (M : Int) + (T : Int)) = (Q : Int) * 256 + (M : Int) + (T : Int) := IntWalk.i64_in _ (by omega)
        have k7 : ¬ (F : Int) = 0 := by omega
        rw [HQM.out] at hUb HST
        have HSQ := Lib.hid fun q => (HSU.out (W5.drewN q) (HRW5.out.drewN q)).mono (fun e w' h => (⟨h.1, h.2.symm⟩ : e = .returned (.int .i64 (T : Int)) ∧ w' = W5.drewN q))
        clear hQ hM hstep hbd2 HQM HSU
        go_wp2_with fail
        refine wp_loop_rounds 2 ?_
        rw [rounds_succ]
        go_wp2_with fail
        rw [← HW5.out, HSS.out]
        rw [rounds_succ]
        go_wp2_with fail
        go_quiet ((go_at_call 38; exact Calls.quiet_of_same (HSQ.out _)))
        clear z3 z4 z5 z6 k7 k1 k2 c0 c0' d2 hcv
        go_wp2_with fail
        go_roundw
        case rel => exact ⟨k + 1, Q * 256 + M + T, L ++ [Z], by omega, by congr 1; omega, by go_num, by omega, by omega, rfl, HST, Lib.hid (below_drewN' HBW5.out _)⟩
        case measure => simp [intOf]
      · rw [if_neg hge] at hstep
        have hge' : ¬ (65536 * (F : Int) ≤ (X : Int)) := by omega
        rw [hstep] at hbd2
        have HST := Lib.hid hstep
        have hUb : 65536 ≤ Ph.up F T X ∧ Ph.up F T X < 16777216 := ⟨hbd2.1, hbd2.2.1⟩
        have k1 : ((X : Int)).tdiv (F : Int) = ((X / F : Nat) : Int) := by rw [Int.tdiv_eq_ediv_of_nonneg (by omega)]; rfl
        have k2 : ((X : Int)).tmod (F : Int) = ((X % F : Nat) : Int) := by rw [Int.tmod_eq_emod_of_nonneg (by omega)]; rfl
        have m1 : X / F ≤ X := Nat.div_le_self _ _
        have m2 : X % F ≤ X := Nat.mod_le _ _
        have HQM : Hid (Ph.up F T X = X / F * 256 + X % F + T) := Lib.hid rfl
        obtain ⟨Q, hQ⟩ : ∃ Q, Q = X / F := ⟨_, rfl⟩
        obtain ⟨M, hM⟩ : ∃ M, M = X % F := ⟨_, rfl⟩
        rw [← hQ] at k1 m1 HQM
        rw [← hM] at k2 m2 HQM
        have z3 : IntKind.i64.wrap (Q : Int) = (Q : Int) := IntWalk.i64_in _ (by omega)
        have z4 : IntKind.i64.wrap ((Q : Int) * 256) = (Q : Int) * 256 := IntWalk.i64_in _ (by omega)
        have z5 : IntKind.i64.wrap ((Q : Int) * 256 + (M : Int)) = (Q : Int) * 256 + (M : Int) := IntWalk.i64_in _ (by omega)
        have z6 : IntKind.i64.wrap ((Q : Int) * 256 + (M : Int) + (T : Int)) = (Q : Int) * 256 + (M : Int) + (T : Int) := IntWalk.i64_in _ (by omega)
        have k7 : ¬ (F : Int) = 0 := by omega
        rw [HQM.out] at hUb HST
        have HRW := Lib.hid (H1.out.below (HBW.out.mono hB))
        have HSQ := Lib.hid fun q => (HSU.out (wr.drewN q) (HRW.out.drewN q)).mono (fun e w' h => (⟨h.1, h.2.symm⟩ : e = .returned (.int .i64 (T : Int)) ∧ w' = wr.drewN q))
        clear hQ hM hge hstep hbd2 HQM HSU
        go_wp2_with fail
        refine wp_loop_rounds 1 ?_
        rw [rounds_succ]
        go_wp2_with fail
        go_quiet ((go_at_call 38; exact Calls.quiet_of_same (HSQ.out _)))
        clear z3 z4 z5 z6 k7 k1 k2 c0 d2
        go_wp2_with fail
        go_roundw
        case rel => exact ⟨k + 1, Q * 256 + M + T, L, by omega, by congr 1; omega, by go_num, by omega, by omega, rfl, HST, Lib.hid (below_drewN' HBW.out _)⟩
        case measure => simp [intOf]
    · obtain rfl : k = n2 := by omega
      have hall : lastS l k = l.reverse := by unfold lastS; exact List.take_of_length_le (by rw [List.length_reverse, HL2.out]; omega)
      have hE := HE.out
      rw [hall] at hE
      have hBY := HBY.out
      rw [hE] at hBY
      have hLl : L.length ≤ 60 := by
        have h1 := (Ph.efold_bd HF.out (ss := l.reverse) (fun s hs => HGD.out s (by simpa using hs))).2.2
        rw [hE, List.length_reverse, HL2.out] at h1
        have : L.length ≤ k := h1
        omega
      have x1 : ((X : Int)).tdiv 65536 = ((X / 65536 : Nat) : Int) := by rw [Int.tdiv_eq_ediv_of_nonneg (by omega)]; rfl
      have x2 : (X : Int) / 65536 = ((X / 65536 : Nat) : Int) := by omega
      have x3 : ((X : Int)).tdiv 256 = ((X / 256 : Nat) : Int) := by rw [Int.tdiv_eq_ediv_of_nonneg (by omega)]; rfl
      have x4 : (X : Int) / 256 = ((X / 256 : Nat) : Int) := by omega
      have x5 : ((X / 256 : Nat) : Int).tmod 256 = ((X / 256 % 256 : Nat) : Int) := by rw [Int.tmod_eq_emod_of_nonneg (by omega)]; rfl
      have x6 : ((X / 256 : Nat) : Int) % 256 = ((X / 256 % 256 : Nat) : Int) := by omega
      have x7 : ((X : Int)).tmod 256 = ((X % 256 : Nat) : Int) := by rw [Int.tmod_eq_emod_of_nonneg (by omega)]; rfl
      have x8 : (X : Int) % 256 = ((X % 256 : Nat) : Int) := by omega
      have u1 : IntKind.u8.wrap ((X / 65536 : Nat) : Int) = ((X / 65536 : Nat) : Int) := by rw [u8_wrap]; congr 1; omega
      have u2 : IntKind.u8.wrap ((X / 256 % 256 : Nat) : Int) = ((X / 256 % 256 : Nat) : Int) := by rw [u8_wrap]; congr 1; omega
      have u3 : IntKind.u8.wrap ((X % 256 : Nat) : Int) = ((X % 256 : Nat) : Int) := by rw [u8_wrap]; congr 1; omega
      have hBE : Ph.bytes f l = [X / 65536, X / 256 % 256, X % 256] ++ L.reverse := by
        rw [hBY]; unfold Ph.told
        rw [Nat.mod_eq_of_lt (by omega : X / 65536 < 256)]; rfl
      obtain ⟨Y, hY⟩ : ∃ Y, Y = X / 256 := ⟨_, rfl⟩
      rw [← hY] at x3 x4 x5 x6 u2 hBE
      obtain ⟨a1, ha1⟩ : ∃ a, a = X / 65536 := ⟨_, rfl⟩
      obtain ⟨a2, ha2⟩ : ∃ a, a = Y % 256 := ⟨_, rfl⟩
      obtain ⟨a3, ha3⟩ : ∃ a, a = X % 256 := ⟨_, rfl⟩
      rw [← ha1] at x1 x2 u1 hBE
      rw [← ha2] at x5 x6 u2 hBE
      rw [← ha3] at x7 x8 u3 hBE
      have hcv : (convert 54 9 (.slice (some ⟨wr.heap.size, 0, none⟩) 3 3)).run Tryd.prog (wr.alloc (.cells #[.int .u8 (a1 : Int), .int .u8 (a2 : Int), .int .u8 (a3 : Int)] 5)) = .ok (.string (strB [a1, a2, a3])) (wr.alloc (.cells #[.int .u8 (a1 : Int), .int .u8 (a2 : Int), .int .u8 (a3 : Int)] 5)) :=
        conv_str (RdB.lit' wr [a1, a2, a3] 5 #[.int .u8 (a1 : Int), .int .u8 (a2 : Int), .int .u8 (a3 : Int)] (by rfl)) 3
      have hSS : strB [a1, a2, a3] ++ strB L.reverse = strB (Ph.bytes f l) := by rw [← strB_append, hBE]
      have hs1 : (strB [a1, a2, a3]).size = 3 := by rw [strB_size]; rfl
      have hs2 : (strB L.reverse).size = L.length := by rw [strB_size, List.length_reverse]
      obtain ⟨S1, hS1'⟩ : ∃ S, S = strB [a1, a2, a3] := ⟨_, rfl⟩
      obtain ⟨S2, hS2'⟩ : ∃ S, S = strB L.reverse := ⟨_, rfl⟩
      rw [← hS1'] at hcv hs1 hSS
      rw [← hS2'] at hs2 hSS ⊢
      have hss : ¬ 9223372036854775807 < S1.size + S2.size := by omega
      have HSS := Lib.hid hSS
      have hge : ¬ (0 : Int) ≤ (k : Int) - 1 - (k : Int) := by omega
      clear hall hE hBY hBE hY ha1 ha2 ha3 hSS hs1 hs2 hS1' hS2'
      go_wp2_with fail
      go_ret
      exact ⟨by rw [← HSS.out]; rfl, HBW.out.alloc HBW.out.size _⟩
end Go.Proofs.YtomaipmmjngdlaaDoor
