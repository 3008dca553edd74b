/- Walks of a session (chapter 20): the iterator of its lines (strings.Lines). -/
import Derived.Test.YtjdpgakkphdjlaaGreatDoorRunI
import Derived.Test.YtjdpgakkphdjlaaGreatDoorRound
namespace Go.Proofs.YtjdpgakkphdjlaaGreatDoor
open Go.RowKit

theorem finTake_succR (m k : Nat) (h : k < m) : (List.finRange m).take (k + 1) = (List.finRange m).take k ++ [⟨k, h⟩] := by
  rw [List.take_add_one, List.getElem?_eq_getElem (by simpa using h)]
  simp
/-- What is left of a text behind so many lines. -/
def restL (t : List UInt8) (q : Nat) : List UInt8 := ((Pr.rawL t).drop q).flatten
/-- How long the text in a variable is. -/
def lenOfW (b : Nat) (w : World) : Nat := match w.cell? ⟨b, 0, none⟩ with
  | some (.string s) => s.size
  | _ => 0
set_option maxRecDepth 100000 in
set_option maxHeartbeats 4000000 in
theorem lines1_in (n : Nat) (hn : 1 ≤ n) (l Bs : Nat) (t : List UInt8) (hlen : t.length ≤ 3000)
    (J Jx : List (Fin (Pr.rawL t).length) → World → Prop)
    (hY : ∀ pre (x : Fin (Pr.rawL t).length) W, J pre W → pre.length < (Pr.rawL t).length → YieldAt Fence.wide (n - 1) Tryz.prog l #[.string (strL ((Pr.rawL t).getD x.1 []))] W fun e W' =>
      (e = .returned (.bool true) ∧ J (pre ++ [x]) W' ∧ W'.heap[Bs]? = W.heap[Bs]?) ∨ (e = .returned (.bool false) ∧ Jx (pre ++ [x]) W'))
    (W : World) (hBs : W.heap[Bs]? = some (.cells #[.string (strL t)] 9 (0, 0))) (h0 : J [] W) (hJd : ∀ xs W' q, J xs W' → J xs (W'.drewN q)) (hJs : ∀ xs W' v, J xs W' → J xs (W'.setCell ⟨Bs, 0, none⟩ v)) :
    CallsIn Fence.wide n Tryz.prog 29 #[.func (.yield l) #[] #[], .pointer (some ⟨Bs, 0, none⟩)] W fun e W' => (∃ v, e = .returned v) ∧
      ((∃ ys, ys = List.finRange (Pr.rawL t).length ∧ J ys W') ∨ (∃ pre, pre <+: List.finRange (Pr.rawL t).length ∧ Jx pre W')) := by
  refine callsIn_of_wp Tryz.func29 rfl trivial ?_ rfl
  simp only [Tryz.ntmps29, List.size_toArray, List.length_cons, List.length_nil, Nat.reduceAdd, Nat.reduceSub, Array.replicate_succ, Array.replicate_zero, List.push_toArray, List.append_toArray, List.nil_append, List.cons_append]
  gi_wp2
  gi_loopw [3, 4] (fun _ _ wr => ∃ q : Nat, q ≤ (Pr.rawL t).length ∧ J ((List.finRange (Pr.rawL t).length).take q) wr ∧ wr.heap[Bs]? = some (.cells #[.string (strL (restL t q))] 9 (0, 0)))
    (fun _ _ wr => lenOfW Bs wr)
  case atStart => exact ⟨0, Nat.zero_le _, by simpa using h0, by rw [show restL t 0 = t from Pr.rawL_flat t.length t (Nat.le_refl _)]; exact hBs⟩
  case round =>
    obtain ⟨q, hq, hJ, hB⟩ := hrel
    have c1 := cell_of_row wr Bs 0 _ _ (0, 0) hB
    have f1 := frozen_of_row wr Bs 0 _ _ hB
    by_cases hlt : q < (Pr.rawL t).length
    · obtain ⟨p, hp, hcase⟩ := Pr.raw_next t hlt
      rcases hcase with ⟨hl, hr⟩ | ⟨hpn, hl, hr, hr2⟩
      · have hre : restL t q = p ++ 10 :: restL t (q + 1) := hr
        rw [hre] at c1 hB
        obtain ⟨R, hR0⟩ : ∃ R, R = restL t (q + 1) := ⟨_, rfl⟩
        rw [← hR0] at c1 hB
        obtain ⟨S, hS⟩ : ∃ S, S = strL (p ++ 10 :: R) := ⟨_, rfl⟩
        obtain ⟨I, hI⟩ : ∃ I, I = p.length := ⟨_, rfl⟩
        have hsz : S.size = I + 1 + R.length := by rw [hS, strL_size, hI]; simp; omega
        have HIB : Hid (∀ W, CallsIn Fence.wide (n - 1) Tryz.prog 30 #[.string S, .int .u8 10] W fun e w' => e = .returned (.int .i64 (I : Nat)) ∧ w' = W) := Lib.hid fun W => callsIn_wide.2 (by
          rw [hS]
          refine (Tryz.strings_IndexByte (strL (p ++ 10 :: R)) 10 W).mono ?_
          rintro e w' ⟨rfl, rfl⟩
          refine ⟨?_, rfl⟩
          rw [show (strL (p ++ 10 :: R)).data.toList = p ++ 10 :: R from by simp [strL]]
          rw [show ((10 : Int).toNat.toUInt8) = 10 from rfl, Pr.indexByte_hit 10 p R hp, hI])
        have hx1 : S.extract 0 (I + 1) = strL (p ++ [10]) := by
          rw [hS, hI]
          apply ByteArray.ext
          rw [ByteArray.data_extract]
          apply Array.ext'
          rw [Array.toList_extract]
          simp [strL, List.take_append]
          exact List.take_of_length_le (by omega)
        have hx2 : S.extract (I + 1) S.size = strL R := by
          rw [hsz, hS, hI]
          apply ByteArray.ext
          rw [ByteArray.data_extract]
          apply Array.ext'
          rw [Array.toList_extract]
          simp [strL, List.drop_append]
          rw [List.drop_eq_nil_of_le (by omega), List.nil_append, List.take_length]
        rw [← hS] at c1 hB
        have HY := Lib.hid (fun Wx hj => hY ((List.finRange (Pr.rawL t).length).take q) ⟨q, hlt⟩ Wx hj (by simp; omega))
        rw [hl, ← hx1, ← finTake_succR] at HY
        have HX2 := Lib.hid hx2
        have HSZ := Lib.hid hsz
        have HR0 := Lib.hid hR0
        have HJS := Lib.hid hJs
        have HJ := Lib.hid hJ
        have HJD := Lib.hid hJd
        have HBB := Lib.hid hB
        have HQ := Lib.hid hlt
        have hS3 : I + 1 + R.length ≤ 3001 := by
          have h1 := Pr.rawL_flat t.length t (Nat.le_refl _)
          have h2 : (restL t q).length ≤ t.length := by
            unfold restL
            have h3 := congrArg List.length (congrArg List.flatten (List.take_append_drop q (Pr.rawL t)))
            rw [List.flatten_append, List.length_append, h1] at h3
            omega
          rw [hre, ← hR0] at h2
          simp at h2
          omega
        have hp0 : 0 < S.size := by omega
        have hp1 : (0 : Int) < (S.size : Int) := by omega
        have w1 : IntKind.i64.wrap ((I : Int) + 1) = (I : Int) + 1 := IntWalk.i64_in _ (by omega)
        have w2 : (0 : Int) ≤ (I : Int) := by omega
        have w3 : (I : Int) + 1 ≤ (S.size : Int) := by omega
        have w4 : (0 : Int) ≤ (I : Int) + 1 := by omega
        have w5 : ((I : Int) + 1).toNat = I + 1 := by omega
        clear hS hY hJs hJ hJd hB hl hlt hr hre hI hsz hx1 hx2 hp hBs h0 hR0 hS3 hlen
        gi_wp2_with fail
        refine ⟨trivial, (HIB.out _).mono ?_⟩
        rintro e w2' ⟨rfl, rfl⟩
        clear HIB
        gi_wp2_with fail
        have f1 := frozen_of_row _ Bs 0 _ _ HBB.out
        refine wpIn_wide.2 ?_
        go_region
        obtain ⟨Wd, hWd⟩ : ∃ Wd, Wd = (w2'.setCell ⟨Bs, 0, none⟩ (.string (S.extract (I + 1) S.size))).drew := ⟨_, rfl⟩
        have hBd : Wd.heap[Bs]? = some (.cells #[.string (strL R)] 9 (0, 0)) := by
          rw [hWd]
          show (w2'.setCell ⟨Bs, 0, none⟩ (.string (S.extract (I + 1) S.size))).heap[Bs]? = _
          rw [heap_setCell_same _ Bs 0 _ _ _ HBB.out, HX2.out]; rfl
        have hJd2 : J ((List.finRange (Pr.rawL t).length).take q) Wd := by rw [hWd]; exact HJD.out _ _ 1 (HJS.out _ _ (.string (S.extract (I + 1) S.size)) HJ.out)
        rw [← hWd]
        have HBd := Lib.hid hBd
        obtain ⟨fn, tmps, assign, body, hy, hR⟩ := HY.out _ hJd2
        clear hBd hJd2 hWd f1 c1
        gi_wp2
        refine hR.mono ?_
        rintro e W3 (⟨rfl, hJ3, hk3⟩ | ⟨rfl, hJx3⟩)
        · have HB3 := Lib.hid (hk3.trans HBd.out)
          have HJ3 := Lib.hid hJ3
          clear hk3 hJ3 hy
          gi_wp2
          go_roundw
          case rel => exact ⟨q + 1, HQ.out, HJ3.out, by rw [← HR0.out]; exact HB3.out⟩
          case measure =>
            have h1 : lenOfW Bs W3 = (strL R).size := by unfold lenOfW; rw [cell_of_row W3 Bs 0 _ _ (0, 0) HB3.out]; rfl
            have h2 : lenOfW Bs w2' = S.size := by unfold lenOfW; rw [cell_of_row w2' Bs 0 _ _ (0, 0) HBB.out]; rfl
            have h3 := HSZ.out
            rw [strL_size] at h1
            omega
        · gi_wp2
          refine bodyPost_ret (results_none rfl _ _ _) rfl ?_
          exact ⟨⟨_, rfl⟩, .inr ⟨_, List.take_prefix _ _, hJx3⟩⟩
      · have hps : 0 < (strL p).size := by rw [strL_size]; exact List.length_pos_iff.2 hpn
        have hre : restL t q = p := hr
        have hre2 : restL t (q + 1) = [] := hr2
        rw [hre] at c1 hB
        obtain ⟨S, hS⟩ : ∃ S, S = strL p := ⟨_, rfl⟩
        have HIB : Hid (∀ W, CallsIn Fence.wide (n - 1) Tryz.prog 30 #[.string S, .int .u8 10] W fun e w' => e = .returned (.int .i64 (-1)) ∧ w' = W) := Lib.hid fun W => callsIn_wide.2 (by
          rw [hS]
          refine (Tryz.strings_IndexByte (strL p) 10 W).mono ?_
          rintro e w' ⟨rfl, rfl⟩
          refine ⟨?_, rfl⟩
          rw [show (strL p).data.toList = p from by simp [strL]]
          rw [show ((10 : Int).toNat.toUInt8) = 10 from rfl, Pr.indexByte_miss 10 p hp])
        rw [← hS] at c1 hB hps
        have hps' : (0 : Int) < (S.size : Int) := by omega
        clear hr hr2 hpn hp hBs h0
        have HY := Lib.hid (fun Wx hj => hY ((List.finRange (Pr.rawL t).length).take q) ⟨q, hlt⟩ Wx hj (by simp; omega))
        rw [hl, ← hS, ← finTake_succR] at HY
        have HS := Lib.hid hS
        have HJS := Lib.hid hJs
        have HJ := Lib.hid hJ
        have HJD := Lib.hid hJd
        have HBB := Lib.hid hB
        have HQ := Lib.hid hlt
        clear hS hY hJs hJ hJd hB hl hlt
        gi_wp2_with fail
        refine ⟨trivial, (HIB.out _).mono ?_⟩
        rintro e w2 ⟨rfl, rfl⟩
        clear HIB
        obtain ⟨fn, tmps, assign, body, hy, hR⟩ := HY.out _ (HJS.out _ _ (.string ⟨#[]⟩) HJ.out)
        gi_wp2
        refine hR.mono ?_
        rintro e W3 (⟨rfl, hJ3, hk3⟩ | ⟨rfl, hJx3⟩)
        · have hB3 : W3.heap[Bs]? = some (.cells #[.string ⟨#[]⟩] 9 (0, 0)) := hk3.trans (by rw [heap_setCell_same _ Bs 0 _ _ _ HBB.out]; rfl)
          have HB3 := Lib.hid hB3
          have HJ3 := Lib.hid hJ3
          clear hk3 hJ3 hB3 hy
          gi_wp2
          go_roundw
          case rel => exact ⟨q + 1, HQ.out, HJ3.out, by rw [hre2]; exact HB3.out⟩
          case measure =>
            have h1 : lenOfW Bs W3 = 0 := by unfold lenOfW; rw [cell_of_row W3 Bs 0 _ _ (0, 0) HB3.out]; rfl
            have h2 : lenOfW Bs w2 = S.size := by unfold lenOfW; rw [cell_of_row w2 Bs 0 _ _ (0, 0) HBB.out]; rfl
            omega
        · gi_wp2
          refine bodyPost_ret (results_none rfl _ _ _) rfl ?_
          exact ⟨⟨_, rfl⟩, .inr ⟨_, List.take_prefix _ _, hJx3⟩⟩
    · obtain rfl : q = (Pr.rawL t).length := by omega
      have hre : restL t (Pr.rawL t).length = [] := by unfold restL; rw [List.drop_length]; rfl
      rw [hre] at c1
      rw [List.take_of_length_le (by simp)] at hJ
      have hz : (strL []).size = 0 := rfl
      have HJ := Lib.hid hJ
      clear hY hBs h0 hJd hJs hB hre hJ
      gi_wp2
      go_end0
      exact ⟨⟨_, rfl⟩, .inl ⟨_, rfl, HJ.out⟩⟩
theorem lines_any (s : ByteArray) (w : World) :
    Calls Tryz.prog 10 #[.string s] w fun e w' => e = .returned (.func (.func 29) #[] #[.pointer (some ⟨w.heap.size, 0, none⟩)]) ∧ w' = w.alloc (.cells #[.string s] 9) := by
  have hmf : ∀ (fn : Fn) (first cap : Array Value) (w : World), (Instr.makeFunc fn first cap).run Tryz.prog w = .ok (.func fn first cap) w := fun _ _ _ _ => rfl
  go_enter Tryz.func10, Tryz.ntmps10
  go_wp2_with fail
  go_ret
  exact ⟨rfl, rfl⟩
end Go.Proofs.YtjdpgakkphdjlaaGreatDoor
