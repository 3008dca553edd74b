/- The walk of the law TopStream. -/
import Derived.Test.YtmohilfebgahoaaGreatDoorStreamW
import Derived.Test.YtmohilfebgahoaaGreatDoorSameP
import Derived.Test.YtmohilfebgahoaaGreatDoorFrame
import Derived.Test.YtmohilfebgahoaaGreatDoorOne
import Derived.Test.YtmohilfebgahoaaGreatDoorTold
import Derived.Test.YtmohilfebgahoaaGreatDoorOpen
import Derived.Deep.QuietTactic
import Derived.Deep.DeepCutAuto
import Derived.Deep.CutBlock
import Derived.Deep.Cut
namespace Go.Proofs.YtmohilfebgahoaaGreatDoor
open Go.RowKit

theorem tlnew_no (A : Option Addr) (n c : Nat) (s : List Int) (bits : Int) (w : World) (B : Nat) (h : RdI w B A n s) (hn : n ≤ 100000000000000) (h0 : newErr s bits ≠ 0) :
    Calls Tryz.prog 5 #[.slice A n c, .int .i64 bits] w fun e w' => e = .returned (.tuple #[.pointer none, errV (newErr s bits)]) ∧ w' = w := by
  have HN := Lib.hid (hnew_no A n c s bits w B h hn h0)
  rw [errV_ne h0] at HN ⊢
  clear h hn h0
  go_enter Tryz.func5, Tryz.ntmps5
  go_wp2_with fail
  refine HN.out.mono ?_
  rintro e w1 ⟨rfl, rfl⟩
  go_wp2_with fail
  go_ret2
  exact ⟨rfl, rfl⟩
theorem wpList_pushF2 {ops : Array Oper} {rest : List Oper} {o : Oper} {a : Act} {Q : Exit → Act → World → Prop} (w : World) (N : Nat) (hN : w.heap.size = N) (hgd : o.guard = none) (s x : Operand)
    (ho : o.op = .call { callee := .builtin .append, args := #[s, x], argTypes := #[50, 50] })
    (base : Nat) (A : Option Addr) (k c : Nat) (vs : List Value) (y : Value) (hown : w.ownsRow base 36 1 (.slice A k c) k vs) (hbase : base ≤ w.heap.size)
    (hy : y.oneCell' = true) (hk : k + 1 ≤ 4000000000) (hs : a.eval s = .slice A k c) (hx : a.eval x = .slice (some ⟨N, 0, none⟩) 1 1)
    (h : ∀ g cap w', w'.ownsRow base 36 1 (.slice (some ⟨g, 0, none⟩) (k + 1) cap) (k + 1) (vs ++ [y]) → (w.alloc (.cells #[y] 36)).grownBy w' (Value.slice A k c).ownBlock → wpList Tryz.prog ops Q rest (a.put o.dst (.slice (some ⟨g, 0, none⟩) (k + 1) cap)) w') :
    wpList Tryz.prog ops Q (o :: rest) a (w.alloc (.cells #[y] 36)) := by
  subst hN
  exact wpList_pushF w hgd s x ho base A k c vs y hown hbase hy hk hs hx h
theorem frame_few {p : List Ph.Part} {s : List Int} {bits : Int} (h : Ph.frameErr p s bits = 0) : p.length ≤ 100000000000000 ∧ ∀ x ∈ p, x.pulses.length ≤ 100000000000000 := by
  have hz := Ph.frameErr_zero.1 h
  have h8 := (Ph.bandErr_zero.1 hz.1).2.1
  have := congrArg List.length hz.2.1
  rw [List.length_map] at this
  exact ⟨by omega, fun p hp => by have := (Ph.pulsesErr_zero.1 (hz.2.2.1 p hp).2).1; omega⟩
set_option maxHeartbeats 8000000 in
set_option maxRecDepth 1000000 in
theorem topStream_walk (w : World) (A0 : Option Addr) (n0 c0 : Nat) (ls : List (List Int)) (h0 : RdR w w.heap.size A0 n0 ls) (_hb0 : n0 ≤ c0 ∧ c0 ≤ 5864062014804) (hls : ∀ l ∈ ls, l.length ≤ 17592186044415 ∧ ∀ x ∈ l, Is64 x) (A1 : Option Addr) (n1 c1 : Nat) (s : List Int) (h1 : RdI w w.heap.size A1 n1 s) (hb1 : n1 ≤ c1 ∧ c1 ≤ 17592186044415) (_ : ∀ x ∈ s, Is64 x) (bits keep : Int) (ht : Lib.TabIs Tryz.prog w "internal/strconv.uint64pow10" .u64 Lib.pow10Tab) :
    Calls Tryz.prog 4 #[.slice A0 n0 c0, .slice A1 n1 c1, .int .i64 bits, .int .i64 keep] w fun e w' => e = .returned (.bool true) ∧ Below w.heap.size w w' := by
  have HT := Lib.hid ht
  have H0 := Lib.hid h0
  have H1 := Lib.hid h1
  have HLS := Lib.hid hls
  have HN1 : Hid (n1 ≤ 100000000000000) := Lib.hid (by omega)
  have HL0 := Lib.hid h0.len
  have HON := Lib.hid (one_any w)
  obtain ⟨b, hb⟩ : ∃ b, b = w.heap.size := ⟨_, rfl⟩
  have HBE := Lib.hid hb
  clear ht h0 h1 hls hb _hb0 hb1
  go_enter Tryz.func4, Tryz.ntmps4
  go_wp2_with fail
  refine HON.out.mono ?_
  rintro e w1 ⟨rfl, hb⟩
  have HB1 := Lib.hid hb
  clear hb HON
  by_cases hE : newErr s bits = 0
  · have hn8 : n1 ≤ 1000000 := by
      have h1 := (Ph.bandErr_zero.1 (newErr_zero.1 hE).1).2.1
      have h2 := H1.out.len
      omega
    have HNW := Lib.hid (lnew_ok A1 n1 c1 s bits w1 w.heap.size (H1.out.below HB1.out) HB1.out.size hE hn8)
    have HNP := Lib.hid fun W (hW : Below w.heap.size w W) => hnew_ok A1 n1 c1 s bits W w.heap.size (H1.out.below hW) hW.size hE
    have HN14 : Hid (n1 ≤ 100000000000000) := Lib.hid (by omega)
    have HLO := Lib.hid fun W (hW : Below w.heap.size w W) => long_any A1 n1 c1 s bits W w.heap.size (H1.out.below hW) HN14.out
    clear hE hn8
    go_wp2_with fail
    refine HNW.out.mono ?_
    rintro e w2 ⟨X, As, cs, rfl, hl, hb⟩
    have HB2 := Lib.hid (below_on HB1.out hb)
    have HL2 := Lib.hid (hl.more (b := b) (by rw [HBE.out]; exact HB1.out.size))
    clear hl hb HNW
    go_wp2_with fail
    refine (HNP.out w2 HB2.out).mono ?_
    rintro e w3 ⟨Y, Ys, ys, rfl, hp, hb⟩
    have HB3 := Lib.hid (below_on HB2.out hb)
    have HL3 := Lib.hid (HL2.out.below' hb)
    have HP3 := Lib.hid (hp.more (b := b) (by rw [HBE.out]; exact HB2.out.size))
    clear hp hb HNP HL2
    by_cases hlo : longErr s bits = 0
    · have HMB := Lib.hid (longN_bd hlo)
      have HMX := Lib.hid fun p (hp : Ph.frameErr p s bits = 0) => (made_pack hp).2 hlo
      have HPL := Lib.hid fun p (hp : Ph.packErr p s bits = 0) => pack_long hp hlo
      rw [hlo] at HLO
      obtain ⟨m, hm⟩ : ∃ m, m = longN s bits := ⟨_, rfl⟩
      rw [← hm] at HMB HPL HLO
      clear hlo hm
      go_wp2_with fail
      refine (HLO.out w3 HB3.out).mono ?_
      rintro e w4 ⟨rfl, rfl⟩
      rw [errV_zero]
      clear HLO
      go_wp2_with fail
      have HNS := Lib.hid HN14.out
      have HSW0 : Hid (StreamW (w3.alloc (.cells #[.int .i64 m, .int .i64 m, .int .i64 0] 49)) b X Y w3.heap.size As Ys n1 cs ys s bits m none 0 0 [] []) := Lib.hid (by
        have hb3 : b ≤ w3.heap.size := by rw [HBE.out]; exact HB3.out.size
        have hm := HMB.out
        exact ⟨none, 0, 0, newS, 0, [], HL3.out.below' (below_alloc0 _ _), stream_new, HP3.out.below' (below_alloc0 _ _), heap_alloc_new w3 _, hb3, ⟨by omega, by omega⟩, own_nil _ _ _, trivial, rfl, by simp; omega⟩)
      have HBW0 : Hid (Below w.heap.size w (w3.alloc (.cells #[.int .i64 m, .int .i64 m, .int .i64 0] 49))) := Lib.hid (below_onAlloc HB3.out _)
      obtain ⟨W0, hW0⟩ : ∃ W0, W0 = w3.alloc (.cells #[.int .i64 m, .int .i64 m, .int .i64 0] 49) := ⟨_, rfl⟩
      obtain ⟨K, hK⟩ : ∃ K, K = w3.heap.size := ⟨_, rfl⟩
      rw [← hW0, ← hK] at HSW0
      rw [← hW0] at HBW0
      rw [← hW0, ← hK]
      clear hW0 hK HL3 HP3 HB3 HB2 HB1
      go_loopw [16, 17, 18, 19, 20] (fun fr ii _ _ _ wr => ∃ (i k fc : Nat) (fA : Option Addr) (pss : List (List Ph.Part)), i ≤ 20 ∧ k ≤ i ∧ ii = .int .i64 i ∧ fr = .slice fA k fc ∧ Hid (StreamW wr b X Y K As Ys n1 cs ys s bits m fA k fc pss pss) ∧ Hid (Below w.heap.size w wr)) (fun _ ii _ _ _ _ => 20 - (intOf ii).toNat)
      case atStart => exact ⟨0, 0, 0, none, [], by omega, by omega, rfl, rfl, HSW0, HBW0⟩
      case round =>
        obtain ⟨i, k, fc, fA, pss, hi, hk, rfl, rfl, HSW, HBW⟩ := hrel
        clear HSW0 HBW0
        have HKL := Lib.hid HSW.out.len
        obtain ⟨q, hq⟩ : ∃ q, q = (decide (i < n0) && decide (i < 20)) := ⟨_, rfl⟩
        have HQ := Lib.hid hq
        clear hq
        go_upto_region 14 with (fail)
        go_cut [72] (fun s72 wx => s72 = .bool q ∧ wx = wr)
        case first =>
          as_aux_lemma =>
            by_cases h1 : i < n0
            · have h1' : (i : Int) < (n0 : Int) := by omega
              by_cases h3 : i < 20
              · obtain rfl : q = true := by rw [HQ.out]; simp [h1, h3]
                have h3' : (i : Int) < 20 := by omega
                go_wp2_with fail
                go_meet
                case rel => exact ⟨rfl, rfl⟩
              · obtain rfl : q = false := by rw [HQ.out]; simp [h1, h3]
                have h3' : ¬ (i : Int) < 20 := by omega
                go_wp2_with fail
                go_meet
                case rel => exact ⟨rfl, rfl⟩
            · obtain rfl : q = false := by rw [HQ.out]; simp [h1]
              have h1' : ¬ (i : Int) < (n0 : Int) := by omega
              go_wp2_with fail
              go_meet
              case rel => exact ⟨rfl, rfl⟩
        case rest =>
          obtain ⟨rfl, rfl⟩ := hcut
          rename World => wr
          cases q with
          | true =>
            have hlt := HQ.out
            simp at hlt
            have hi0 : i < n0 := hlt.1
            have hi20 : i < 20 := hlt.2
            clear hlt HQ
            obtain ⟨b6, o6, A6, c6, rfl, hb6, d6, hc6, r6⟩ := (H0.out.below HBW.out).at_ hi0
            obtain ⟨l, hl⟩ : ∃ l, l = ls.getD i [] := ⟨_, rfl⟩
            have hmem : l ∈ ls := by
              have := HL0.out
              rw [hl, List.getD_eq_getElem?_getD, List.getElem?_eq_getElem (by omega)]; exact List.getElem_mem (by omega)
            have hll : l.length ≤ 100000000000000 := by have := (HLS.out l hmem).1; omega
            rw [← hl] at d6 hc6 r6
            have HEN := Lib.hid (encode_any A6 l.length c6 l A1 n1 c1 s bits wr w.heap.size r6 (H1.out.below HBW.out) HBW.out.size hll HNS.out)
            have hlt' : (i : Int) < (n0 : Int) := by omega
            clear hl hmem hll hc6 r6 hb6
            by_cases hE : Ph.encErr l s bits = 0
            · have HFE := Lib.hid ((Ph.enc_right (l := l) (sizes := s) (bits := bits) hE).1)
              rw [hE, gotP_zero] at HEN
              obtain ⟨p, hp⟩ : ∃ p, p = Ph.encoded l s bits := ⟨_, rfl⟩
              rw [← hp] at HEN HFE
              clear hp hE
              go_wp2_with fail
              refine HEN.out.mono ?_
              rintro e w4 ⟨A7, n7, c7, rfl, ho, hb⟩
              rw [errV_zero]
              have HOP := Lib.hid (ho.more (base := b) HSW.out.bw)
              have HB4 := Lib.hid (below_on HBW.out hb)
              have HS4 := Lib.hid (HSW.out.below' hb)
              have HPE := Lib.hid (HMX.out p HFE.out)
              clear ho hb HEN HSW d6
              have HPA := Lib.hid (pack_any A7 n7 c7 p A1 n1 c1 s bits w4 w4.heap.size HOP.out.rd ((H1.out.below HB4.out).more HB4.out.size) (Nat.le_refl _) (by
                have h8 := (frame_few HFE.out).1
                have := HOP.out.len; omega) HNS.out (frame_few HFE.out).2)
              rw [HPE.out, errV_zero] at HPA
              have HPZ := Lib.hid (HPL.out p HPE.out)
              obtain ⟨x, hx⟩ : ∃ x, x = packS p s bits := ⟨_, rfl⟩
              rw [← hx] at HPA HPZ
              have HPX := Lib.hid hx
              clear hx
              go_wp2_with fail
              refine HPA.out.mono ?_
              rintro e w5 ⟨rfl, hb⟩
              have HB5 := Lib.hid (below_on HB4.out hb)
              have HS5 := Lib.hid (HS4.out.below' hb)
              have HO5 := Lib.hid (HOP.out.below' hb)
              clear hb HPA HS4 HOP HB4
              have hput := s_put HS5.out HPE.out (by have := HKL.out; omega) HNS.out (tab_on HT.out HB5.out)
              rw [← HPX.out] at hput
              have HPU := Lib.hid hput
              clear hput
              go_wp2_with fail
              refine HPU.out.mono ?_
              rintro e w6 ⟨rfl, hs, hps, hbb⟩
              have HO6 := Lib.hid (hps _ _ _ _ HO5.out)
              have HB6 := Lib.hid (HB5.out.trans (by rw [← HBE.out]; exact hbb))
              obtain ⟨Aa, na, ca, S, has, vs, hs⟩ := hs
              have HS6 := Lib.hid hs
              obtain ⟨⟨t0, t1, t2⟩, f0, f1, f2⟩ := hs.tk.cells
              have HTU := Lib.hid (stream_turn (n := (x.size : Int)) hs.ok ⟨by have := HMB.out; omega, HMB.out.2⟩ ⟨by omega, HPZ.out⟩)
              have HTC := Lib.hid (tturn_ok m m has (x.size : Int) w6 ⟨by have := HMB.out; omega, by have := HMB.out; omega⟩ ⟨by have := HMB.out; omega, by omega⟩ ⟨hs.ok.1, hs.ok.2⟩ ⟨by omega, by have := HPZ.out; have := HMB.out; omega⟩ (by have := HTU.out.2; omega))
              rw [HTU.out.2.1] at HTC
              unfold tankV at HTC
              clear t0 t1 t2 f0 f1 f2
              have HT6 := Lib.hid hs.tk
              obtain ⟨⟨t0, t1, t2⟩, _⟩ := HT6.out.cells
              clear hs hps hbb HPU HS5 HO5 HB5
              go_wp2_with fail
              refine HTC.out.mono ?_
              rintro e w7 ⟨rfl, hb⟩
              have HO7 := Lib.hid (HO6.out.below' hb)
              have HS7 := Lib.hid (HS6.out.below' hb)
              have HB7 := Lib.hid (below_on HB6.out hb)
              have HK7 := Lib.hid HS7.out.kb
              have HT7 := Lib.hid HS7.out.tk
              have HZ7 := Lib.hid HTU.out.2.2
              obtain ⟨z, hz⟩ : ∃ z, z = m - (x.size : Int) := ⟨_, rfl⟩
              rw [← hz] at HZ7
              rw [← hz]
              clear t0 t1 t2 hb HTC HO6 HS6 HB6 HT6 HTU HPZ hz
              obtain ⟨_, f0, f1, f2⟩ := HT7.out.cells
              have hK7 : K < w7.heap.size := some_lt HT7.out
              have HS8 := Lib.hid (HS7.out.turned HZ7.out (KeptBut.set3 w7 K (.int .i64 m) (.int .i64 m) (.int .i64 z)) (HT7.out.set m m z))
              have HO8 := Lib.hid (turned_part HS7.out (KeptBut.set3 w7 K (.int .i64 m) (.int .i64 m) (.int .i64 z)) HO7.out)
              have HB8 := Lib.hid (HB7.out.trans ((KeptBut.set3 w7 K (.int .i64 m) (.int .i64 m) (.int .i64 z)).below HB7.out.size fun q hq => by subst hq; rw [← HBE.out]; exact HK7.out))
              have hk9 : k + 1 ≤ 4000000000 := by omega
              have HN8 : Hid ((((w7.setCell ⟨K, 0, none⟩ (.int .i64 m)).setCell ⟨K, 1, none⟩ (.int .i64 m)).setCell ⟨K, 2, none⟩ (.int .i64 z)).heap.size = w7.heap.size) := Lib.hid (by simp)
              have HWB : Hid (w.heap.size ≤ b) := Lib.hid (by rw [HBE.out]; exact Nat.le_refl _)
              clear HS7 HO7 HB7 HT7 HZ7 HK7 HFE
              go_wp2_with (at_builtin; refine wpList_pushF2 _ w7.heap.size HN8.out (by rfl) _ _ (by rfl) b fA k fc vs (.slice A7 n7 c7) HS8.out.row HS8.out.bw rfl hk9 (by rfl) (by rfl) ?_; intro g9 cap9 w9 ho9 hg9; have HS9 := Lib.hid (HS8.out.pushed HO8.out ho9 hg9); have HB9 := Lib.hid (HS8.out.pushed_below hg9 HWB.out HB8.out HB8.out.size); clear ho9 hg9 hK7 f0 f1 f2)
              go_roundw
              case rel => exact ⟨i + 1, k + 1, cap9, some ⟨g9, 0, none⟩, pss ++ [p], by omega, by omega, by go_num, rfl, Lib.hid ⟨_, _, _, _, _, _, HS9.out⟩, HB9⟩
              case measure => simp [intOf]; omega
            · have HNE := Lib.hid hE
              clear hE
              go_wp2_with fail
              refine HEN.out.mono ?_
              rintro e w4 ⟨A7, n7, c7, rfl, ho, hb⟩
              rw [errV_ne HNE.out]
              have HB4 := Lib.hid (below_on HBW.out hb)
              have HS4 := Lib.hid (HSW.out.below' hb)
              clear ho hb HEN HSW HBW d6 HNE
              go_wp2_with fail
              go_roundw
              case rel => exact ⟨i + 1, k, fc, fA, pss, by omega, by omega, by go_num, rfl, HS4, HB4⟩
              case measure => simp [intOf]; omega
          | false =>
            clear HQ
            have HSY := Lib.hid (s_sync HSW.out)
            have HPK : Hid (∀ p ∈ pss, Ph.packErr p s bits = 0) := Lib.hid (by obtain ⟨Aa, na, ca, S, has, vs, h⟩ := HSW.out; exact h.str.2.2.2.2.2)
            have HK20 : Hid (pss.length ≤ 20) := Lib.hid (by have := HKL.out; omega)
            have hbb := HBE.out
            go_wp2_with fail
            refine HSY.out.mono ?_
            rintro e w2 ⟨rfl, ⟨Aa, na, ca, S, has, vs, hsa, hx⟩, hb⟩
            have HB2 := Lib.hid (HBW.out.trans (by rw [← HBE.out]; exact hb))
            have HCR := Lib.hid (s_crash keep hx hsa HK20.out)
            clear hsa hx hb HSY HSW HBW
            go_wp2_with fail
            refine HCR.out.mono ?_
            rintro e w3 ⟨rfl, hs3, hb⟩
            have HB3 := Lib.hid (HB2.out.trans (by rw [← HBE.out]; exact hb))
            have HAL := Lib.hid (s_all hs3 HK20.out)
            clear hs3 hb HCR HB2
            go_wp2_with fail
            refine HAL.out.mono ?_
            rintro e w4 ⟨A5, n5, c5, vs, hn5, rfl, hy, hb⟩
            have HY4 := Lib.hid (hy trivial)
            have HB4 := Lib.hid (below_on HB3.out hb)
            obtain rfl : n5 = k := hn5.trans HKL.out.symm
            clear hn5 hy hb HAL HB3 hbb
            go_wp2_with fail
            go_loopw [22, 23, 24, 25, 26] (fun ii _ _ _ _ wx => ∃ j : Nat, j ≤ n5 ∧ ii = .int .i64 j ∧ Hid (StreamY wx b Y Ys n1 ys s bits A5 n5 c5 fA n5 fc vs pss) ∧ Hid (Below w.heap.size w wx)) (fun ii _ _ _ _ _ => n5 - (intOf ii).toNat)
            case atStart => exact ⟨0, by omega, rfl, HY4, HB4⟩
            case round =>
              obtain ⟨j, hj, rfl, HY, HBW⟩ := hrel
              clear HY4 HB4
              rename World => wx
              by_cases hlt : j < n5
              · obtain ⟨p, hp⟩ : ∃ p, p = pss.getD j [] := ⟨_, rfl⟩
                have hmem : p ∈ pss := by
                  have := HKL.out
                  rw [hp, List.getD_eq_getElem?_getD, List.getElem?_eq_getElem (by omega)]; exact List.getElem_mem (by omega)
                have HPE := Lib.hid (HPK.out p hmem)
                obtain ⟨b8, o8, hA5, hb8, d8⟩ := (RdS.own HY.out.all).at_ hlt
                have hgm : (pss.map fun p => packS p s bits).getD j ByteArray.empty = packS p s bits := by rw [hp]; exact getD_map _ _ _ _ _ (by have := HKL.out; omega)
                rw [hgm] at d8
                have HPY := Lib.hid (s_play HY.out HPE.out HNS.out)
                have HFE : Hid (Ph.frameErr p s bits = 0) := Lib.hid (by have h := HPE.out; unfold Ph.packErr at h; split at h <;> omega)
                obtain ⟨x, hx⟩ : ∃ x, x = packS p s bits := ⟨_, rfl⟩
                rw [← hx] at HPY d8
                obtain ⟨E, hE⟩ : ∃ E, E = Ph.decErr p := ⟨_, rfl⟩
                obtain ⟨L, hL⟩ : ∃ L, L = got (Ph.decErr p) (Ph.lapI (Ph.decAll p)) := ⟨_, rfl⟩
                rw [← hL, ← hE] at HPY
                have HPP := Lib.hid hp
                have HEE := Lib.hid hE
                have HLL := Lib.hid hL
                have hlt' : (j : Int) < (n5 : Int) := by omega
                subst hA5
                clear hp hmem hgm hx hE hL hb8
                go_wp2_with fail
                refine HPY.out.mono ?_
                rintro e w5 ⟨A9, n9, c9, rfl, hn9, hr9, hy, hb⟩
                have HY5 := Lib.hid hy
                have HB5 := Lib.hid (HBW.out.trans (by rw [← HBE.out]; exact hb))
                have HR5 := Lib.hid hr9
                have HN9 := Lib.hid hn9
                clear hn9 hr9 hy hb HPY d8 HY HBW
                obtain ⟨b9, o9, u9, hfA, hb9, hu9, d9⟩ := (Rd.own HY5.out.row).at_ hlt
                obtain ⟨A7, n7, c7, hv7, ho7⟩ := FramesV.get (i := j) HY5.out.frs (by have := HKL.out; omega)
                rw [← HPP.out] at ho7
                obtain rfl : u9 = .slice A7 n7 c7 := Option.some.inj (hu9.symm.trans hv7)
                have HDC := Lib.hid (decode_any A7 n7 c7 p w5 w5.heap.size ho7.rd (Nat.le_refl _) (by
                  have h8 := (frame_few HFE.out).1
                  have := ho7.len; omega) (frame_few HFE.out).2)
                rw [← HLL.out, ← HEE.out] at HDC
                subst hfA
                clear hb9 hu9 hv7 ho7
                go_wp2_with fail
                refine HDC.out.mono ?_
                rintro e w6 ⟨A8, c8, rfl, ho8, hb⟩
                have hl9 := HR5.out.len
                subst hl9
                have hL9 : L.length ≤ 100000000000000 := by have := HN9.out; omega
                have HY6 := Lib.hid (HY5.out.below' hb)
                have HB6 := Lib.hid (below_on HB5.out hb)
                have r1 := HR5.out.on hb
                have r2 : RdI w6 w6.heap.size A8 L.length L := RdI.own ho8
                have HIQ := Lib.hid fun q => ints_quiet A9 A8 L.length c9 c8 L (w6.drewN q) _ _ (r1.drewN q) (r2.drewN q) hL9
                clear hb ho8 r1 r2 hL9 HDC HR5 HY5 HB5 HN9 d9 HLL HEE HPP
                by_cases h0 : E = 0
                · subst h0
                  rw [errV_zero]
                  go_wp2_with fail
                  go_quiet (first | (go_at_call 25; exact Calls.quiet_of (HIQ.out _)))
                  go_wp2_with fail
                  go_roundw
                  case rel => exact ⟨j + 1, by omega, by go_num, Lib.hid (HY6.out.below' ⟨rfl, rfl, rfl, Nat.le_refl _, fun _ _ => rfl⟩), Lib.hid (below_drewN' HB6.out _)⟩
                  case measure => simp [intOf]; omega
                · rw [errV_ne h0]
                  go_wp2_with fail
                  go_quiet (first | (go_at_call 25; exact Calls.quiet_of (HIQ.out _)))
                  go_wp2_with fail
                  go_roundw
                  case rel => exact ⟨j + 1, by omega, by go_num, Lib.hid (HY6.out.below' ⟨rfl, rfl, rfl, Nat.le_refl _, fun _ _ => rfl⟩), Lib.hid (below_drewN' HB6.out _)⟩
                  case measure => simp [intOf]; omega
              · go_wp2_with fail
                go_ret
                exact ⟨rfl, HBW.out⟩
    · rw [errV_ne hlo] at HLO
      clear hlo
      go_wp2_with fail
      refine (HLO.out w3 HB3.out).mono ?_
      rintro e w4 ⟨rfl, rfl⟩
      go_wp2_with fail
      go_ret
      exact ⟨rfl, HB3.out⟩
  · have HNO := Lib.hid (tlnew_no A1 n1 c1 s bits w1 w.heap.size (H1.out.below HB1.out) HN1.out hE)
    have HPO := Lib.hid (hnew_no A1 n1 c1 s bits w1 w.heap.size (H1.out.below HB1.out) HN1.out hE)
    rw [errV_ne hE] at HNO HPO
    clear hE
    go_wp2_with fail
    refine HNO.out.mono ?_
    rintro e w2 ⟨rfl, rfl⟩
    go_wp2_with fail
    refine HPO.out.mono ?_
    rintro e w3 ⟨rfl, rfl⟩
    go_wp2_with fail
    go_ret
    exact ⟨rfl, HB1.out⟩
end Go.Proofs.YtmohilfebgahoaaGreatDoor
