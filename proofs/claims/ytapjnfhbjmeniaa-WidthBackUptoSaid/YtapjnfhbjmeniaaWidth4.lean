/- Walks: bits as bytes, whatever comes; bytes as bits (chapter 13). -/
import Derived.Test.YtapjnfhbjmeniaaWidth3
import Derived.Test.YtapjnfhbjmeniaaPushK
import Derived.Test.YtapjnfhbjmeniaaTree2
namespace Go.Proofs.Ytapjnfhbjmeniaa
open Go.RowKit

/-- What is told of bits. -/
def octS (l : List Int) : ByteArray := if bitsErr l = 0 then strB (Ph.packed l) else ByteArray.empty
theorem octets_any (A : Option Addr) (n c : Nat) (l : List Int) (w : World) (B : Nat) (h : RdI w B A n l) (hB : B ≤ w.heap.size) (hc : n ≤ c ∧ c ≤ 9223372036854775807) :
    Calls Try.prog 12 #[.slice A n c] w fun e w' => e = .returned (.tuple #[.string (octS l), errV (bitsErr l)]) ∧ Below w.heap.size w w' := by
  have HC := Lib.hid fun W hW => wcheck_any A n c l W B hW
  have H := Lib.hid h
  by_cases h0 : bitsErr l = 0
  · have hz := bitsErr_zero.1 h0
    have hl := h.len
    have HP := Lib.hid fun W hW hBW => packed_any A n c l W B hW hBW hz.2 (by omega) hc
    have he : Hid (octS l = strB (Ph.packed l)) := Lib.hid (by unfold octS; rw [if_pos h0])
    rw [h0, errV_zero] at HC ⊢
    rw [he.out]
    obtain ⟨S, hS⟩ : ∃ S, S = strB (Ph.packed l) := ⟨_, rfl⟩
    rw [← hS] at HP ⊢
    clear h h0 hz hl hS he
    go_enter Try.func12, Try.ntmps12
    go_wp2_with fail
    refine (HC.out _ H.out).mono ?_
    rintro e wk ⟨rfl, rfl⟩
    go_wp2_with fail
    refine (HP.out _ H.out hB).mono ?_
    rintro e w1 ⟨rfl, hb⟩
    have HB1 := Lib.hid hb
    clear hb
    go_wp2_with fail
    go_ret2
    exact ⟨rfl, HB1.out⟩
  · have he : Hid (octS l = ByteArray.empty) := Lib.hid (by unfold octS; rw [if_neg h0])
    have hv := errV_ne h0
    rw [hv] at HC ⊢
    rw [he.out]
    clear h h0 hv
    go_enter Try.func12, Try.ntmps12
    go_wp2_with fail
    refine (HC.out _ H.out).mono ?_
    rintro e wk ⟨rfl, rfl⟩
    go_wp2_with fail
    go_ret2
    exact ⟨rfl, Below.refl _ _⟩
theorem wpList_twoS2 {ops : Array Oper} {rest : List Oper} {o : Oper} {a : Act} {Q : Exit → Act → World → Prop} (w : World) (hgd : o.guard = none) (s x : Operand)
    (ho : o.op = .call { callee := .builtin .append, args := #[s, x], argTypes := #[22, 22] })
    (W0 : World) {n₁ k1 k2 : Nat} {v1 v2 : Value} {l1 l2 : List Int} (y : Int) (ht : TwoS n₁ k1 k2 v1 v2 l1 l2 w) (hbel : Below n₁ W0 w)
    (hk : k2 + 1 ≤ 17592186044415) (hs : a.eval s = v2) (hx : a.eval x = .slice (some ⟨w.heap.size, 0, none⟩) 1 1)
    (h : ∀ g cap w', TwoS n₁ k1 (k2 + 1) v1 (.slice (some ⟨g, 0, none⟩) (k2 + 1) cap) l1 (l2 ++ [y]) w' → Below n₁ W0 w' → wpList Try.prog ops Q rest (a.put o.dst (.slice (some ⟨g, 0, none⟩) (k2 + 1) cap)) w') :
    wpList Try.prog ops Q (o :: rest) a (w.alloc (.cells #[.int .i64 y] 3)) := by
  obtain ⟨i0, hi, hz0, hz1, hz2⟩ := info_parts int_info
  have hbase := ht.2.2.2
  have htA := ht.alloc (.cells #[.int .i64 y] 3)
  refine wpList_append_lies _ hgd s x 22 ho n₁ 3 i0 (.int .i64 0) 1 8 Try.underlying22 hi hz0 hz1 hz2 rfl (by omega) _ _ _ hs (ht.2.1.alloc _) ⟨w.heap.size, 0, none⟩ 1 1 [.int .i64 y] hx rfl ?_ ?_ (by omega) ?_ ?_ ?_ (w.heap.size + 1) (by simp) ?_
  · intro j u hj
    match j, hj with
    | 0, hj => simp at hj; subst hj; simp [Addr.add]
  · intro u hu
    simp at hu
    subst hu
    rfl
  · unfold maxLen; omega
  · omega
  · simp; omega
  · intro g cap w' ho' hg hat _
    refine h g cap w' (htA.right (by rw [ivals_append]; exact ho') hg (hat.imp id (fun e => by first | exact e | (rw [e]; simp)))) ?_
    refine (hbel.alloc hbase _).grown hg (by simp; omega) ?_
    intro q hq
    exact (htA.2.1.lt q hq).1
theorem opened_spread (bs : List Nat) : Ph.spread (bs.map fun (x : Nat) => (x : Int)) (List.replicate bs.length 8) = Ph.opened bs := by
  induction bs with
  | nil => rfl
  | cons x bs ih =>
    rw [List.map_cons, List.length_cons, List.replicate_succ, Ph.spread, ih, Ph.opened_cons]
    rfl
theorem nmap_take (bs : List Nat) (k : Nat) (h : k < bs.length) : (bs.take (k + 1)).map (fun (x : Nat) => (x : Int)) = (bs.take k).map (fun (x : Nat) => (x : Int)) ++ [(bs.getD k 0 : Int)] := by
  rw [List.take_add_one, List.getElem?_eq_getElem h, List.map_append, List.getD_eq_getElem?_getD, List.getElem?_eq_getElem h]
  rfl
set_option maxRecDepth 100000 in
set_option maxHeartbeats 4000000 in
theorem open_any (s : ByteArray) (w : World) (hs : s.size ≤ 1000) :
    Calls Try.prog 40 #[.string s] w (OwnI 3 (Ph.opened (bytesOf s)) w) := by
  obtain ⟨cc, oo, hcv, hcc, hrd⟩ := conv_bytes s w
  have HBL := Lib.hid (bytesOf_length s)
  have HLT := Lib.hid (bytesOf_lt s)
  have HBA : Hid (Below w.heap.size w (w.drew.alloc oo)) := Lib.hid ((Below.refl _ _).drew.alloc (Nat.le_refl _) oo)
  have hsz0 : (w.drew.alloc oo).heap.size = w.heap.size + 1 := by simp
  obtain ⟨W1, hW1⟩ : ∃ W1, W1 = w.drew.alloc oo := ⟨_, rfl⟩
  rw [← hW1] at hcv hrd HBA hsz0
  obtain ⟨bs, hbs⟩ : ∃ bs, bs = bytesOf s := ⟨_, rfl⟩
  rw [← hbs] at hrd HBL HLT ⊢
  have HRD := Lib.hid hrd
  have HSZ := Lib.hid hsz0
  have hn : s.size ≤ 1000 := hs
  obtain ⟨N, hN⟩ : ∃ N, N = s.size := ⟨_, rfl⟩
  rw [← hN] at hcv hcc HRD HBL hn
  clear hrd hW1 hbs hsz0 hs hN
  go_enter Try.func40, Try.ntmps40
  go_wp2_with fail
  go_loopw [3, 4, 6, 10] (fun sl sw _ i wr => ∃ (k : Nat) (v1 v2 : Value), k ≤ N ∧ i = .int .i64 k ∧ sl = v1 ∧ sw = v2 ∧ Hid (TwoS W1.heap.size k k v1 v2 ((bs.take k).map fun (x : Nat) => (x : Int)) (List.replicate k 8) wr) ∧ Hid (Below W1.heap.size W1 wr)) (fun _ _ _ i _ => N - (intOf i).toNat)
  case atStart => exact ⟨0, .slice none 0 0, .slice none 0 0, Nat.zero_le _, rfl, rfl, rfl, Lib.hid ⟨own_nil _ _ _, own_nil _ _ _, fun q hq => by simp [Value.ownBlock] at hq, Nat.le_refl _⟩, Lib.hid (Below.refl _ _)⟩
  case round =>
    obtain ⟨k, v1, v2, hk, rfl, rfl, rfl, HT, HBW⟩ := hrel
    obtain ⟨A1, k1, rfl⟩ := own_slice HT.out.1
    obtain ⟨A2, k2, rfl⟩ := own_slice HT.out.2.1
    by_cases hlt : k < N
    · have hbl : k < bs.length := by rw [HBL.out]; exact hlt
      obtain ⟨b0, o0, hA0, hb0, c0'⟩ := HRD.out.at_ hlt
      have c0 := (HBW.out.cell (p := ⟨b0, o0 + k, none⟩) (by rw [HSZ.out]; exact hb0)).trans c0'
      have hx := HLT.out (bs.getD k 0) (by rw [List.getD_eq_getElem?_getD, List.getElem?_eq_getElem hbl]; simp)
      have hnt := nmap_take bs k hbl
      have hw := HBW.out.size
      obtain ⟨rfl, rfl⟩ : w.heap.size = b0 ∧ 0 = o0 := by simpa using hA0
      rw [Nat.zero_add] at c0
      obtain ⟨x, hxe⟩ : ∃ x, x = bs.getD k 0 := ⟨_, rfl⟩
      rw [← hxe] at c0 hx hnt
      have HNT := Lib.hid hnt
      have hcx : IntKind.i64.wrap (x : Int) = (x : Int) := IntWalk.i64_in _ (by omega)
      have hlt' : (k : Int) < (N : Int) := by omega
      clear hnt hxe hbl c0' hA0
      go_wp2_with (first
        | (at_builtin; refine wpList_twoS1 _ (by rfl) _ _ (by rfl) W1 (x : Int) HT.out HBW.out (by omega) (by rfl) (by rfl) ?_; intro g1 cp1 wa hta hba; have HTA := Lib.hid hta; have HBA1 := Lib.hid hba; clear hta hba)
        | (at_builtin; refine wpList_twoS2 _ (by rfl) _ _ (by rfl) W1 8 HTA.out HBA1.out (by omega) (by rfl) (by rfl) ?_; intro g2 cp2 wb htb hbb; have HTB := Lib.hid htb; have HBB := Lib.hid hbb; clear htb hbb))
      exact ⟨⟨k + 1, _, _, by omega, by go_num, rfl, rfl, Lib.hid (by rw [HNT.out, List.replicate_succ']; exact HTB.out), HBB⟩, by simp [intOf]; omega⟩
    · obtain rfl : k = N := by omega
      have hall : bs.take k = bs := List.take_of_length_le (by rw [HBL.out]; omega)
      have ht := HT.out
      rw [hall] at ht
      have hsp := opened_spread bs
      rw [HBL.out] at hsp
      have hbd : (Ph.spread (bs.map fun (x : Nat) => (x : Int)) (List.replicate k 8)).length ≤ 8000 := by
        rw [hsp, Ph.opened_length, HBL.out]; omega
      have HSP := Lib.hid (spread_any A1 A2 k k1 k2 (bs.map fun (x : Nat) => (x : Int)) (List.replicate k 8) wr wr.heap.size (RdI.own ht.1) (RdI.own ht.2.1) (Nat.le_refl _) (by omega) (fun x hx => by
        obtain ⟨y, hy, rfl⟩ := List.mem_map.1 hx
        have := HLT.out y hy
        omega) (fun x hx => by rw [List.eq_of_mem_replicate hx]; omega) (by omega))
      rw [hsp] at HSP
      have HBX := Lib.hid (HBA.out.trans (HBW.out.mono (by have := HSZ.out; omega)))
      clear hall ht hsp hbd
      go_wp2_with fail
      refine HSP.out.mono ?_
      rintro e w9 ⟨A9, c9, rfl, ho, hb⟩
      have HO9 := Lib.hid (own_more ho HBX.out.size)
      have HB9 := Lib.hid (below_on HBX.out hb)
      clear ho hb
      go_wp2_with fail
      go_ret
      exact ⟨A9, c9, rfl, HO9.out, HB9.out⟩
theorem contains_any (A : Option Addr) (n c : Nat) (l : List Int) (x : Int) (w : World) (B : Nat) (h : RdI w B A n l) (hn : n ≤ 100000000000000) :
    Calls Try.prog 41 #[.slice A n c, .int .i64 x] w fun e w' => e = .returned (.bool (l.contains x)) ∧ w = w' := by
  have hl := h.len
  rcases Nat.eq_zero_or_pos n with h0 | h0
  · subst h0
    have : l = [] := List.length_eq_zero_iff.1 hl
    subst this
    refine (Try.slices_Contains_int_empty A c x w).mono ?_
    rintro e w' ⟨rfl, rfl⟩
    exact ⟨rfl, rfl⟩
  · obtain ⟨b, off, rfl, _, _⟩ := h.at_ h0
    refine (Try.slices_Contains_int b off n c l x w (by omega) (by omega) (fun j hj => ?_)).mono ?_
    · obtain ⟨b', off', hA, _, hc⟩ := h.at_ (k := j) (by omega)
      obtain ⟨rfl, rfl⟩ : b = b' ∧ off = off' := by simpa using hA
      exact hc
    · rintro e w' ⟨rfl, rfl⟩
      exact ⟨by rw [List.take_of_length_le (by omega)], rfl⟩
/-- What is wrong with bytes as so many bits. -/
def wbitsErr (b : List Nat) (m : Int) : Int := if m < 0 ∨ 400 < m then 1 else if (b.length : Int) ≠ (m + 7) / 8 then 3 else if ((Ph.opened b).drop m.toNat).contains 1 = true then 2 else 0
def wbitsL (b : List Nat) (m : Int) : List Int := if wbitsErr b m = 0 then (Ph.opened b).take m.toNat else []
set_option maxRecDepth 100000 in
set_option maxHeartbeats 2000000 in
theorem bits_any (s : ByteArray) (m : Int) (w : World) (hs : s.size ≤ 140737488351232) :
    Calls Try.prog 13 #[.string s, .int .i64 m] w (ToldL 3 (wbitsErr (bytesOf s) m) (wbitsL (bytesOf s) m) w) := by
  have hbl := bytesOf_length s
  by_cases hm : m < 0 ∨ 400 < m
  · have hE : wbitsErr (bytesOf s) m = 1 := by unfold wbitsErr; rw [if_pos hm]
    have hL : wbitsL (bytesOf s) m = [] := by unfold wbitsL; rw [if_neg (by omega)]
    have hc : m < 0 ∨ (¬ m < 0 ∧ 400 < m) := by omega
    rw [hE, hL]
    clear hE hL hm hbl
    rcases hc with h1 | ⟨h1, h2⟩
    all_goals
      go_enter Try.func13, Try.ntmps13
      go_wp2_with fail
      go_ret2
      exact ToldL.none _ _ _ (errV_ne (by omega)).symm (Below.refl _ _)
  · obtain ⟨M, rfl⟩ := Int.eq_ofNat_of_zero_le (by omega : 0 ≤ m)
    have hm1 : ¬ (M : Int) < 0 := by omega
    have hm2 : ¬ (400 : Int) < (M : Int) := by omega
    have k1 : IntKind.i64.wrap ((M : Int) + 8) = (M : Int) + 8 := IntWalk.i64_in _ (by omega)
    have k2 : ((M : Int) + 8 - 1) = ((M + 7 : Nat) : Int) := by omega
    have k3 : (((M + 7 : Nat) : Int)).tdiv 8 = (((M + 7) / 8 : Nat) : Int) := by rw [Int.tdiv_eq_ediv_of_nonneg (by omega)]; rfl
    have k4 : ((M : Int) + 8 - 1).tdiv 8 = (((M + 7) / 8 : Nat) : Int) := by rw [k2, k3]
    have k5 : ((M : Int) + 8 - 1) / 8 = (((M + 7) / 8 : Nat) : Int) := by omega
    by_cases hsz : s.size = (M + 7) / 8
    · have HOP := Lib.hid fun W => open_any s W (by omega)
      have hE0 : wbitsErr (bytesOf s) M = if ((Ph.opened (bytesOf s)).drop M).contains 1 = true then 2 else 0 := by
        unfold wbitsErr; rw [if_neg hm, if_neg (by rw [hbl, hsz]; omega), Int.toNat_natCast]
      have hol : (Ph.opened (bytesOf s)).length = 8 * ((M + 7) / 8) := by rw [Ph.opened_length, hbl, hsz]
      have hL0 : wbitsL (bytesOf s) M = if wbitsErr (bytesOf s) M = 0 then (Ph.opened (bytesOf s)).take M else [] := by unfold wbitsL; rw [Int.toNat_natCast]
      obtain ⟨O, hO⟩ : ∃ O, O = Ph.opened (bytesOf s) := ⟨_, rfl⟩
      rw [← hO] at HOP hE0 hol hL0
      obtain ⟨N, hN⟩ : ∃ N, N = 8 * ((M + 7) / 8) := ⟨_, rfl⟩
      rw [← hN] at hol
      have hMN : M ≤ N ∧ N ≤ 408 := by omega
      obtain ⟨z, hz⟩ : ∃ z, z = (O.drop M).contains 1 := ⟨_, rfl⟩
      rw [← hz] at hE0
      have HZ := Lib.hid hz
      have HOL := Lib.hid hol
      have hsi : (s.size : Int) = (((M + 7) / 8 : Nat) : Int) := by rw [hsz]
      obtain ⟨Z, hZs⟩ : ∃ Z : Nat, Z = (M + 7) / 8 := ⟨_, rfl⟩
      rw [← hZs] at hsi k3 k4 k5
      have j1 : ((Z : Int) != (Z : Int)) = false := by simp
      obtain ⟨E, hEE⟩ : ∃ E, E = wbitsErr (bytesOf s) M := ⟨_, rfl⟩
      obtain ⟨LL, hLL⟩ : ∃ LL, LL = wbitsL (bytesOf s) M := ⟨_, rfl⟩
      rw [← hEE] at hE0 hL0 ⊢
      rw [← hLL] at hL0 ⊢
      have HE := Lib.hid hE0
      have HLL := Lib.hid hL0
      clear hm hbl hE0 hol hL0 hO hN hz hsz hZs hEE hLL hs
      go_enter Try.func13, Try.ntmps13
      go_wp2_with fail
      refine (HOP.out _).mono ?_
      rintro e w1 ⟨A1, c1, rfl, ho, hb⟩
      rw [HOL.out] at ho ⊢
      have hcap := own_cap ho
      have HRD := Lib.hid (RdI.own ho)
      have HB1 := Lib.hid hb
      have HD := Lib.hid ((RdI.own ho).drop_if (k := M) hMN.1 hcap)
      have hMc : (M : Int) ≤ (c1 : Int) := by omega
      have hM0 : (0 : Int) ≤ (M : Int) := by omega
      have hMN' : (M : Int) ≤ (N : Int) := by omega
      have HCN := Lib.hid fun A' c' (hA : RdI w1 w1.heap.size A' (N - M) (O.drop M)) => contains_any A' (N - M) c' (O.drop M) 1 w1 _ hA (by omega)
      rw [← HZ.out] at HCN
      have HTK := Lib.hid ((RdI.own ho).take (k := M) hMN.1)
      clear ho hb HOP
      by_cases hcc : c1 = M
      · have HD2 := HD.out
        rw [if_pos hcc] at HD2
        have HD3 := Lib.hid HD2
        clear HD2 HD
        go_wp2_with fail
        refine (HCN.out _ _ HD3.out).mono ?_
        rintro e w2 ⟨rfl, rfl⟩
        cases hzz : z with
        | true =>
          have hE2 : E = 2 := by rw [HE.out, hzz]; rfl
          have hL2 : LL = [] := by rw [HLL.out, if_neg (by omega)]
          subst hE2 hL2
          clear hzz
          go_wp2_with fail
          go_ret2
          exact ToldL.none _ _ _ (errV_ne (by omega)).symm HB1.out
        | false =>
          have hE2 : E = 0 := by rw [HE.out, hzz]; rfl
          have hL2 : LL = O.take M := by rw [HLL.out, if_pos hE2]
          have HTL : Hid ((O.take M).length = M) := Lib.hid (by rw [List.length_take, HOL.out]; omega)
          subst hE2 hL2
          clear hzz
          obtain ⟨T, hT⟩ : ∃ T, T = O.take M := ⟨_, rfl⟩
          rw [← hT] at HTK HTL
          have HTT := Lib.hid hT
          clear hT
          go_wp2_with fail
          refine (clone_any _ _ _ _ _ _ HTK.out (by omega)).mono ?_
          rintro e w2 ⟨A5, c5, rfl, ho, hb⟩
          have HO5 := Lib.hid (own_more ho HB1.out.size)
          have HB5 := Lib.hid (below_on HB1.out hb)
          clear ho hb
          go_wp2_with fail
          go_ret2
          rw [← HTT.out]
          exact ⟨A5, c5, by rw [HTL.out, errV_zero]; rfl, by rw [HTL.out]; exact HO5.out, HB5.out⟩
      · have HD2 := HD.out
        rw [if_neg hcc] at HD2
        have HD3 := Lib.hid HD2
        clear HD2 HD
        go_wp2_with fail
        refine (HCN.out _ _ HD3.out).mono ?_
        rintro e w2 ⟨rfl, rfl⟩
        cases hzz : z with
        | true =>
          have hE2 : E = 2 := by rw [HE.out, hzz]; rfl
          have hL2 : LL = [] := by rw [HLL.out, if_neg (by omega)]
          subst hE2 hL2
          clear hzz
          go_wp2_with fail
          go_ret2
          exact ToldL.none _ _ _ (errV_ne (by omega)).symm HB1.out
        | false =>
          have hE2 : E = 0 := by rw [HE.out, hzz]; rfl
          have hL2 : LL = O.take M := by rw [HLL.out, if_pos hE2]
          have HTL : Hid ((O.take M).length = M) := Lib.hid (by rw [List.length_take, HOL.out]; omega)
          subst hE2 hL2
          clear hzz
          obtain ⟨T, hT⟩ : ∃ T, T = O.take M := ⟨_, rfl⟩
          rw [← hT] at HTK HTL
          have HTT := Lib.hid hT
          clear hT
          go_wp2_with fail
          refine (clone_any _ _ _ _ _ _ HTK.out (by omega)).mono ?_
          rintro e w2 ⟨A5, c5, rfl, ho, hb⟩
          have HO5 := Lib.hid (own_more ho HB1.out.size)
          have HB5 := Lib.hid (below_on HB1.out hb)
          clear ho hb
          go_wp2_with fail
          go_ret2
          rw [← HTT.out]
          exact ⟨A5, c5, by rw [HTL.out, errV_zero]; rfl, by rw [HTL.out]; exact HO5.out, HB5.out⟩
    · have hE : wbitsErr (bytesOf s) M = 3 := by unfold wbitsErr; rw [if_neg hm, if_pos (by rw [hbl]; omega)]
      have hL : wbitsL (bytesOf s) M = [] := by unfold wbitsL; rw [if_neg (by omega)]
      obtain ⟨Z, hZs⟩ : ∃ Z : Nat, Z = (M + 7) / 8 := ⟨_, rfl⟩
      rw [← hZs] at hsz k3 k4 k5
      have j1 : ((s.size : Int) != (Z : Int)) = true := by simp; omega
      rw [hE, hL]
      clear hE hL hm hbl hZs hsz
      go_enter Try.func13, Try.ntmps13
      go_wp2_with fail
      go_ret2
      exact ToldL.none _ _ _ (errV_ne (by omega)).symm (Below.refl _ _)
end Go.Proofs.Ytapjnfhbjmeniaa
