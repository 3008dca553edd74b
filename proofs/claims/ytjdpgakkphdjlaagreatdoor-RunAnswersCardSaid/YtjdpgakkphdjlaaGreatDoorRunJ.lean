/- Walks of a session (chapter 20): a row of numbers (run.row). -/
import Derived.Test.YtjdpgakkphdjlaaGreatDoorRunS
namespace Go.Proofs.YtjdpgakkphdjlaaGreatDoor
open Go.RowKit

theorem str_info : (Tryz.prog.info? 9).map (fun i => (i.zero, i.size, i.bytes)) = some (some (.string ByteArray.empty), 1, 16) := by kernel_rfl
/-- 'append(v, x)' of one string. -/
theorem wpList_pushStr2 {ops : Array Oper} {rest : List Oper} {o : Oper} {a : Act} {Q : Exit → Act → World → Prop} (w : World) (hgd : o.guard = none) (s x : Operand)
    (ho : o.op = .call { callee := .builtin .append, args := #[s, x], argTypes := #[23, 23] })
    (base : Nat) (A : Option Addr) (k c : Nat) (l : List ByteArray) (y : ByteArray) (hown : w.ownsRow base 9 1 (.slice A k c) k (svals l)) (hbase : base ≤ w.heap.size)
    (hk : k + 1 ≤ 4000000000) (hs : a.eval s = .slice A k c) (hx : a.eval x = .slice (some ⟨w.heap.size, 0, none⟩) 1 1)
    (h : ∀ g cap w', w'.ownsRow base 9 1 (.slice (some ⟨g, 0, none⟩) (k + 1) cap) (k + 1) (svals (l ++ [y])) → (w.alloc (.cells #[.string y] 9)).grownBy w' (Value.slice A k c).ownBlock → ((Value.slice A k c).ownBlock = some g ∨ g = w.heap.size + 1) → wpList Tryz.prog ops Q rest (a.put o.dst (.slice (some ⟨g, 0, none⟩) (k + 1) cap)) w') :
    wpList Tryz.prog ops Q (o :: rest) a (w.alloc (.cells #[.string y] 9)) := by
  obtain ⟨i0, hi, hz0, hz1, hz2⟩ := info_parts str_info
  refine wpList_append_lies _ hgd s x 23 ho base 9 i0 (.string ByteArray.empty) 1 16 Tryz.underlying23 hi hz0 hz1 hz2 rfl (by omega) _ _ _ hs (hown.alloc _) ⟨w.heap.size, 0, none⟩ 1 1 [.string y] hx rfl ?_ ?_ (by omega) ?_ ?_ ?_ (w.heap.size + 1) (by simp) ?_
  · intro j u hj
    match j, hj with
    | 0, hj => simp at hj; subst hj; simp [Addr.add]
  · intro u hu
    simp at hu
    subst hu
    rfl
  · unfold maxLen; omega
  · omega
  · simp; omega
  · intro g cap w' ho' hg hq _
    exact h g cap w' (by rw [svals_append]; exact ho') hg hq
/-- 'append(v, x)' of one string. -/
theorem wpList_pushStr {ops : Array Oper} {rest : List Oper} {o : Oper} {a : Act} {Q : Exit → Act → World → Prop} (w : World) (hgd : o.guard = none) (s x : Operand)
    (ho : o.op = .call { callee := .builtin .append, args := #[s, x], argTypes := #[23, 23] })
    (base : Nat) (A : Option Addr) (k c : Nat) (l : List ByteArray) (y : ByteArray) (hown : w.ownsRow base 9 1 (.slice A k c) k (svals l)) (hbase : base ≤ w.heap.size)
    (hk : k + 1 ≤ 4000000000) (hs : a.eval s = .slice A k c) (hx : a.eval x = .slice (some ⟨w.heap.size, 0, none⟩) 1 1)
    (h : ∀ g cap w', w'.ownsRow base 9 1 (.slice (some ⟨g, 0, none⟩) (k + 1) cap) (k + 1) (svals (l ++ [y])) → (w.alloc (.cells #[.string y] 9)).grownBy w' (Value.slice A k c).ownBlock → wpList Tryz.prog ops Q rest (a.put o.dst (.slice (some ⟨g, 0, none⟩) (k + 1) cap)) w') :
    wpList Tryz.prog ops Q (o :: rest) a (w.alloc (.cells #[.string y] 9)) :=
  wpList_pushStr2 w hgd s x ho base A k c l y hown hbase hk hs hx fun g cap w' a1 a2 _ => h g cap w' a1 a2
theorem join_W : ∀ (l : List (List UInt8)), Lib.join l [32] = Pr.joinW l
  | [] => rfl
  | [x] => Lib.join_one x _
  | x :: y :: l => by
    have h := join_W (y :: l)
    unfold Lib.join at h ⊢
    show [32].intercalate (x :: y :: l) = x ++ 32 :: Pr.joinW (y :: l)
    rw [← h]
    simp [List.intercalate, List.intersperse]
set_option maxHeartbeats 4000000 in
set_option maxRecDepth 100000 in
theorem row_any (A0 : Option Addr) (n0 c0 : Nat) (l : List Int) (w : World) (hg : RunG w) (h0 : RdI w w.heap.size A0 n0 l) (hn : n0 ≤ 100000) (hb : ∀ x ∈ l, -9223372036854775808 ≤ x ∧ x ≤ 9223372036854775807) :
    Calls Tryz.prog 45 #[.slice A0 n0 c0] w fun e w' => e = .returned (.string (strL (Pr.toldL l))) ∧ Below w.heap.size w w' := by
  have HG := Lib.hid hg
  have H0 := Lib.hid h0
  have HL0 := Lib.hid h0.len
  have HBD := Lib.hid hb
  clear hg h0 hb
  go_enter Tryz.func45, Tryz.ntmps45
  go_wp2_with fail
  go_loopw [3, 5, 8] (fun out _ i wr => ∃ (k c' : Nat) (A' : Option Addr), k ≤ n0 ∧ i = .int .i64 k ∧ out = .slice A' k c' ∧ Hid (wr.ownsRow w.heap.size 9 1 (.slice A' k c') k (svals ((l.take k).map fun x => strL (Lib.itoa x)))) ∧ Hid (Below w.heap.size w wr)) (fun _ _ i _ => n0 - (intOf i).toNat)
  case atStart => exact ⟨0, 0, none, by omega, rfl, rfl, Lib.hid (own_nil _ _ _), Lib.hid (Below.refl _ _)⟩
  case round =>
    obtain ⟨k, c', A', hk, rfl, rfl, HO, HB⟩ := hrel
    by_cases hlt : k < n0
    · have hlt' : (k : Int) < (n0 : Int) := by omega
      obtain ⟨b8, o8, hA0, hb8, d8⟩ := (H0.out.below HB.out).at_ hlt
      have hkl : k < l.length := by have := HL0.out; omega
      have hmem : l.getD k 0 ∈ l := by rw [List.getD_eq_getElem?_getD, List.getElem?_eq_getElem hkl]; exact List.getElem_mem hkl
      have hxb := HBD.out _ hmem
      have hts := take_snoc l 0 hkl
      obtain ⟨x, hx⟩ : ∃ x, x = l.getD k 0 := ⟨_, rfl⟩
      rw [← hx] at d8 hxb hts
      have HI := Lib.hid (itoa_below x hxb.1 hxb.2 wr (HG.out.below HB.out))
      have HTS := Lib.hid hts
      subst hA0
      have hk6 : k + 1 ≤ 17592186044415 := by omega
      clear hmem hxb hts hx hkl hb8
      go_wp2_with fail
      refine HI.out.mono ?_
      rintro e w2 ⟨rfl, hb2⟩
      have HO2 := Lib.hid (own_below' HO.out hb2)
      have HB2 := Lib.hid (below_on HB.out hb2)
      have hk4 : k + 1 ≤ 4000000000 := by omega
      clear hb2 HI d8
      go_wp2_with (at_builtin; refine wpList_pushStr _ (by rfl) _ _ (by rfl) w.heap.size A' k c' _ (strL (Lib.itoa x)) HO2.out HB2.out.size hk4 (by rfl) (by rfl) ?_; intro g cap w3 ho3 hg3; have HO3 := Lib.hid ho3; have HB3 : Hid (Below w.heap.size w w3) := Lib.hid ((HB2.out.alloc HB2.out.size _).grown hg3 (by simp; have := HB2.out.size; omega) fun q hq => (HO2.out.lt q hq).1); clear ho3 hg3)
      go_roundw
      case rel =>
        refine ⟨k + 1, cap, some ⟨g, 0, none⟩, by omega, by go_num, rfl, Lib.hid ?_, HB3⟩
        rw [HTS.out, List.map_append]
        exact HO3.out
      case measure => simp [intOf]; omega
    · obtain rfl : k = n0 := by omega
      have hlt' : ¬ (k : Int) < (k : Int) := by omega
      have htl : l.take k = l := List.take_of_length_le (by have := HL0.out; omega)
      rw [htl] at HO
      have hbl : (l.map fun x => Lib.itoa x).map strL = l.map fun x => strL (Lib.itoa x) := by simp
      by_cases h0 : k = 0
      · have hl : l = [] := List.length_eq_zero_iff.1 (by have := HL0.out; omega)
        have HT : Hid (Pr.toldL l = [45]) := Lib.hid (by rw [hl]; rfl)
        subst h0
        clear hl htl hbl hlt HO
        go_wp2_with fail
        go_ret
        exact ⟨by rw [HT.out]; rfl, HB.out⟩
      · have hne : l ≠ [] := fun e => h0 (by rw [← HL0.out, e]; rfl)
        have hk0 : ((k : Int) == 0) = false := by simp; omega
        have HT : Hid (Pr.toldL l = Pr.joinW (l.map Lib.itoa)) := Lib.hid (by unfold Pr.toldL; rw [if_neg hne])
        obtain ⟨g, hA, _, hgl⟩ := own_form HO.out (by omega)
        subst hA
        have hxl : (l.map fun x => strL (Lib.itoa x)).length = k := by rw [List.length_map]; exact HL0.out
        have hdat : ((l.map fun x => strL (Lib.itoa x)).map (·.data.toList)) = l.map Lib.itoa := by rw [List.map_map]; apply List.map_congr_left; intro x _; simp [strL]
        have hjl : (Pr.joinW (l.map Lib.itoa)).length ≤ 21 * k := by
          have h := Pr.joinW_len (l.map Lib.itoa) 20 fun y hy => by
            obtain ⟨x, hx, rfl⟩ := List.mem_map.1 hy
            exact Pr.itoa_few (HBD.out x hx)
          rw [List.length_map, HL0.out] at h
          exact h
        have hJ := Tryz.strings_Join g 0 c' (l.map fun x => strL (Lib.itoa x)) ⟨#[32]⟩ wr (fun j x hx => by
          have hj : j < k := by
            rcases Nat.lt_or_ge j k with h | h
            · exact h
            · rw [List.getElem?_eq_none (by omega)] at hx; cases hx
          have := HO.out.cellAt j (by omega)
          rw [Nat.zero_add]
          rw [this]
          unfold svals
          rw [List.getElem?_map, hx]
          rfl) hgl (by omega) (by have := own_cap HO.out; omega) (by rw [hdat]; rw [show (⟨#[32]⟩ : ByteArray).data.toList = [32] from rfl, join_W]; omega)
        rw [hxl, hdat, show (⟨#[32]⟩ : ByteArray).data.toList = [32] from rfl, join_W] at hJ
        have HJ := Lib.hid hJ
        clear hne h0 hxl hdat hjl hJ htl hbl hlt hgl HO
        go_wp2_with fail
        refine HJ.out.mono ?_
        rintro e w2 ⟨rfl, hb2⟩
        have HB2 := Lib.hid (below_on HB.out hb2)
        clear hb2 HJ
        go_wp2_with fail
        go_ret
        exact ⟨by rw [HT.out]; rfl, HB2.out⟩
end Go.Proofs.YtjdpgakkphdjlaaGreatDoor
