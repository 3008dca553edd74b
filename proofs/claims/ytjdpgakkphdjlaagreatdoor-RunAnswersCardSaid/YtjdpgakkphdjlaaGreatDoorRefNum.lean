/- Walks of the reference (hornref2): a word as a number, an error's name, what is told of numbers. -/
import Derived.Test.YtjdpgakkphdjlaaGreatDoorRefRun
import Derived.Test.YtjdpgakkphdjlaaGreatDoorRunL
import Derived.Test.YtjdpgakkphdjlaaGreatDoorSound
namespace Pr
open Go

theorem valL_lt : ∀ (n : Nat) (l : List UInt8), l.length = n → l.all isDig = true → valL l < 10 ^ n
  | 0, l, h, _ => by rw [List.length_eq_zero_iff.1 h]; decide
  | n + 1, l, h, hd => by
    rcases List.eq_nil_or_concat l with rfl | ⟨r, c, rfl⟩
    · cases h
    · rw [List.concat_eq_append] at h hd ⊢
      rw [valL_snoc]
      have h1 := valL_lt n r (by simpa using h) (by rw [List.all_append] at hd; simp only [Bool.and_eq_true] at hd; exact hd.1)
      have h2 : isDig c = true := by rw [List.all_append] at hd; simpa using (by simpa using hd : _ ∧ _).2
      unfold isDig at h2
      simp at h2
      rw [Nat.pow_succ]
      omega
theorem numOk_yes {t : List UInt8} (h1 : t ≠ []) (h2 : t.length ≤ 4) (h3 : ¬ (t.head? = some 48 ∧ 1 < t.length)) (h4 : t.all isDig = true) : numOk t = true := by
  unfold numOk
  rw [h4]
  have e1 : t.isEmpty = false := by cases t with | nil => exact absurd rfl h1 | cons => rfl
  rw [e1]
  by_cases a : t.head? = some 48
  · have b : ¬ 1 < t.length := fun b => h3 ⟨a, b⟩
    simp [a, b, h2]
  · simp [a, h2]
theorem numOk_no {t : List UInt8} (h : t = [] ∨ 4 < t.length ∨ (t.head? = some 48 ∧ 1 < t.length) ∨ t.all isDig = false) : numOk t = false := by
  unfold numOk
  rcases h with h | h | ⟨h, h2⟩ | h
  · subst h; rfl
  · have : ¬ t.length ≤ 4 := by omega
    simp [this]
  · simp [h, h2]
  · rw [h]; simp
theorem all_no {t : List UInt8} {k : Nat} (hk : k < t.length) (h : isDig (t.getD k 0) = false) : t.all isDig = false := by
  rw [List.all_eq_false]
  refine ⟨t.getD k 0, ?_, by rw [h]; simp⟩
  rw [List.getD_eq_getElem?_getD, List.getElem?_eq_getElem hk]
  exact List.getElem_mem hk
end Pr
namespace Go.Proofs.YtjdpgakkphdjlaaGreatDoor
open Go.RowKit

theorem take_byte (t : List UInt8) {k : Nat} (h : k < t.length) : t.take (k + 1) = t.take k ++ [t.getD k 0] := by
  rw [List.take_add_one, List.getElem?_eq_getElem h, List.getD_eq_getElem?_getD, List.getElem?_eq_getElem h]; rfl
theorem bytes_eq {q : ByteArray} {t m : List UInt8} (hq : t = q.data.toList) (h : (t == m) = true) : (q.toList == m) = true := by rw [ByteArray.toList_eq, ← hq]; exact h
theorem bytes_ne {q : ByteArray} {t m : List UInt8} (hq : t = q.data.toList) (h : (t == m) = false) : (q.toList == m) = false := by rw [ByteArray.toList_eq, ← hq]; exact h
/-- A number is told, and whether it is one; the world as it was. -/
def NumR (t : List UInt8) (w : World) (e : Ending) (w' : World) : Prop := ∃ n : Int, e = .returned (.tuple #[.int .i64 n, .bool (Pr.numOk t)]) ∧ (Pr.numOk t = true → n = (Pr.valL t : Int)) ∧ w' = w
set_option maxHeartbeats 4000000 in
set_option maxRecDepth 100000 in
theorem rnumber_any (s : ByteArray) (w : World) (hs : s.size ≤ 1000000) : Calls Tryz.prog 15 #[.string s] w (NumR s.data.toList w) := by
  obtain ⟨t, ht⟩ : ∃ t, t = s.data.toList := ⟨_, rfl⟩
  have hl : t.length = s.size := by rw [ht]; exact (Lib.size_eq s).symm
  have hgt : ∀ (i : Nat) (h : i < s.size), (s[i]'h) = t.getD i 0 := by
    intro i h
    rw [ht, List.getD_eq_getElem?_getD, List.getElem?_eq_getElem (by rw [← ht]; omega)]
    rfl
  rw [← ht]
  have HT := Lib.hid ht
  have HL := Lib.hid hl
  have HGT := Lib.hid hgt
  clear ht hgt
  by_cases h0 : t = []
  · have e0 := bytes_eq (m := []) HT.out (by rw [h0]; rfl)
    have HN := Lib.hid (Pr.numOk_no (.inl h0))
    clear h0 hl
    go_enter Tryz.func15, Tryz.ntmps15
    go_wp2_with fail
    go_ret2
    exact ⟨0, by rw [HN.out]; rfl, fun h => (by rw [HN.out] at h; cases h), rfl⟩
  · have e0 := bytes_ne (m := []) HT.out (by cases t with | nil => exact absurd rfl h0 | cons => rfl)
    have hpos : 0 < s.size := by rw [← hl]; exact List.length_pos_iff.2 h0
    have H0 := Lib.hid h0
    clear h0
    by_cases h4 : 4 < s.size
    · have h4' : (4 : Int) < (s.size : Int) := by omega
      have HN := Lib.hid (Pr.numOk_no (t := t) (.inr (.inl (by omega))))
      clear hl hpos h4
      go_enter Tryz.func15, Tryz.ntmps15
      go_wp2_with fail
      go_ret2
      exact ⟨0, by rw [HN.out]; rfl, fun h => (by rw [HN.out] at h; cases h), rfl⟩
    · have h4' : ¬ (4 : Int) < (s.size : Int) := by omega
      have hpos' : (0 : Int) < (s.size : Int) := by omega
      have hX0 := HGT.out 0 hpos
      have hhd : t.head? = some (t.getD 0 0) := by
        have := H0.out
        cases t with
        | nil => exact absurd rfl this
        | cons x r => rfl
      by_cases hz : t.getD 0 0 = 48 ∧ 1 < s.size
      · have hx0 : (s[0]'hpos).toNat = 48 := by rw [hX0, hz.1]; rfl
        have h1 : (1 : Int) < (s.size : Int) := by omega
        have HN := Lib.hid (Pr.numOk_no (t := t) (.inr (.inr (.inl ⟨by rw [hhd, hz.1], by omega⟩))))
        clear hl hX0 hhd hz h4
        go_enter Tryz.func15, Tryz.ntmps15
        go_wp2_with fail
        go_ret2
        exact ⟨0, by rw [HN.out]; rfl, fun h => (by rw [HN.out] at h; cases h), rfl⟩
      · obtain ⟨X0, hX⟩ : ∃ X, X = (t.getD 0 0).toNat := ⟨_, rfl⟩
        have hx0 : (s[0]'hpos).toNat = X0 := by rw [hX0, hX]
        have hcz : ¬ (X0 : Int) = 48 ∨ ¬ (1 : Int) < (s.size : Int) := by
          by_cases a : t.getD 0 0 = 48
          · exact .inr fun b => hz ⟨a, by omega⟩
          · refine .inl fun b => a (UInt8.toNat_inj.1 ?_)
            rw [← hX]
            show X0 = 48
            omega
        have HNH : Hid (¬ (t.head? = some 48 ∧ 1 < t.length)) := Lib.hid fun h => by
          rw [hhd] at h
          exact hz ⟨by injection h.1, by omega⟩
        have HLS := Lib.hid hl
        clear hl hX0 hhd hz h4 hX
        have main : ∀ (hd : (decide ((X0 : Int) = 48) && decide ((1 : Int) < (s.size : Int))) = false), Calls Tryz.prog 15 #[.string s] w (NumR t w) := by
          intro hd
          have hd1 : ((X0 : Int) = 48 → (s.size : Int) ≤ 1) := fun a => by
            rcases hcz with h | h
            · exact absurd a h
            · omega
          by_cases hq : (X0 : Int) = 48
          · have hq1 : ¬ (1 : Int) < (s.size : Int) := by have := hd1 hq; omega
            have hq' : X0 = 48 := by omega
            clear hd hd1 hcz hq
            subst hq'
            go_enter Tryz.func15, Tryz.ntmps15
            go_wp2_with fail
            go_loopw [4, 5] (fun n i wr => ∃ k : Nat, k ≤ s.size ∧ i = .int .i64 k ∧ n = .int .i64 (Pr.valL (t.take k) : Nat) ∧ Hid ((t.take k).all Pr.isDig = true) ∧ wr = w) (fun _ i _ => s.size - (intOf i).toNat)
            case atStart => exact ⟨0, Nat.zero_le _, rfl, rfl, Lib.hid rfl, rfl⟩
            case round =>
              obtain ⟨k, hk, rfl, rfl, HA, rfl⟩ := hrel
              by_cases hlt : k < s.size
              · have hlt' : (k : Int) < (s.size : Int) := by omega
                have hk0 : (0 : Int) ≤ (k : Int) := by omega
                have hXk := HGT.out k hlt
                have w1 : IntKind.i64.wrap ((k : Int) + 1) = (k : Int) + 1 := IntWalk.i64_in _ (by omega)
                obtain ⟨X, hX⟩ : ∃ X, X = (t.getD k 0).toNat := ⟨_, rfl⟩
                have hx : (s[k]'hlt).toNat = X := by rw [hXk, hX]
                have hXb : X < 256 := by rw [hX]; exact UInt8.toNat_lt _
                have hkt : k < t.length := by have := HLS.out; omega
                by_cases hd : 48 ≤ X ∧ X ≤ 57
                · have hdg : Pr.isDig (t.getD k 0) = true := by
                    unfold Pr.isDig
                    rw [← hX]
                    simp [hd.1, hd.2]
                  have hv := Pr.valL_snoc (t.take k) (t.getD k 0)
                  rw [← take_byte t hkt, ← hX] at hv
                  have hvb : Pr.valL (t.take k) < 10 ^ 4 := Nat.lt_of_lt_of_le (Pr.valL_lt k _ (by simp; omega) HA.out) (Nat.pow_le_pow_right (by decide) (by omega))
                  have HA2 : Hid ((t.take (k + 1)).all Pr.isDig = true) := Lib.hid (by rw [take_byte t hkt, List.all_append, HA.out]; show (true && (Pr.isDig (t.getD k 0) && true)) = true; rw [hdg]; rfl)
                  obtain ⟨V, hV⟩ : ∃ V, V = Pr.valL (t.take k) := ⟨_, rfl⟩
                  rw [← hV] at hv hvb ⊢
                  have a1 : IntKind.i64.wrap ((V : Int) * 10) = (V : Int) * 10 := IntWalk.i64_in _ (by omega)
                  have a2 : IntKind.i64.wrap ((V : Int) * 10 + (X : Int)) = (V : Int) * 10 + (X : Int) := IntWalk.i64_in _ (by omega)
                  have a3 : IntKind.i64.wrap ((V : Int) * 10 + (X : Int) - 48) = (V : Int) * 10 + (X : Int) - 48 := IntWalk.i64_in _ (by omega)
                  have a4 : IntKind.i64.wrap (X : Int) = (X : Int) := IntWalk.i64_in _ (by omega)
                  have l1 : ¬ (X : Int) < 48 := by omega
                  have l2 : ¬ (57 : Int) < (X : Int) := by omega
                  have HV2 : Hid (((Pr.valL (t.take (k + 1)) : Nat) : Int) = (V : Int) * 10 + (X : Int) - 48) := Lib.hid (by rw [hv]; omega)
                  clear hv hvb hV hX hdg hd hXk hkt
                  go_wp2_with fail
                  go_roundw
                  case rel => exact ⟨k + 1, hlt, by go_num, by rw [HV2.out], HA2, trivial⟩
                  case measure => simp [intOf]; omega
                · have HN := Lib.hid (Pr.numOk_no (t := t) (.inr (.inr (.inr (Pr.all_no hkt (by
                    unfold Pr.isDig
                    rw [← hX]
                    rcases Nat.lt_or_ge X 48 with h | h
                    · simp; omega
                    · simp; omega))))))
                  by_cases l1 : (X : Int) < 48
                  · clear hX hd hXk hkt
                    go_wp2_with fail
                    go_ret2
                    exact ⟨0, by rw [HN.out]; rfl, fun h => (by rw [HN.out] at h; cases h), rfl⟩
                  · have l2 : (57 : Int) < (X : Int) := by omega
                    clear hX hd hXk hkt
                    go_wp2_with fail
                    go_ret2
                    exact ⟨0, by rw [HN.out]; rfl, fun h => (by rw [HN.out] at h; cases h), rfl⟩
              · obtain ⟨T, hT⟩ : ∃ T, T = Pr.valL (t.take k) := ⟨_, rfl⟩
                have hke : t.take k = t := List.take_of_length_le (by have := HLS.out; omega)
                have HN := Lib.hid (Pr.numOk_yes H0.out (by have := HLS.out; omega) HNH.out (by have := HA.out; rwa [hke] at this))
                have HV : Hid (T = Pr.valL t) := Lib.hid (by rw [hT, hke])
                have hlt' : ¬ (k : Int) < (s.size : Int) := by omega
                rw [← hT]
                clear hT hke
                go_wp2_with fail
                go_ret2
                exact ⟨_, by rw [HN.out]; rfl, fun _ => by rw [HV.out], rfl⟩
          · have hq' : ¬ X0 = 48 := by omega
            clear hd hd1 hcz
            go_enter Tryz.func15, Tryz.ntmps15
            go_wp2_with fail
            go_loopw [4, 5] (fun n i wr => ∃ k : Nat, k ≤ s.size ∧ i = .int .i64 k ∧ n = .int .i64 (Pr.valL (t.take k) : Nat) ∧ Hid ((t.take k).all Pr.isDig = true) ∧ wr = w) (fun _ i _ => s.size - (intOf i).toNat)
            case atStart => exact ⟨0, Nat.zero_le _, rfl, rfl, Lib.hid rfl, rfl⟩
            case round =>
              obtain ⟨k, hk, rfl, rfl, HA, rfl⟩ := hrel
              by_cases hlt : k < s.size
              · have hlt' : (k : Int) < (s.size : Int) := by omega
                have hk0 : (0 : Int) ≤ (k : Int) := by omega
                have hXk := HGT.out k hlt
                have w1 : IntKind.i64.wrap ((k : Int) + 1) = (k : Int) + 1 := IntWalk.i64_in _ (by omega)
                obtain ⟨X, hX⟩ : ∃ X, X = (t.getD k 0).toNat := ⟨_, rfl⟩
                have hx : (s[k]'hlt).toNat = X := by rw [hXk, hX]
                have hXb : X < 256 := by rw [hX]; exact UInt8.toNat_lt _
                have hkt : k < t.length := by have := HLS.out; omega
                by_cases hd : 48 ≤ X ∧ X ≤ 57
                · have hdg : Pr.isDig (t.getD k 0) = true := by
                    unfold Pr.isDig
                    rw [← hX]
                    simp [hd.1, hd.2]
                  have hv := Pr.valL_snoc (t.take k) (t.getD k 0)
                  rw [← take_byte t hkt, ← hX] at hv
                  have hvb : Pr.valL (t.take k) < 10 ^ 4 := Nat.lt_of_lt_of_le (Pr.valL_lt k _ (by simp; omega) HA.out) (Nat.pow_le_pow_right (by decide) (by omega))
                  have HA2 : Hid ((t.take (k + 1)).all Pr.isDig = true) := Lib.hid (by rw [take_byte t hkt, List.all_append, HA.out]; show (true && (Pr.isDig (t.getD k 0) && true)) = true; rw [hdg]; rfl)
                  obtain ⟨V, hV⟩ : ∃ V, V = Pr.valL (t.take k) := ⟨_, rfl⟩
                  rw [← hV] at hv hvb ⊢
                  have a1 : IntKind.i64.wrap ((V : Int) * 10) = (V : Int) * 10 := IntWalk.i64_in _ (by omega)
                  have a2 : IntKind.i64.wrap ((V : Int) * 10 + (X : Int)) = (V : Int) * 10 + (X : Int) := IntWalk.i64_in _ (by omega)
                  have a3 : IntKind.i64.wrap ((V : Int) * 10 + (X : Int) - 48) = (V : Int) * 10 + (X : Int) - 48 := IntWalk.i64_in _ (by omega)
                  have a4 : IntKind.i64.wrap (X : Int) = (X : Int) := IntWalk.i64_in _ (by omega)
                  have l1 : ¬ (X : Int) < 48 := by omega
                  have l2 : ¬ (57 : Int) < (X : Int) := by omega
                  have HV2 : Hid (((Pr.valL (t.take (k + 1)) : Nat) : Int) = (V : Int) * 10 + (X : Int) - 48) := Lib.hid (by rw [hv]; omega)
                  clear hv hvb hV hX hdg hd hXk hkt
                  go_wp2_with fail
                  go_roundw
                  case rel => exact ⟨k + 1, hlt, by go_num, by rw [HV2.out], HA2, trivial⟩
                  case measure => simp [intOf]; omega
                · have HN := Lib.hid (Pr.numOk_no (t := t) (.inr (.inr (.inr (Pr.all_no hkt (by
                    unfold Pr.isDig
                    rw [← hX]
                    rcases Nat.lt_or_ge X 48 with h | h
                    · simp; omega
                    · simp; omega))))))
                  by_cases l1 : (X : Int) < 48
                  · clear hX hd hXk hkt
                    go_wp2_with fail
                    go_ret2
                    exact ⟨0, by rw [HN.out]; rfl, fun h => (by rw [HN.out] at h; cases h), rfl⟩
                  · have l2 : (57 : Int) < (X : Int) := by omega
                    clear hX hd hXk hkt
                    go_wp2_with fail
                    go_ret2
                    exact ⟨0, by rw [HN.out]; rfl, fun h => (by rw [HN.out] at h; cases h), rfl⟩
              · obtain ⟨T, hT⟩ : ∃ T, T = Pr.valL (t.take k) := ⟨_, rfl⟩
                have hke : t.take k = t := List.take_of_length_le (by have := HLS.out; omega)
                have HN := Lib.hid (Pr.numOk_yes H0.out (by have := HLS.out; omega) HNH.out (by have := HA.out; rwa [hke] at this))
                have HV : Hid (T = Pr.valL t) := Lib.hid (by rw [hT, hke])
                have hlt' : ¬ (k : Int) < (s.size : Int) := by omega
                rw [← hT]
                clear hT hke
                go_wp2_with fail
                go_ret2
                exact ⟨_, by rw [HN.out]; rfl, fun _ => by rw [HV.out], rfl⟩
        refine main ?_
        rcases hcz with h | h
        · simp [h]
        · simp [h]
theorem rname_any (k : Int) (hk : k = 1 ∨ k = 4 ∨ k = 5 ∨ k = 8) (w : World) : Calls Tryz.prog 16 #[.int .i64 k] w fun e w' => e = .returned (.string (strL (Pr.nameL k))) ∧ Below w.heap.size w w' := by
  rcases hk with rfl | rfl | rfl | rfl
  all_goals
    go_enter Tryz.func16, Tryz.ntmps16
    go_wp2
    go_ret
    exact ⟨rfl, below_alloc0 _ _⟩
/-- The first numbers, told. -/
def toldTo (l : List Int) (k : Nat) : List UInt8 := Pr.joinW ((l.take k).map Lib.itoa)
theorem toldTo_succ (l : List Int) {k : Nat} (h : k < l.length) : toldTo l (k + 1) = (if k = 0 then [] else toldTo l k ++ [32]) ++ ((if l.getD k 0 < 0 then [45] else []) ++ Lib.decDigits (l.getD k 0).natAbs) := by
  unfold toldTo
  rw [take_snoc l 0 h, List.map_append, show [l.getD k 0].map Lib.itoa = [Lib.itoa (l.getD k 0)] from rfl, Pr.joinW_snoc, ← Pr.itoa_far]
  by_cases h0 : k = 0
  · subst h0; rfl
  · rw [if_neg (by
      intro e
      have h2 := congrArg List.length e
      rw [List.length_map, List.length_take, List.length_nil] at h2
      omega), if_neg h0]
    simp
set_option maxHeartbeats 4000000 in
set_option maxRecDepth 100000 in
theorem rtold_ok (A : Option Addr) (n c : Nat) (l : List Int) (w : World) (B : Nat) (h : RdI w B A n l) (hn : n ≤ 1000) (hb : ∀ x ∈ l, -1000000000 ≤ x ∧ x ≤ 1000000000) :
    Calls Tryz.prog 17 #[.slice A n c, .int .i64 0] w fun e w' => e = .returned (.string (strL (Pr.toldL l))) ∧ w' = w := by
  have H0 := Lib.hid h
  have HL := Lib.hid h.len
  have HBD := Lib.hid hb
  have HF := Lib.hid fun (x : Int) W (hx : -1000000000000 ≤ x ∧ x ≤ 1000000000000) => rfar_any x W hx
  have HD := Lib.hid fun (u : Nat) W (hu : u ≤ 1000000000000000000) => rdigits u W hu
  clear h hb
  go_enter Tryz.func17, Tryz.ntmps17
  go_wp2_with fail
  go_loopw [5, 6] (fun s i wr => ∃ k : Nat, k ≤ n ∧ i = .int .i64 k ∧ s = .string (strL (toldTo l k)) ∧ Hid ((toldTo l k).length ≤ 40 * k) ∧ wr = w) (fun _ i _ => n - (intOf i).toNat)
  case atStart => exact ⟨0, Nat.zero_le _, rfl, rfl, Lib.hid (by simp [toldTo, Pr.joinW]), rfl⟩
  case round =>
    obtain ⟨k, hk, rfl, rfl, HZ, rfl⟩ := hrel
    by_cases hlt : k < n
    · have hlt' : (k : Int) < (n : Int) := by omega
      obtain ⟨b8, o8, rfl, hb8, d8⟩ := H0.out.at_ hlt
      have hkl : k < l.length := by have := HL.out; omega
      have hmem : l.getD k 0 ∈ l := by rw [List.getD_eq_getElem?_getD, List.getElem?_eq_getElem hkl]; exact List.getElem_mem hkl
      have hxb := HBD.out _ hmem
      have hst := toldTo_succ l hkl
      obtain ⟨x, hx⟩ : ∃ x, x = l.getD k 0 := ⟨_, rfl⟩
      rw [← hx] at d8 hxb hst
      obtain ⟨u, hu⟩ : ∃ u, u = x.natAbs := ⟨_, rfl⟩
      have HF1 : Hid (Calls Tryz.prog 36 #[.int .i64 x] wr fun e w' => e = .returned (.int .i64 (u : Nat)) ∧ wr = w') := Lib.hid (by
        have h := HF.out x wr (by omega)
        rw [show Ph.far x = (u : Int) from by rw [hu]; unfold Ph.far; split <;> omega] at h
        exact h.mono fun e w' ⟨h1, h2⟩ => ⟨h1, by rw [h2]⟩)
      have HD1 := Lib.hid (HD.out u wr (by omega))
      have hdl := Pr.dec_few (u := u) (k := 18) (by omega)
      rw [← hu] at hst
      obtain ⟨D, hD⟩ : ∃ D, D = Lib.decDigits u := ⟨_, rfl⟩
      rw [← hD] at hst HD1 hdl
      obtain ⟨T, hT⟩ : ∃ T, T = toldTo l k := ⟨_, rfl⟩
      rw [← hT] at hst HZ ⊢
      have htz := HZ.out
      have HXZ : Hid (toldTo l (k + 1) = (if k = 0 then [] else T ++ [32]) ++ ((if x < 0 then [45] else []) ++ D)) := Lib.hid hst
      have hZ2 : ∀ S, S = (if k = 0 then [] else T ++ [32]) ++ ((if x < 0 then [45] else []) ++ D) → S.length ≤ 40 * (k + 1) := fun S hS => by
        rw [hS]
        simp only [List.length_append]
        have h1 : (if k = 0 then [] else T ++ [(32 : UInt8)]).length ≤ 40 * k + 1 := by split <;> simp; omega
        have h2 : (if x < 0 then [(45 : UInt8)] else []).length ≤ 1 := by split <;> simp
        omega
      have HZ2 := Lib.hid hZ2
      have hT0 : k = 0 → T = [] := fun h => by rw [hT, h]; rfl
      have sT : (strL T).size ≤ 40000 := by rw [strL_size]; omega
      have sD : (strL D).size ≤ 19 := by rw [strL_size]; exact hdl
      have HC1 : Hid (strL T ++ ⟨#[32]⟩ = strL (T ++ [32])) := Lib.hid (strL_append T [32])
      have HC2 : Hid (∀ U : List UInt8, strL U ++ ⟨#[45]⟩ = strL (U ++ [45])) := Lib.hid fun U => strL_append U [45]
      have HC3 : Hid (∀ U : List UInt8, strL U ++ strL D = strL (U ++ D)) := Lib.hid fun U => strL_append U D
      have s1 : (strL (T ++ [32])).size ≤ 40001 := by rw [strL_size]; simp; omega
      have s2 : (strL (T ++ [45])).size ≤ 40001 := by rw [strL_size]; simp; omega
      have s3 : (strL (T ++ [32] ++ [45])).size ≤ 40002 := by rw [strL_size]; simp; omega
      clear hmem hst hx hD hT hdl htz hu hZ2 hb8 hkl
      by_cases h0 : k = 0
      · subst h0
        have hTe := hT0 rfl
        subst hTe
        rw [Nat.add_zero] at d8
        by_cases hn0 : x < 0
        · have HS : Hid (toldTo l (0 + 1) = ([] ++ ([45] ++ D))) := Lib.hid (by rw [HXZ.out, if_pos rfl, if_pos hn0])
          have HZ3 := Lib.hid (HZ2.out _ HXZ.out)
          clear s1 s2 s3 HC1 HC2 HC3 hT0
          go_wp2_with fail
          refine HF1.out.mono ?_
          rintro e w1 ⟨rfl, rfl⟩
          go_wp2_with fail
          refine HD1.out.mono ?_
          rintro e w2 ⟨rfl, rfl⟩
          go_wp2_with fail
          go_roundw
          case rel =>
            refine ⟨0 + 1, by omega, by go_num, ?_, HZ3, trivial⟩
            rw [HS.out]
            refine congrArg Value.string ?_
            unfold strL
            apply ByteArray.ext
            simp
          case measure => simp [intOf]; omega
        · have HS : Hid (toldTo l (0 + 1) = ([] ++ ([] ++ D))) := Lib.hid (by rw [HXZ.out, if_pos rfl, if_neg hn0])
          have HZ3 := Lib.hid (HZ2.out _ HXZ.out)
          clear s1 s2 s3 HC1 HC2 HC3 hT0
          go_wp2_with fail
          refine HF1.out.mono ?_
          rintro e w1 ⟨rfl, rfl⟩
          go_wp2_with fail
          refine HD1.out.mono ?_
          rintro e w2 ⟨rfl, rfl⟩
          go_wp2_with fail
          go_roundw
          case rel =>
            refine ⟨0 + 1, by omega, by go_num, ?_, HZ3, trivial⟩
            rw [HS.out]
            refine congrArg Value.string ?_
            unfold strL
            apply ByteArray.ext
            simp
          case measure => simp [intOf]; omega
      · have hk0 : (0 : Int) < (k : Int) := by omega
        by_cases hn0 : x < 0
        · have HS : Hid (toldTo l (k + 1) = ((T ++ [32]) ++ ([45] ++ D))) := Lib.hid (by rw [HXZ.out, if_neg h0, if_pos hn0])
          have HZ3 := Lib.hid (HZ2.out _ HXZ.out)
          clear s1 s2 s3 HC1 HC2 HC3 hT0
          go_wp2_with fail
          refine HF1.out.mono ?_
          rintro e w1 ⟨rfl, rfl⟩
          go_wp2_with fail
          refine HD1.out.mono ?_
          rintro e w2 ⟨rfl, rfl⟩
          go_wp2_with fail
          go_roundw
          case rel =>
            refine ⟨k + 1, by omega, by go_num, ?_, HZ3, trivial⟩
            rw [HS.out]
            refine congrArg Value.string ?_
            unfold strL
            apply ByteArray.ext
            simp
          case measure => simp [intOf]; omega
        · have HS : Hid (toldTo l (k + 1) = ((T ++ [32]) ++ ([] ++ D))) := Lib.hid (by rw [HXZ.out, if_neg h0, if_neg hn0])
          have HZ3 := Lib.hid (HZ2.out _ HXZ.out)
          clear s1 s2 s3 HC1 HC2 HC3 hT0
          go_wp2_with fail
          refine HF1.out.mono ?_
          rintro e w1 ⟨rfl, rfl⟩
          go_wp2_with fail
          refine HD1.out.mono ?_
          rintro e w2 ⟨rfl, rfl⟩
          go_wp2_with fail
          go_roundw
          case rel =>
            refine ⟨k + 1, by omega, by go_num, ?_, HZ3, trivial⟩
            rw [HS.out]
            refine congrArg Value.string ?_
            unfold strL
            apply ByteArray.ext
            simp
          case measure => simp [intOf]; omega
    · obtain rfl : k = n := by omega
      have hlt' : ¬ (k : Int) < (k : Int) := by omega
      have htl : toldTo l k = Pr.joinW (l.map Lib.itoa) := by unfold toldTo; rw [List.take_of_length_le (by have := HL.out; omega)]
      have HZT := Lib.hid htl
      rw [htl]
      by_cases hl : l = []
      · have HT : Hid (Pr.toldL l = [45]) := Lib.hid (by rw [hl]; rfl)
        have e1 : ((strL (Pr.joinW (l.map Lib.itoa))).toList == []) = true := by rw [hl, strl_toList]; rfl
        obtain ⟨S, hS⟩ : ∃ S, S = strL (Pr.joinW (l.map Lib.itoa)) := ⟨_, rfl⟩
        rw [← hS] at e1 ⊢
        clear hl htl hS
        go_wp2_with fail
        go_ret
        exact ⟨by rw [HT.out]; rfl, rfl⟩
      · have HT : Hid (strL (Pr.joinW (l.map Lib.itoa)) = strL (Pr.toldL l)) := Lib.hid (by unfold Pr.toldL; rw [if_neg hl])
        have e1 : ((strL (Pr.joinW (l.map Lib.itoa))).toList == []) = false := by
          rw [strl_toList]
          have := Pr.joinW_ne (l.map Lib.itoa) (by simpa using hl) (fun y hy => by obtain ⟨z, _, rfl⟩ := List.mem_map.1 hy; exact Pr.itoa_ne z)
          cases h : Pr.joinW (l.map Lib.itoa) with
          | nil => exact absurd h this
          | cons => rfl
        obtain ⟨S, hS⟩ : ∃ S, S = strL (Pr.joinW (l.map Lib.itoa)) := ⟨_, rfl⟩
        rw [← hS] at e1 HT ⊢
        clear hl htl hS
        go_wp2_with fail
        go_ret
        exact ⟨by rw [HT.out]; rfl, rfl⟩
end Go.Proofs.YtjdpgakkphdjlaaGreatDoor
