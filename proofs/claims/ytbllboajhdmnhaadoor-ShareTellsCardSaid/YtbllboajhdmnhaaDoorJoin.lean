/- Walks: bands joined, and split (chapter 9). -/
import Derived.Test.YtbllboajhdmnhaaDoorConcat
import Derived.Test.YtbllboajhdmnhaaDoorBand2
namespace Go.Proofs.YtbllboajhdmnhaaDoor
open Go.RowKit

/-- How many numbers each has. -/
def sizesOf (m : List (List Int)) : List Int := m.map fun l => (l.length : Int)
/-- What is wrong with bands that are joined. -/
def joinErr (m : List (List Int)) (s : List Int) : Int := if Ph.bandErr s = 0 then (if sizesOf m = s then 0 else 3) else Ph.bandErr s
theorem joinErr_zero {m : List (List Int)} {s : List Int} : joinErr m s = 0 ↔ Ph.bandErr s = 0 ∧ sizesOf m = s := by
  unfold joinErr
  split
  · rename_i h
    split
    · rename_i h2; simp [h, h2]
    · rename_i h2; simp [h2]
  · rename_i h; simp [h]
theorem sizesOf_getD {m : List (List Int)} {k : Nat} (hk : k < m.length) : (sizesOf m).getD k 0 = ((m.getD k []).length : Int) := by
  unfold sizesOf
  rw [List.getD_eq_getElem?_getD, List.getElem?_map, List.getD_eq_getElem?_getD, List.getElem?_eq_getElem hk]
  rfl
theorem sizesOf_length (m : List (List Int)) : (sizesOf m).length = m.length := by simp [sizesOf]
theorem sizesOf_mem {m : List (List Int)} {l : List Int} (h : l ∈ m) : (l.length : Int) ∈ sizesOf m := List.mem_map.2 ⟨l, h, rfl⟩
theorem sizesOf_of {m : List (List Int)} {s : List Int} (h1 : m.length = s.length) (h2 : ∀ k, k < m.length → ((m.getD k []).length : Int) = s.getD k 0) : sizesOf m = s := by
  apply List.ext_getElem
  · rw [sizesOf_length, h1]
  · intro k hk1 hk2
    have hk : k < m.length := by rw [sizesOf_length] at hk1; exact hk1
    have := sizesOf_getD hk
    rw [h2 k hk, List.getD_eq_getElem?_getD, List.getD_eq_getElem?_getD, List.getElem?_eq_getElem hk1, List.getElem?_eq_getElem hk2] at this
    simpa using this
theorem flat_sizes {m : List (List Int)} {s : List Int} (h : sizesOf m = s) : Ph.cut m.flatten s = m ∧ (m.flatten.length : Int) = Ph.total s := by
  have hl : m.length = s.length := by rw [← h, sizesOf_length]
  have hi : ∀ i, i < s.length → ((m.getD i []).length : Int) = s.getD i 0 := fun i hi => by rw [← h, sizesOf_getD (by omega)]
  exact ⟨Ph.flatten_cut m s hl hi, Ph.flatten_length m s hl hi⟩
theorem sizes_cut {l s : List Int} (h0 : Ph.bandErr s = 0) (ht : Ph.total s = l.length) : sizesOf (Ph.cut l s) = s ∧ (Ph.cut l s).flatten = l := by
  have hs := Ph.bandErr_zero.1 h0
  have hn : ∀ x ∈ s, 0 ≤ x := fun x hx => by have := hs.2.2.1 x hx; omega
  refine ⟨sizesOf_of (Ph.cut_length _ _) fun k hk => ?_, Ph.cut_flatten s l hn ht⟩
  rw [Ph.cut_length] at hk
  exact Ph.cut_sizes s l hn ht k hk
set_option maxHeartbeats 1000000 in
theorem join_ok (A1 : Option Addr) (n1 c1 : Nat) (m : List (List Int)) (A2 : Option Addr) (n2 c2 : Nat) (s : List Int) (F : List Int) (w : World) (B : Nat) (h1 : RdR w B A1 n1 m) (h2 : RdI w B A2 n2 s) (hB : B ≤ w.heap.size) (h0 : joinErr m s = 0) (hF : m.flatten = F) :
    Calls Tryd.prog 74 #[.slice A1 n1 c1, .slice A2 n2 c2] w fun e w' => ∃ A c, e = .returned (.tuple #[.slice A F.length c, .nilIface]) ∧ w'.ownsRow w.heap.size 3 1 (.slice A F.length c) F.length (ivals F) ∧ Below w.heap.size w w' := by
  obtain ⟨hb, hsz⟩ := joinErr_zero.1 h0
  have hs := Ph.bandErr_zero.1 hb
  have hl1 := h1.len
  have hl2 := h2.len
  have hls := sizesOf_length m
  rw [hsz] at hls
  obtain rfl : n1 = n2 := by omega
  have hn : n1 ≤ 1000 := by omega
  have hx : ∀ l ∈ m, l.length ≤ 1000 := fun l hl => by
    have := sizesOf_mem hl
    rw [hsz] at this
    have := hs.2.2.1 _ this
    omega
  have HC := Lib.hid fun W hW => bandCheck_ok A2 n1 c2 s W B hW hb
  have HK := Lib.hid fun (W : World) hW hBW => concat_any A1 n1 c1 m W B hW hBW hn hx
  rw [hF] at HK
  obtain ⟨T, hT⟩ : ∃ T, T = Ph.total s := ⟨_, rfl⟩
  rw [← hT] at HC
  have HE : Hid (∀ k, k < n1 → s.getD k 0 = ((m.getD k []).length : Int)) := Lib.hid fun k hk => by rw [← hsz, sizesOf_getD (by omega)]
  have H1 := Lib.hid h1
  have H2 := Lib.hid h2
  have hnn : ((n1 : Int) != (n1 : Int)) = false := by simp
  clear h1 h2 h0 hF hb hsz hs hl1 hl2 hls hx hT
  go_enter Tryd.func74, Tryd.ntmps74
  go_wp2_with fail
  refine (HC.out _ H2.out).mono ?_
  rintro e w1 ⟨rfl, rfl⟩
  clear HC
  go_wp2_with fail
  go_loop [26] (fun i => ∃ k : Nat, k ≤ n1 ∧ i = .int .i64 k) (fun i => n1 - (intOf i).toNat)
  case atStart => exact ⟨0, Nat.zero_le _, rfl⟩
  case round =>
    obtain ⟨k, hk, rfl⟩ := hrel
    by_cases hlt : k < n1
    · obtain ⟨b1, o1, X1, d1, rfl, _, hc1, _, _⟩ := H1.out.at_ hlt
      obtain ⟨b2, o2, rfl, _, hc2⟩ := H2.out.at_ hlt
      rw [HE.out k hlt] at hc2
      obtain ⟨X, hX⟩ : ∃ X, X = (m.getD k []).length := ⟨_, rfl⟩
      rw [← hX] at hc1 hc2
      have hne : ((X : Int) != (X : Int)) = false := by simp
      clear hX
      go_wp2_with fail
      go_round
      case rel => exact ⟨k + 1, by omega, by go_num⟩
      case measure => simp [intOf]; omega
    · go_wp2_with fail
      refine (HK.out _ H1.out hB).mono ?_
      rintro e w5 ⟨A, c, rfl, ho, hb5⟩
      have HO := Lib.hid ho
      have HB5 := Lib.hid hb5
      clear ho hb5 HK
      go_wp2_with fail
      go_ret2
      exact ⟨A, c, rfl, HO.out, HB5.out⟩
set_option maxHeartbeats 1000000 in
theorem join_no (A1 : Option Addr) (n1 c1 : Nat) (m : List (List Int)) (A2 : Option Addr) (n2 c2 : Nat) (s : List Int) (w : World) (B : Nat) (h1 : RdR w B A1 n1 m) (h2 : RdI w B A2 n2 s) (hn : n2 ≤ 100000000000000) (h0 : joinErr m s ≠ 0) :
    Calls Tryd.prog 74 #[.slice A1 n1 c1, .slice A2 n2 c2] w fun e w' => e = .returned (.tuple #[.slice none 0 0, errV (joinErr m s)]) ∧ w = w' := by
  by_cases hb : Ph.bandErr s = 0
  · have hsz : sizesOf m ≠ s := fun h => h0 (joinErr_zero.2 ⟨hb, h⟩)
    have he : joinErr m s = 3 := by unfold joinErr; rw [if_pos hb, if_neg hsz]
    rw [he, errV_ne (by decide)]
    have HC := Lib.hid fun W hW => bandCheck_ok A2 n2 c2 s W B hW hb
    have hs := Ph.bandErr_zero.1 hb
    have hl1 := h1.len
    have hl2 := h2.len
    have hn2 : n2 ≤ 8 := by omega
    obtain ⟨T, hT⟩ : ∃ T, T = Ph.total s := ⟨_, rfl⟩
    rw [← hT] at HC
    have H1 := Lib.hid h1
    have H2 := Lib.hid h2
    by_cases hnn : n1 = n2
    · subst hnn
      have HS := Lib.hid hsz
      have HL1 := Lib.hid hl1
      have HL2 := Lib.hid hl2
      have hne0 : ((n1 : Int) != (n1 : Int)) = false := by simp
      clear h1 h2 h0 hb hs hT he hsz hl1 hl2
      go_enter Tryd.func74, Tryd.ntmps74
      go_wp2_with fail
      refine (HC.out _ H2.out).mono ?_
      rintro e w1 ⟨rfl, rfl⟩
      clear HC
      go_wp2_with fail
      go_loop [26] (fun i => ∃ k : Nat, k ≤ n1 ∧ i = .int .i64 k ∧ Hid (∀ j, j < k → ((m.getD j []).length : Int) = s.getD j 0)) (fun i => n1 - (intOf i).toNat)
      case atStart => exact ⟨0, Nat.zero_le _, rfl, Lib.hid fun j hj => absurd hj (by omega)⟩
      case round =>
        obtain ⟨k, hk, rfl, HE⟩ := hrel
        by_cases hlt : k < n1
        · obtain ⟨b1, o1, X1, d1, rfl, _, hc1, _, _⟩ := H1.out.at_ hlt
          obtain ⟨b2, o2, rfl, _, hc2⟩ := H2.out.at_ hlt
          have HEK := HE
          obtain ⟨X, hX⟩ : ∃ X, X = (m.getD k []).length := ⟨_, rfl⟩
          obtain ⟨Y, hY⟩ : ∃ Y, Y = s.getD k 0 := ⟨_, rfl⟩
          rw [← hX] at hc1
          rw [← hY] at hc2
          by_cases hxy : (X : Int) = Y
          · have hne : ((X : Int) != Y) = false := by simp [hxy]
            have HNX : Hid (∀ j, j < k + 1 → ((m.getD j []).length : Int) = s.getD j 0) := Lib.hid fun j hj => by
              by_cases hjk : j < k
              · exact HEK.out j hjk
              · obtain rfl : j = k := by omega
                rw [← hX, ← hY]; exact hxy
            clear hX hY hxy
            go_wp2_with fail
            go_round
            case rel => exact ⟨k + 1, by omega, by go_num, HNX⟩
            case measure => simp [intOf]; omega
          · have hne : ((X : Int) != Y) = true := by simp [hxy]
            clear hX hY hxy
            go_wp2_with fail
            go_ret2
            exact ⟨rfl, rfl⟩
        · exact absurd (sizesOf_of (by rw [HL1.out, HL2.out]) fun j hj => HE.out j (by have := HL1.out; omega)) HS.out
    · have hne : ((n1 : Int) != (n2 : Int)) = true := by simp; omega
      clear h1 h2 h0 hb hs hT he hsz hl1 hl2 hnn
      go_enter Tryd.func74, Tryd.ntmps74
      go_wp2_with fail
      refine (HC.out _ H2.out).mono ?_
      rintro e w1 ⟨rfl, rfl⟩
      clear HC
      go_wp2_with fail
      go_ret2
      exact ⟨rfl, rfl⟩
  · have he : joinErr m s = Ph.bandErr s := by unfold joinErr; rw [if_neg hb]
    rw [he]
    have HC := Lib.hid fun W hW => bandCheck_no A2 n2 c2 s W B hW hn hb
    have hev := errV_ne hb
    have H2 := Lib.hid h2
    clear h1 h2 h0 hb he
    go_enter Tryd.func74, Tryd.ntmps74
    go_wp2_with fail
    refine (HC.out _ H2.out).mono ?_
    rintro e w1 ⟨rfl, rfl⟩
    go_wp2_with fail
    go_ret2
    exact ⟨ret_two rfl hev.symm, rfl⟩
/-- What is wrong with numbers that are split. -/
def splitErr (l s : List Int) : Int := if Ph.bandErr s = 0 then (if Ph.total s = l.length then 0 else 3) else Ph.bandErr s
theorem splitErr_zero {l s : List Int} : splitErr l s = 0 ↔ Ph.bandErr s = 0 ∧ Ph.total s = l.length := by
  unfold splitErr
  split
  · rename_i h
    split
    · rename_i h2; simp [h, h2]
    · rename_i h2; simp [h2]
  · rename_i h; simp [h]
theorem split_bad (A1 : Option Addr) (n1 c1 : Nat) (l : List Int) (A2 : Option Addr) (n2 c2 : Nat) (s : List Int) (w : World) (B : Nat) (h2 : RdI w B A2 n2 s) (hn : n2 ≤ 100000000000000) (hn1 : l.length = n1) (h0 : splitErr l s ≠ 0) :
    Calls Tryd.prog 72 #[.slice A1 n1 c1, .slice A2 n2 c2] w fun e w' => e = .returned (.tuple #[.slice none 0 0, errV (splitErr l s)]) ∧ w = w' := by
  by_cases hb : Ph.bandErr s = 0
  · have ht : Ph.total s ≠ l.length := fun h => h0 (splitErr_zero.2 ⟨hb, h⟩)
    have he : splitErr l s = 3 := by unfold splitErr; rw [if_pos hb, if_neg ht]
    rw [he, errV_ne (by decide)]
    have HC := Lib.hid fun W hW => bandCheck_ok A2 n2 c2 s W B hW hb
    have H2 := Lib.hid h2
    rw [hn1] at ht
    obtain ⟨T, hT⟩ : ∃ T, T = Ph.total s := ⟨_, rfl⟩
    rw [← hT] at HC ht
    have hne : ((n1 : Int) != T) = true := by simp; omega
    clear h2 h0 hb he hT hn1 ht
    go_enter Tryd.func72, Tryd.ntmps72
    go_wp2_with fail
    refine (HC.out _ H2.out).mono ?_
    rintro e w1 ⟨rfl, rfl⟩
    go_wp2_with fail
    go_ret2
    exact ⟨rfl, rfl⟩
  · have he : splitErr l s = Ph.bandErr s := by unfold splitErr; rw [if_neg hb]
    rw [he]
    exact split_no A1 n1 c1 A2 n2 c2 s w B h2 hn hb
end Go.Proofs.YtbllboajhdmnhaaDoor
