/- Walks: a frame out of bytes (chapter 17). -/
import Derived.Test.YtmohilfebgahoaaGreatDoorFrame
import Derived.Test.YtmohilfebgahoaaGreatDoorWidth3
import Derived.Deep.DeepCutAuto
import Derived.Deep.CutBlock
import Derived.Deep.Cut
namespace Go.Proofs.YtmohilfebgahoaaGreatDoor
open Go.RowKit

theorem RdI.drop {w : World} {B n k : Nat} {A : Option Addr} {l : List Int} (h : RdI w B A n l) (hk : k ≤ n) : RdI w B (A.map (·.add k)) (n - k) (l.drop k) := by
  have := Rd.drop h hk
  unfold RdI ivals at *
  rwa [← List.map_drop] at this
theorem unGains_step {n : Nat} {l : List Int} : Ph.unGains (n + 1) l = if l.length < 6 then none else if Ph.valued (Ph.number (l.take 6)) = true then (Ph.unGains n (l.drop 6)).map (fun q => ((Ph.number (l.take 6) : Int) :: q.1, q.2)) else none := by
  rw [Ph.unGains]
  split
  · rfl
  · split
    · cases Ph.unGains n (l.drop 6) with
      | none => rfl
      | some q => rfl
    · rfl
/-- Parts, and whether they are such. -/
def MayP (R : Option (List Ph.Part)) (w : World) (e : Ending) (w' : World) : Prop :=
  ∃ A n c, e = .returned (.tuple #[.slice A n c, .bool R.isSome]) ∧ OwnPV w' w.heap.size A n c (R.getD []) ∧ Below w.heap.size w w'
set_option maxHeartbeats 4000000 in
set_option maxRecDepth 100000 in
theorem gains_any (A1 : Option Addr) (n1 c1 : Nat) (l : List Int) (A2 : Option Addr) (n2 c2 : Nat) (w : World) (B : Nat) (h1 : RdI w B A1 n1 l) (hB : B ≤ w.heap.size) (hc1 : n1 ≤ c1) (hb : Ph.isBits l) (hn1 : n1 ≤ 1000) (hn2 : n2 ≤ 8) :
    Calls Tryz.prog 103 #[.slice A1 n1 c1, .slice A2 n2 c2] w (MayP ((Ph.unGains n2 l).map fun q => Ph.gainParts q.1) w) := by
  have H1 := Lib.hid h1
  have HL := Lib.hid h1.len
  have HB := Lib.hid hb
  obtain ⟨R, hR⟩ : ∃ R, R = (Ph.unGains n2 l).map (fun q => Ph.gainParts q.1) := ⟨_, rfl⟩
  have HR := Lib.hid hR
  rw [← hR]
  clear h1 hb hR
  go_enter Tryz.func103, Tryz.ntmps103
  go_wp2_with fail
  go_loopw [6, 7, 8, 9, 10, 13] (fun o _ _ _ _ i wr => ∃ (k : Nat) (A5 : Option Addr) (c5 : Nat) (G : List Int), k ≤ n2 ∧ i = .int .i64 k ∧ o = .slice A5 k c5 ∧ Hid (OwnPV wr w.heap.size A5 k c5 (Ph.gainParts G)) ∧ Hid (Ph.unGains n2 l = (Ph.unGains (n2 - k) (l.drop (6 * k))).map (fun q => (G ++ q.1, q.2))) ∧ Hid (Below w.heap.size w wr)) (fun _ _ _ _ _ i _ => n2 - (intOf i).toNat)
  case atStart => exact ⟨0, none, 0, [], Nat.zero_le _, rfl, rfl, Lib.hid (OwnPV.nil _ _), Lib.hid (by simp), Lib.hid (Below.refl _ _)⟩
  case round =>
    obtain ⟨k, A5, c5, G, hk, rfl, rfl, HP, HU, HBW⟩ := hrel
    by_cases hlt : k < n2
    · have hu := HU.out
      obtain ⟨m, hm⟩ : ∃ m, n2 - k = m + 1 := ⟨n2 - k - 1, by omega⟩
      rw [hm, unGains_step] at hu
      have hdl : (l.drop (6 * k)).length = n1 - 6 * k := by rw [List.length_drop, HL.out]
      by_cases h6 : n1 < 6 * (k + 1)
      · rw [if_pos (by omega)] at hu
        have hr : R = none := by rw [HR.out, hu]; rfl
        subst hr
        have h6' : (n1 : Int) < 6 * ((k : Int) + 1) := by omega
        clear hu hdl HR
        go_wp2_with fail
        go_ret2
        exact ⟨none, 0, 0, rfl, OwnPV.nil _ _, HBW.out⟩
      · rw [if_neg (by omega)] at hu
        have h6' : ¬ (n1 : Int) < 6 * ((k : Int) + 1) := by omega
        have hrd := ((H1.out.below (HBW.out.mono hB)).drop (k := 6 * k) (by omega)).take (k := 6) (by omega)
        have hbt : Ph.isBits ((l.drop (6 * k)).take 6) := fun x hx => HB.out x (List.mem_of_mem_drop (List.mem_of_mem_take hx))
        have hlt6 := Ph.number_lt hbt
        have hl6 : ((l.drop (6 * k)).take 6).length = 6 := by rw [List.length_take, hdl]; omega
        rw [hl6] at hlt6
        have HGA := Lib.hid (gather_any _ 6 (c1 - 6 * k) _ wr B hrd hbt (by omega))
        have hdd : (l.drop (6 * k)).drop 6 = l.drop (6 * (k + 1)) := by rw [List.drop_drop]; congr 1
        rw [hdd] at hu
        obtain ⟨N, hN⟩ : ∃ N, N = Ph.number ((l.drop (6 * k)).take 6) := ⟨_, rfl⟩
        rw [← hN] at HGA hu hlt6
        have hgk : Ph.gainOk (N : Int) = Ph.valued N := by unfold Ph.gainOk; rw [Int.toNat_natCast]; simp
        by_cases hv : Ph.valued N = true
        · rw [if_pos hv] at hu
          have HGV := Lib.hid fun W => gv_ok (N : Int) W (hgk.trans hv)
          have HU2 : Hid (Ph.unGains n2 l = (Ph.unGains (n2 - (k + 1)) (l.drop (6 * (k + 1)))).map (fun q => ((G ++ [(N : Int)]) ++ q.1, q.2))) := Lib.hid (by
            rw [hu, show n2 - (k + 1) = m by omega, Option.map_map]
            congr 1
            funext q
            simp)
          obtain ⟨V, hV⟩ : ∃ V, V = Ph.val (N : Int) := ⟨_, rfl⟩
          rw [← hV] at HGV
          clear hu hdl HR hrd hbt hl6 hdd hN hgk hv hV
          go_wp2_with fail
          rw [show 6 * (k + 1) - 6 * k = 6 by omega]
          refine HGA.out.mono ?_
          rintro e w' ⟨rfl, rfl⟩
          go_wp2_with fail
          refine (HGV.out _).mono ?_
          rintro e w3 ⟨rfl, nq, rfl⟩
          obtain ⟨W3, hW3⟩ : ∃ W3, W3 = wr.drewN nq := ⟨_, rfl⟩
          have HP3 : Hid (OwnPV W3 w.heap.size A5 k c5 (Ph.gainParts G)) := Lib.hid (by rw [hW3]; exact HP.out.below' ⟨rfl, rfl, rfl, Nat.le_refl _, fun _ _ => rfl⟩)
          have HB3 : Hid (Below w.heap.size w W3) := Lib.hid (by rw [hW3]; exact below_drewN' HBW.out _)
          rw [← hW3]
          clear hW3
          go_wp2_with (at_builtin; refine wpList_pushP _ (by rfl) _ _ (by rfl) w w.heap.size A5 k c5 _ (N : Int) HP3.out HB3.out HB3.out.size (by omega) (by rfl) (by rfl) ?_; intro g cap w9 hp9 hb9 hg9)
          have HP9 := Lib.hid hp9
          have HB9 := Lib.hid hb9
          clear hp9 hb9 hg9
          go_wp2_with fail
          go_roundw
          case rel => exact ⟨k + 1, some ⟨g, 0, none⟩, cap, G ++ [(N : Int)], by omega, by go_num, rfl, Lib.hid (by have := HP9.out; unfold Ph.gainParts at *; rw [List.map_append]; exact this), HU2, HB9⟩
          case measure => simp [intOf]; omega
        · have hv' : Ph.valued N = false := by simpa using hv
          rw [if_neg hv] at hu
          have hr : R = none := by rw [HR.out, hu]; rfl
          subst hr
          have HGN := Lib.hid fun W => gv_no (N : Int) W (hgk.trans hv')
          clear hu hdl HR hrd hbt hl6 hdd hN hgk hv hv'
          go_wp2_with fail
          rw [show 6 * (k + 1) - 6 * k = 6 by omega]
          refine HGA.out.mono ?_
          rintro e w' ⟨rfl, rfl⟩
          go_wp2_with fail
          refine (HGN.out _).mono ?_
          rintro e w3 ⟨rfl, nq, rfl⟩
          go_wp2_with fail
          go_ret2
          exact ⟨none, 0, 0, rfl, OwnPV.nil _ _, below_drewN' HBW.out _⟩
    · obtain rfl : k = n2 := by omega
      have hu := HU.out
      rw [Nat.sub_self] at hu
      have hr : R = some (Ph.gainParts G) := by rw [HR.out, hu]; simp [Ph.unGains]
      subst hr
      clear hu HR
      go_wp2_with fail
      go_ret2
      exact ⟨A5, k, c5, rfl, HP.out, HBW.out⟩
/-- Parts of gains, of the first ones the pulses too. -/
def rowsTo (g : List Int) (L : List (List Int)) : List Ph.Part := (List.range g.length).map fun i => ⟨g.getD i 0, L.getD i []⟩
theorem rowsTo_len (g : List Int) (L : List (List Int)) : (rowsTo g L).length = g.length := by simp [rowsTo]
theorem rowsTo_nil (g : List Int) : rowsTo g [] = Ph.gainParts g := by
  unfold rowsTo Ph.gainParts
  apply List.ext_getElem
  · simp
  · intro i h1 h2
    simp at h1
    simp [List.getElem?_eq_getElem h1]
theorem rowsTo_all (g : List Int) (L : List (List Int)) (h : L.length = g.length) : rowsTo g L = List.zipWith Ph.Part.mk g L := by
  unfold rowsTo
  apply List.ext_getElem
  · simp [h]
  · intro i h1 h2
    simp at h1
    simp [List.getElem?_eq_getElem h1, List.getElem?_eq_getElem (show i < L.length by omega)]
theorem rowsTo_get (g : List Int) (L : List (List Int)) (k : Nat) (h : k < g.length) : (rowsTo g L).getD k ⟨0, []⟩ = ⟨g.getD k 0, L.getD k []⟩ := by
  unfold rowsTo
  rw [List.getD_eq_getElem?_getD, List.getElem?_map, List.getElem?_range h]; rfl
theorem rowsTo_set (g : List Int) (L : List (List Int)) (v : List Int) (h : L.length < g.length) : (rowsTo g L).set L.length ⟨((rowsTo g L).getD L.length ⟨0, []⟩).gain, v⟩ = rowsTo g (L ++ [v]) := by
  rw [rowsTo_get g L _ h]
  apply List.ext_getElem
  · simp [rowsTo]
  · intro i h1 h2
    rw [List.getElem_set]
    simp only [rowsTo, List.getElem_map, List.getElem_range]
    split
    · rename_i e
      subst e
      simp
    · rename_i e
      by_cases hi : i < L.length
      · rw [List.getD_eq_getElem?_getD (l := L ++ [v]), List.getElem?_append_left hi, List.getD_eq_getElem?_getD (l := L)]
      · rw [List.getD_eq_getElem?_getD (l := L ++ [v]), List.getElem?_eq_none (by simp; omega), List.getD_eq_getElem?_getD (l := L), List.getElem?_eq_none (by omega)]
theorem unRows_step {s k : Int} {ss ks l : List Int} : Ph.unRows (s :: ss) (k :: ks) l = if (l.length : Int) < Ph.wid s k then none else if Ph.number (l.take (Ph.wid s k).toNat) < Ph.cnt s.toNat k.toNat then (Ph.unRows ss ks (l.drop (Ph.wid s k).toNat)).map (fun q => (Ph.rowOf s.toNat k.toNat (Ph.number (l.take (Ph.wid s k).toNat)) :: q.1, q.2)) else none := by
  rw [Ph.unRows]
  split
  · rfl
  · split
    · cases Ph.unRows ss ks (l.drop (Ph.wid s k).toNat) with
      | none => rfl
      | some q => rfl
    · rfl
theorem drop_cons {l : List Int} {k : Nat} (h : k < l.length) : l.drop k = l.getD k 0 :: l.drop (k + 1) := by
  rw [List.getD_eq_getElem?_getD, List.getElem?_eq_getElem h]; exact List.drop_eq_getElem_cons h
theorem noOne_contains : ∀ r : List Int, Ph.noOne r = !r.contains 1
  | [] => rfl
  | z :: r => by
    have ih := noOne_contains r
    unfold Ph.noOne at *
    rw [List.all_cons, ih, List.contains_cons]
    by_cases hz : z = 1
    · subst hz; simp
    · have h1 : ((1 : Int) == z) = false := by simp; omega
      rw [h1]
      simp [hz]
/-- Parts, and whether they are such: only if they are. -/
def ReadP (R : Option (List Ph.Part)) (w : World) (e : Ending) (w' : World) : Prop :=
  ∃ A n c, e = .returned (.tuple #[.slice A n c, .bool R.isSome]) ∧ (∀ p, R = some p → OwnPV w' w.heap.size A n c p) ∧ Below w.heap.size w w'
theorem ReadP.none {w w' : World} (hb : Below w.heap.size w w') : ReadP none w (.returned (.tuple #[.slice none 0 0, .bool false])) w' := ⟨Option.none, 0, 0, rfl, fun _ h => (by cases h), hb⟩
set_option maxHeartbeats 8000000 in
set_option maxRecDepth 100000 in
theorem read_any (b : ByteArray) (A2 : Option Addr) (n2 c2 : Nat) (s : List Int) (bits : Int) (w : World) (B : Nat) (h2 : RdI w B A2 n2 s) (hB : B ≤ w.heap.size) (hsz : b.size ≤ 50) (h0 : Ph.bandErr s = 0) (hbi : 0 ≤ bits ∧ bits ≤ 400) :
    Calls Tryz.prog 63 #[.string b, .slice A2 n2 c2, .int .i64 bits] w (ReadP (Ph.unpack (bytesOf b) s bits) w) := by
  have hb8 := Ph.bandErr_zero.1 h0
  have hn8 : n2 ≤ 8 := by have := hb8.2.1; have := h2.len; omega
  have HSP : Hid (∀ x ∈ s, 1 ≤ x ∧ x ≤ 6) := Lib.hid hb8.2.2.1
  have HS := Lib.hid h2.len
  have H2 := Lib.hid (h2.more hB)
  have HB0 := Lib.hid h0
  have HOP := Lib.hid (open_any b w (by omega))
  have hol : (Ph.opened (bytesOf b)).length ≤ 400 := by rw [Ph.opened_length, bytesOf_length]; omega
  have hob := Ph.opened_bits (bytesOf b)
  obtain ⟨R, hR⟩ : ∃ R, R = Ph.unpack (bytesOf b) s bits := ⟨_, rfl⟩
  have hR2 := hR
  unfold Ph.unpack Ph.parse at hR2
  rw [h2.len] at hR2
  rw [← hR]
  obtain ⟨O, hO⟩ : ∃ O, O = Ph.opened (bytesOf b) := ⟨_, rfl⟩
  rw [← hO] at HOP hol hob hR2
  obtain ⟨N, hN⟩ : ∃ N, N = O.length := ⟨_, rfl⟩
  have HOB := Lib.hid hob
  have HGN := Lib.hid fun A c W (hW : RdI W W.heap.size A O.length O) hc => gains_any A O.length c O A2 n2 c2 W W.heap.size hW (Nat.le_refl _) hc HOB.out (by omega) hn8
  have HUB := Lib.hid fun (g r : List Int) h => Ph.unGains_back (n := n2) (x := O) (g := g) (r := r) HOB.out h
  have HN := Lib.hid hN
  rw [← hN] at HGN hol
  obtain ⟨U, hU⟩ : ∃ U, U = Ph.unGains n2 O := ⟨_, rfl⟩
  rw [← hU] at HGN hR2
  have HU := Lib.hid hU
  have HR := Lib.hid hR2
  clear h2 h0 hb8 hR hO hob hR2 hU
  go_enter Tryz.func63, Tryz.ntmps63
  go_wp2_with fail
  refine HOP.out.mono ?_
  rintro e w1 ⟨A1, c1, rfl, ho, hb⟩
  rw [← hN] at ho ⊢
  have HO1 := Lib.hid ho
  have HB1 := Lib.hid hb
  clear ho hb hN
  go_wp2_with fail
  refine (HGN.out A1 c1 _ (RdI.own HO1.out) (own_cap HO1.out)).mono ?_
  rintro e w2 ⟨A3, n3, c3, rfl, hp, hb⟩
  have HP2 := Lib.hid hp
  have HB2 := Lib.hid (below_on HB1.out hb)
  have hb2 := hb
  clear hp hb HGN HOP
  cases U with
  | none =>
    have hr : R = none := HR.out
    subst hr
    clear HR HU
    go_wp2_with fail
    go_ret2
    exact ReadP.none HB2.out
  | some q =>
    obtain ⟨g, r⟩ := q
    have hub := HUB.out g r HU.out.symm
    have hr := HR.out
    simp only [Option.map_some, Option.getD_some] at HP2 hr
    have hn3 : n3 = n2 := by have := HP2.out.len; unfold Ph.gainParts at this; rw [List.length_map, hub.1] at this; exact this.symm
    subst hn3
    have hfl : ∀ g : List Int, (g.flatMap fun y => Ph.bitsW 6 y.toNat).length = 6 * g.length := by
      intro g
      induction g with
      | nil => rfl
      | cons y g ih => rw [List.flatMap_cons, List.length_append, Ph.bitsW_length, ih, List.length_cons]; omega
    have hrd : r = O.drop (6 * n3) := by
      have h3 := hub.2.2
      have h4 := hfl g
      rw [hub.1] at h4
      rw [h3, ← h4, List.drop_left]
    have h6N : 6 * n3 ≤ N := by
      have h3 := congrArg List.length hub.2.2
      rw [List.length_append, hfl, hub.1, ← HN.out] at h3
      omega
    have hgok : ∀ p ∈ Ph.gainParts g, Ph.gainOk p.gain = true := fun p hp => by
      obtain ⟨x, hx, rfl⟩ := List.mem_map.1 hp
      exact hub.2.1 x hx
    have HGI := Lib.hid (fgiven_any A3 n3 c3 (Ph.gainParts g) A2 c2 s bits w2 w2.heap.size w.heap.size HP2.out.rd (H2.out.below HB2.out) (Nat.le_refl _) HB2.out.size hgok HB0.out hbi)
    have hso := Ph.share_ok (s := s) (loud := Ph.vals (Ph.gainParts g)) (bits := bits) hbi.1
    obtain ⟨K, hK⟩ : ∃ K, K = Ph.shared (Ph.gainParts g) s bits := ⟨_, rfl⟩
    have hKo : Ph.pulsesOk K := by rw [hK]; exact hso.2.1
    have hKl : K.length = n3 := by rw [hK, ← HS.out]; exact hso.1
    rw [← hK] at HGI hr
    have HGL := Lib.hid hub.1
    have HKO := Lib.hid hKo
    have HKL := Lib.hid hKl
    have HRR := Lib.hid hr
    have HRF : Hid (∀ wx B', RdI wx B' A1 N O → RdI wx B' (if c1 = 6 * n3 then A1 else A1.map (·.add (6 * n3))) (N - 6 * n3) r) := Lib.hid fun wx B' h => by
      rw [hrd]
      exact h.drop_if h6N (own_cap HO1.out)
    have HOW2 := Lib.hid (own_below' HO1.out hb2)
    have HRB : Hid (Ph.isBits r) := Lib.hid fun x hx => HOB.out x (by rw [hrd] at hx; exact List.mem_of_mem_drop hx)
    have h6i : 6 * (n3 : Int) ≤ (N : Int) := by omega
    have hcN := own_cap HO1.out
    clear hub hr hfl hrd hgok hso hK hKo hKl HR HU
    have hcc6 : 6 * (n3 : Int) ≤ (c1 : Int) := by omega
    clear hb2 HO1
    go_upto_region 5 with (fail)
    go_cut [8] (fun s8 wx => ∃ (As : Option Addr) (ca : Nat), s8 = .slice As (N - 6 * n3) ca ∧ N - 6 * n3 ≤ ca ∧ wx = w2 ∧ Hid (∀ wx B', RdI wx B' A1 N O → RdI wx B' As (N - 6 * n3) r))
    case first =>
      by_cases hcc : c1 = 6 * n3
      · have HR2 : Hid (∀ wx B', RdI wx B' A1 N O → RdI wx B' A1 (N - 6 * n3) r) := Lib.hid (by have h := HRF.out; simp only [if_pos hcc] at h; exact h)
        go_wp2_with fail
        go_meet
        case rel => exact ⟨A1, _, rfl, by omega, rfl, HR2⟩
      · have HR2 : Hid (∀ wx B', RdI wx B' A1 N O → RdI wx B' (A1.map (·.add (6 * n3))) (N - 6 * n3) r) := Lib.hid (by have h := HRF.out; simp only [if_neg hcc] at h; exact h)
        go_wp2_with fail
        go_meet
        case rel => exact ⟨_, _, rfl, by omega, rfl, HR2⟩
    case rest =>
      obtain ⟨As, ca, rfl, hca, rfl, HRS⟩ := hcut
      rename World => w2
      obtain ⟨na, hna⟩ : ∃ na, na = N - 6 * n3 := ⟨_, rfl⟩
      rw [← hna] at HRS hca ⊢
      have hna4 : na ≤ 400 := by omega
      clear HRF hna
      go_wp2_with fail
      refine HGI.out.mono ?_
      rintro e w3 ⟨A34, c34, rfl, ho, hb⟩
      rw [HKL.out] at ho ⊢
      have HK3 := Lib.hid (own_more ho HB2.out.size)
      have HP3 : Hid (OwnPV w3 w.heap.size A3 n3 c3 (rowsTo g [])) := Lib.hid (by rw [rowsTo_nil]; exact (HP2.out.below' hb).more HB1.out.size)
      have HO3 := Lib.hid (own_below' HOW2.out hb)
      have HB3 := Lib.hid (below_on HB2.out hb)
      clear ho hb HGI HP2 HOW2 HB2
      go_wp2_with fail
      go_loopw [8, 11, 12, 13, 14, 15, 36] (fun al _ _ _ _ _ i wr => ∃ (k : Nat) (As : Option Addr) (na ca : Nat) (L : List (List Int)) (rk : List Int), k ≤ n3 ∧ i = .int .i64 k ∧ al = .slice As na ca ∧ na ≤ ca ∧ na ≤ 400 ∧ L.length = k ∧ Hid (∀ wx B', RdI wx B' A1 N O → RdI wx B' As na rk) ∧ Hid (Ph.isBits rk) ∧ Hid (OwnPV wr w.heap.size A3 n3 c3 (rowsTo g L)) ∧ Hid (wr.ownsRow w.heap.size 3 1 (.slice A34 n3 c34) n3 (ivals K)) ∧ Hid (wr.ownsRow w.heap.size 3 1 (.slice A1 N c1) N (ivals O)) ∧ Hid (Ph.unRows s K r = (Ph.unRows (s.drop k) (K.drop k) rk).map (fun q => (L ++ q.1, q.2))) ∧ Hid (Below w.heap.size w wr)) (fun _ _ _ _ _ _ i _ => n3 - (intOf i).toNat)
      case atStart => exact ⟨0, As, na, ca, [], r, Nat.zero_le _, rfl, rfl, hca, hna4, rfl, HRS, HRB, HP3, HK3, HO3, Lib.hid (by simp), HB3⟩
      case round =>
        clear HRS HRB HP3 HK3 HO3 HB3 hca hna4
        obtain ⟨k, As, na, ca, L, rk, hk, rfl, rfl, hca, hna4, hLk, HRS, HRB, HP, HK, HO, HU, HBW⟩ := hrel
        by_cases hlt : k < n3
        · have hks : k < s.length := by rw [HS.out]; exact hlt
          have hkK : k < K.length := by rw [HKL.out]; exact hlt
          obtain ⟨b2, o2, hA2, hbb2, d2⟩ := (H2.out.below HBW.out).at_ hlt
          subst hA2
          obtain ⟨b4, o4, hA4, hbb4, d4⟩ := (RdI.own HK.out).at_ hlt
          subst hA4
          have hsx := HSP.out _ (Ph.getD_mem hks)
          have hkx := Ph.pulsesOk_getD HKO.out k
          have hu := HU.out
          rw [drop_cons hks, drop_cons hkK, unRows_step] at hu
          have hrd := HRS.out wr wr.heap.size (RdI.own HO.out)
          have hrl := hrd.len
          obtain ⟨x, hx⟩ : ∃ x, x = s.getD k 0 := ⟨_, rfl⟩
          obtain ⟨y, hy⟩ : ∃ y, y = K.getD k 0 := ⟨_, rfl⟩
          rw [← hx] at d2 hsx hu
          rw [← hy] at d4 hkx hu
          obtain ⟨X, rfl⟩ := Int.eq_ofNat_of_zero_le (show 0 ≤ x by omega)
          obtain ⟨Y, rfl⟩ := Int.eq_ofNat_of_zero_le hkx.1
          have hwb := wid_bd (X : Int) (Y : Int) (by omega) hkx
          have HWD := Lib.hid fun W => wid_any (X : Int) (Y : Int) W (by omega) hkx
          obtain ⟨V, hV⟩ := Int.eq_ofNat_of_zero_le hwb.1
          rw [hV] at HWD hu hwb
          simp only [Int.toNat_natCast] at hu
          rw [hrl] at hu
          have hV20 : V ≤ 20 := by omega
          clear hx hy hkK hwb hV
          by_cases hsh : na < V
          · rw [if_pos (by omega)] at hu
            have hr : R = none := by rw [HRR.out, hu]; rfl
            subst hr
            clear hu HRR
            go_wp2_with fail
            refine (HWD.out _).mono ?_
            rintro e w4 ⟨rfl, hb⟩
            have HB4 := Lib.hid (below_on HBW.out hb)
            clear hb d2 d4
            go_wp2_with fail
            go_ret2
            exact ReadP.none HB4.out
          · rw [if_neg (by omega)] at hu
            have hbt : Ph.isBits (rk.take V) := fun z hz => HRB.out z (List.mem_of_mem_take hz)
            obtain ⟨M, hM⟩ : ∃ M, M = Ph.number (rk.take V) := ⟨_, rfl⟩
            have HGA := Lib.hid fun W (hW : RdI W wr.heap.size As na rk) => gather_any As V ca (rk.take V) W wr.heap.size (hW.take (by omega)) hbt (by omega)
            rw [← hM] at HGA hu
            have HRA := Lib.hid hrd
            have hVn : (V : Int) ≤ (na : Int) := by omega
            have hVc : (V : Int) ≤ (ca : Int) := by omega
            have hV0 : (0 : Int) ≤ (V : Int) := by omega
            clear hbt hM hrd
            have hX6 : X ≤ 6 := by omega
            have hY8 : Y ≤ 8 := by omega
            by_cases hc : M < Ph.cnt X Y
            · rw [if_pos hc] at hu
              have HPO := Lib.hid fun W => pOf_ok X Y M W hX6 hY8 hc
              have HRO : Hid (Ph.unRows s K r = (Ph.unRows (s.drop (k + 1)) (K.drop (k + 1)) (rk.drop V)).map (fun q => ((L ++ [Ph.rowOf X Y M]) ++ q.1, q.2))) := Lib.hid (by
                rw [hu, Option.map_map]
                congr 1
                funext q
                simp)
              obtain ⟨RW, hRW⟩ : ∃ q, q = Ph.rowOf X Y M := ⟨_, rfl⟩
              rw [← hRW] at HPO HRO
              have hRX : RW.length = X := by rw [hRW]; exact Ph.rowOf_length _ _ _
              have HRX := Lib.hid hRX
              clear hu hRW hRX hc
              go_wp2_with fail
              refine (HWD.out _).mono ?_
              rintro e w4 ⟨rfl, hb⟩
              have HB4 := Lib.hid (below_on HBW.out hb)
              have HRA4 := Lib.hid (HRA.out.below hb)
              have HP4 := Lib.hid (HP.out.below' hb)
              have HK4 := Lib.hid (own_below' HK.out hb)
              have HO4 := Lib.hid (own_below' HO.out hb)
              have d3 := (hb.cell (World.block_lt_of_cell? wr _ d2)).trans d2
              clear hb d2 d4
              go_wp2_with fail
              go_upto_region 12 with (fail)
              go_cut [14, 15] (fun s14 s15 wx => ∃ A14 c14, s14 = .slice A14 X c14 ∧ s15 = .nilIface ∧ Hid (wx.ownsRow w4.heap.size 3 1 (.slice A14 X c14) X (ivals RW)) ∧ Hid (Below w4.heap.size w4 wx))
              case first =>
                go_region_with (first
                  | (go_at_call 100; refine (HGA.out _ (RdI.drew HRA4.out)).mono ?_; rintro e w5 ⟨rfl, rfl⟩)
                  | (go_at_call 104; refine (HPO.out _).mono ?_; rintro e w6 ⟨A14, c14, rfl, ho6, hb6⟩))
                all_goals go_wp2_with fail
                all_goals go_meet
                all_goals exact ⟨A14, c14, rfl, rfl, Lib.hid ho6, Lib.hid ⟨hb6.os, hb6.tape, hb6.output, hb6.size, hb6.block⟩⟩
              case rest =>
                obtain ⟨A14, c14, rfl, rfl, HN5, HB5⟩ := hcut
                rename World => w5
                have HP5 := Lib.hid (HP4.out.below' HB5.out)
                have HK5 := Lib.hid (own_below' HK4.out HB5.out)
                have HO5 := Lib.hid (own_below' HO4.out HB5.out)
                have HB6 := Lib.hid (below_on HB4.out HB5.out)
                have hOV : OwnV w5 w.heap.size (.slice A14 X c14) RW := ⟨A14, c14, by rw [HRX.out], by rw [HRX.out]; exact own_more HN5.out HB4.out.size⟩
                have HOV := Lib.hid hOV
                obtain ⟨g5, rfl, hg5, hg5l⟩ := HP5.out.form (by omega)
                obtain ⟨_, ⟨A9, c9, p3, _⟩, p4⟩ := HP5.out.cells hlt
                have hst := HP5.out.setRow hlt hOV
                have hLg : L.length < g.length := by rw [HGL.out]; omega
                have hrs := rowsTo_set g L RW hLg
                have hPn := hst.1
                rw [← hLk] at hPn
                rw [hrs, hLk] at hPn
                have HPn := Lib.hid hPn
                have HKn := Lib.hid (HP5.out.keeps (by decide) HK5.out hst.2)
                have HOn := Lib.hid (HP5.out.keeps (by decide) HO5.out hst.2)
                have HBn := Lib.hid (HB6.out.setCell (p := ⟨g5, k * 2 + 1, none⟩) hg5 (.slice A14 X c14))
                have HRSn : Hid (∀ wx B', RdI wx B' A1 N O → RdI wx B' (if ca = V then As else As.map (·.add V)) (na - V) (rk.drop V)) := Lib.hid fun wx B' h => (HRS.out wx B' h).drop_if (by omega) hca
                have HRBn : Hid (Ph.isBits (rk.drop V)) := Lib.hid fun z hz => HRB.out z (List.mem_of_mem_drop hz)
                obtain ⟨P9, hP9⟩ : ∃ q, q = ((rowsTo g L).getD k ⟨0, []⟩).pulses.length := ⟨_, rfl⟩
                rw [← hP9] at p3
                clear hOV hst hrs hPn hP9 hLg HP4 HK4 HO4 HB4 HRA4 d3 HRA HGA HPO HWD HP HK HO HBW
                by_cases hcv : ca = V
                · have HRSm := HRSn.out
                  simp only [if_pos hcv] at HRSm
                  have HRSm := Lib.hid HRSm
                  clear HRSn
                  go_wp2_with fail
                  go_region
                  go_wp2_with fail
                  go_roundw
                  case rel => exact ⟨k + 1, As, na - V, _, L ++ [RW], rk.drop V, by omega, by go_num, rfl, by omega, by omega, by simp [hLk], HRSm, HRBn, Lib.hid (HPn.out.below' ⟨rfl, rfl, rfl, Nat.le_refl _, fun _ _ => rfl⟩), Lib.hid (own_drew HKn.out), Lib.hid (own_drew HOn.out), HRO, Lib.hid (HBn.out.drew)⟩
                  case measure => simp [intOf]; omega
                · have HRSm := HRSn.out
                  simp only [if_neg hcv] at HRSm
                  have HRSm := Lib.hid HRSm
                  clear HRSn
                  go_wp2_with fail
                  go_region
                  go_wp2_with fail
                  go_roundw
                  case rel => exact ⟨k + 1, _, na - V, _, L ++ [RW], rk.drop V, by omega, by go_num, rfl, by omega, by omega, by simp [hLk], HRSm, HRBn, Lib.hid (HPn.out.below' ⟨rfl, rfl, rfl, Nat.le_refl _, fun _ _ => rfl⟩), Lib.hid (own_drew HKn.out), Lib.hid (own_drew HOn.out), HRO, Lib.hid (HBn.out.drew)⟩
                  case measure => simp [intOf]; omega
            · rw [if_neg hc] at hu
              have hr : R = none := by rw [HRR.out, hu]; rfl
              subst hr
              have HPN := Lib.hid fun W => pOf_no (X : Int) (Y : Int) (M : Int) W (by
                rcases h : ofOk (X : Int) (Y : Int) (M : Int) with _ | _
                · rfl
                · have := (ofOk_iff.1 h).2.2
                  simp only [Int.toNat_natCast] at this
                  omega)
              clear hu HRR
              go_wp2_with fail
              refine (HWD.out _).mono ?_
              rintro e w4 ⟨rfl, hb⟩
              have HB4 := Lib.hid (below_on HBW.out hb)
              have HRA4 := Lib.hid (HRA.out.below hb)
              have d3 := (hb.cell (World.block_lt_of_cell? wr _ d2)).trans d2
              clear hb d2 d4
              go_wp2_with fail
              go_upto_region 12 with (fail)
              go_cut [14, 15] (fun s14 s15 wx => s15 = errV 1 ∧ Hid (Below w.heap.size w wx))
              case first =>
                go_region_with (first
                  | (go_at_call 100; refine (HGA.out _ (RdI.drew HRA4.out)).mono ?_; rintro e w5 ⟨rfl, rfl⟩)
                  | (go_at_call 104; refine (HPN.out _).mono ?_; rintro e w6 ⟨rfl, hb6⟩))
                all_goals go_wp2_with fail
                all_goals go_meet
                all_goals exact ⟨rfl, Lib.hid (below_on HB4.out ⟨hb6.os, hb6.tape, hb6.output, hb6.size, hb6.block⟩)⟩
              case rest =>
                obtain ⟨rfl, HB5⟩ := hcut
                rw [errV_ne (by omega)]
                go_wp2_with fail
                go_ret2
                exact ReadP.none HB5.out
        · obtain rfl : k = n3 := by omega
          have hu := HU.out
          rw [List.drop_of_length_le (by rw [HS.out]; omega), List.drop_of_length_le (by rw [HKL.out]; omega)] at hu
          have hr := HRR.out
          rw [hu] at hr
          simp only [Ph.unRows, Option.map_some, List.append_nil] at hr
          have hrd := HRS.out wr wr.heap.size (RdI.own HO.out)
          have hrl := hrd.len
          have HCN := Lib.hid (contains_any As na ca rk 1 wr wr.heap.size hrd (by omega))
          have hno := noOne_contains rk
          rw [hno, hrl] at hr
          rw [rowsTo_all g L (by rw [HGL.out, hLk])] at HP
          have HR2 := Lib.hid hr
          clear hu hr hrd hrl hno HRR
          by_cases h8 : na < 8
          · have h8' : (na : Int) < 8 := by omega
            cases hc : rk.contains 1 with
            | true =>
              have hr : R = none := by rw [HR2.out, hc, if_neg (by simp)]
              subst hr
              rw [hc] at HCN
              clear HR2 hc
              go_wp2_with fail
              refine HCN.out.mono ?_
              rintro e w4 ⟨rfl, rfl⟩
              go_wp2_with fail
              go_ret2
              exact ⟨A3, k, c3, rfl, fun p h => (by cases h), HBW.out⟩
            | false =>
              have hr : R = some (List.zipWith Ph.Part.mk g L) := by rw [HR2.out, hc, if_pos (by simp; omega)]
              subst hr
              rw [hc] at HCN
              clear HR2 hc
              go_wp2_with fail
              refine HCN.out.mono ?_
              rintro e w4 ⟨rfl, rfl⟩
              go_wp2_with fail
              go_ret2
              exact ⟨A3, k, c3, rfl, fun p h => (by cases h; exact HP.out), HBW.out⟩
          · have hr : R = none := by rw [HR2.out, if_neg (by simp; omega)]
            subst hr
            have h8' : ¬ (na : Int) < 8 := by omega
            clear HR2
            go_wp2_with fail
            go_ret2
            exact ⟨A3, k, c3, rfl, fun p h => (by cases h), HBW.out⟩
end Go.Proofs.YtmohilfebgahoaaGreatDoor
/- Walks: a frame out of bytes (chapter 17: Unpack). -/
namespace Go.Proofs.YtmohilfebgahoaaGreatDoor
open Go.RowKit

/-- What is wrong with bytes as a frame. -/
def unpE (b : List Nat) (s : List Int) (bits : Int) : Int :=
  if Ph.bandErr s ≠ 0 then Ph.bandErr s else if bits < 0 ∨ 400 < bits then 1 else if 50 < b.length then 2 else if (Ph.unpack b s bits).isSome = true then 0 else 2
def unpL (b : List Nat) (s : List Int) (bits : Int) : List Ph.Part := if unpE b s bits = 0 then (Ph.unpack b s bits).getD [] else []
theorem unpE_zero {b : List Nat} {s : List Int} {bits : Int} (h : unpE b s bits = 0) : Ph.bandErr s = 0 ∧ (0 ≤ bits ∧ bits ≤ 400) ∧ b.length ≤ 50 ∧ Ph.unpack b s bits = some (unpL b s bits) := by
  have h' := h
  unfold unpE at h
  split at h
  · omega
  · split at h
    · omega
    · split at h
      · omega
      · split at h
        · rename_i h1 h2 h3 h4
          refine ⟨by omega, by omega, by omega, ?_⟩
          unfold unpL
          rw [if_pos h']
          cases hu : Ph.unpack b s bits with
          | none => rw [hu] at h4; cases h4
          | some p => rfl
        · omega
set_option maxHeartbeats 2000000 in
theorem unpack_any (b : ByteArray) (A2 : Option Addr) (n2 c2 : Nat) (s : List Int) (bits : Int) (w : World) (B : Nat) (h2 : RdI w B A2 n2 s) (hB : B ≤ w.heap.size) (hn : n2 ≤ 100000000000000) (hs : b.size ≤ 140737488351232) :
    Calls Tryz.prog 27 #[.string b, .slice A2 n2 c2, .int .i64 bits] w (ToldP (unpE (bytesOf b) s bits) (unpL (bytesOf b) s bits) w) := by
  have hbl := bytesOf_length b
  by_cases hb : Ph.bandErr s = 0
  · have HBC := Lib.hid (bandCheck_ok A2 n2 c2 s w B h2 hb)
    have HSB := Lib.hid fun W => shbits_any bits W
    by_cases hbi : 0 ≤ bits ∧ bits ≤ 400
    · rw [show bitsOk bits = true from bitsOk_iff.2 hbi] at HSB
      by_cases hsz : 50 < b.size
      · have e : unpE (bytesOf b) s bits = 2 := by unfold unpE; rw [if_neg (by omega), if_neg (by omega), if_pos (by omega)]
        have e2 : unpL (bytesOf b) s bits = [] := by unfold unpL; rw [if_neg (by omega)]
        rw [e, e2]
        have hsz' : (50 : Int) < (b.size : Int) := by omega
        clear e e2 h2 hb hbi hbl
        go_enter Tryz.func27, Tryz.ntmps27
        go_wp2_with fail
        refine HBC.out.mono ?_
        rintro e w' ⟨rfl, rfl⟩
        go_wp2_with fail
        refine (HSB.out _).mono ?_
        rintro e w' ⟨rfl, rfl⟩
        go_wp2_with fail
        go_ret2
        exact ToldP.none _ _ (errV_ne (by omega)).symm (Below.refl _ _)
      · have e : unpE (bytesOf b) s bits = if (Ph.unpack (bytesOf b) s bits).isSome = true then 0 else 2 := by unfold unpE; rw [if_neg (by omega), if_neg (by omega), if_neg (by omega)]
        have HRE := Lib.hid (read_any b A2 n2 c2 s bits w B h2 hB (by omega) hb hbi)
        have hul : unpL (bytesOf b) s bits = if unpE (bytesOf b) s bits = 0 then (Ph.unpack (bytesOf b) s bits).getD [] else [] := rfl
        have hsz' : ¬ (50 : Int) < (b.size : Int) := by omega
        obtain ⟨R, hR⟩ : ∃ R, R = Ph.unpack (bytesOf b) s bits := ⟨_, rfl⟩
        rw [← hR] at e HRE hul
        obtain ⟨E, hE⟩ : ∃ E, E = unpE (bytesOf b) s bits := ⟨_, rfl⟩
        obtain ⟨L, hL⟩ : ∃ E, E = unpL (bytesOf b) s bits := ⟨_, rfl⟩
        rw [← hE] at e hul ⊢
        rw [← hL] at hul ⊢
        clear h2 hb hbi hR hE hL hbl
        cases R with
        | none =>
          have e' : E = 2 := by rw [e]; rfl
          subst e'
          have hl : L = [] := by rw [hul, if_neg (by omega)]
          subst hl
          clear e hul
          go_enter Tryz.func27, Tryz.ntmps27
          go_wp2_with fail
          refine HBC.out.mono ?_
          rintro e w' ⟨rfl, rfl⟩
          go_wp2_with fail
          refine (HSB.out _).mono ?_
          rintro e w' ⟨rfl, rfl⟩
          go_wp2_with fail
          refine HRE.out.mono ?_
          rintro e w3 ⟨A3, n3, c3, rfl, _, hb⟩
          have HB3 := Lib.hid hb
          clear hb
          go_wp2_with fail
          go_ret2
          exact ToldP.none _ _ (errV_ne (by omega)).symm HB3.out
        | some p =>
          have e' : E = 0 := by rw [e]; rfl
          subst e'
          have hl : L = p := by rw [hul, if_pos rfl]; rfl
          subst hl
          clear e hul
          go_enter Tryz.func27, Tryz.ntmps27
          go_wp2_with fail
          refine HBC.out.mono ?_
          rintro e w' ⟨rfl, rfl⟩
          go_wp2_with fail
          refine (HSB.out _).mono ?_
          rintro e w' ⟨rfl, rfl⟩
          go_wp2_with fail
          refine HRE.out.mono ?_
          rintro e w3 ⟨A3, n3, c3, rfl, hp, hb⟩
          have HP3 := Lib.hid (hp _ rfl)
          have HB3 := Lib.hid hb
          clear hb hp
          go_wp2_with fail
          go_ret2
          exact ⟨A3, n3, c3, rfl, HP3.out, HB3.out⟩
    · rw [show bitsOk bits = false by unfold bitsOk; simp; omega] at HSB
      have e : unpE (bytesOf b) s bits = 1 := by unfold unpE; rw [if_neg (by omega), if_pos (by omega)]
      have e2 : unpL (bytesOf b) s bits = [] := by unfold unpL; rw [if_neg (by omega)]
      rw [e, e2]
      clear e e2 h2 hb hbi hbl
      go_enter Tryz.func27, Tryz.ntmps27
      go_wp2_with fail
      refine HBC.out.mono ?_
      rintro e w' ⟨rfl, rfl⟩
      go_wp2_with fail
      refine (HSB.out _).mono ?_
      rintro e w' ⟨rfl, rfl⟩
      go_wp2_with fail
      go_ret2
      exact ToldP.none _ _ (errV_ne (by omega)).symm (Below.refl _ _)
  · have HBC := Lib.hid (bandCheck_no A2 n2 c2 s w B h2 hn hb)
    have e : unpE (bytesOf b) s bits = Ph.bandErr s := by unfold unpE; rw [if_pos hb]
    have e2 : unpL (bytesOf b) s bits = [] := by unfold unpL; rw [if_neg (by omega)]
    rw [e, e2]
    obtain ⟨E, hE⟩ : ∃ E, E = Ph.bandErr s := ⟨_, rfl⟩
    rw [← hE] at HBC hb ⊢
    rw [errV_ne hb] at HBC
    clear e e2 h2 hE hbl
    go_enter Tryz.func27, Tryz.ntmps27
    go_wp2_with fail
    refine HBC.out.mono ?_
    rintro e w' ⟨rfl, rfl⟩
    go_wp2_with fail
    go_ret2
    exact ToldP.none _ _ (errV_ne hb).symm (Below.refl _ _)
/-- Sizes that are right: no part has more pulses than six, there are eight at most. -/
theorem unpL_small {b : List Nat} {s : List Int} {bits : Int} (hlt : ∀ x ∈ b, x < 256) (h : unpE b s bits = 0) : Ph.frameErr (unpL b s bits) s bits = 0 ∧ (unpL b s bits).length ≤ 8 ∧ ∀ p ∈ unpL b s bits, Ph.gainOk p.gain = true ∧ p.pulses.length ≤ 6 := by
  have hz := unpE_zero h
  have hf := (Ph.unpack_back hz.1 hz.2.1.1 hz.2.1.2 hlt hz.2.2.2).1
  have hfz := Ph.frameErr_zero.1 hf
  refine ⟨hf, ?_, fun p hp => ⟨(hfz.2.2.1 p hp).1, (Ph.pulsesErr_zero.1 (hfz.2.2.1 p hp).2).1⟩⟩
  have h8 := (Ph.bandErr_zero.1 hz.1).2.1
  have := congrArg List.length hfz.2.1
  rw [List.length_map] at this
  omega
/-- What a frame has that is read: numbers as many as its bands. -/
theorem unpL_many {b : List Nat} {s : List Int} {bits : Int} (hlt : ∀ x ∈ b, x < 256) (h : unpE b s bits = 0) : (Ph.manyOf (unpL b s bits) : Int) = Ph.total s := by
  have hf := Ph.frameErr_zero.1 (unpL_small hlt h).1
  have key : ∀ p : List Ph.Part, (Ph.manyOf p : Int) = Ph.total (p.map (fun x => (x.pulses.length : Int))) := by
    intro p
    unfold Ph.manyOf
    induction p with
    | nil => rfl
    | cons x p ih => simp only [List.map_cons, List.sum_cons, Ph.total]; omega
  rw [key, hf.2.1]
end Go.Proofs.YtmohilfebgahoaaGreatDoor
