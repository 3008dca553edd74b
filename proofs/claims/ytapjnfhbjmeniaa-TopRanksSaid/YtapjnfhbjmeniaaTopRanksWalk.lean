/- The walk of the law TopRanks. -/
import Derived.Test.YtapjnfhbjmeniaaLearnAllWalk
import Derived.Test.YtapjnfhbjmeniaaFrame
import Derived.Test.YtapjnfhbjmeniaaOne
namespace Go.Proofs.Ytapjnfhbjmeniaa
open Go.RowKit

/-- Halves of gains. -/
def halves (ps : List Ph.Part) : List Int := ps.map fun p => p.gain / 2
theorem halves_take (ps : List Ph.Part) (k : Nat) (h : k < ps.length) : (halves ps).take (k + 1) = (halves ps).take k ++ [(ps.getD k ⟨0, []⟩).gain / 2] := by
  unfold halves
  rw [List.take_succ_eq_append_getElem (by simpa using h), List.getElem_map, List.getD_eq_getElem?_getD, List.getElem?_eq_getElem h]
  rfl
theorem halves_len (ps : List Ph.Part) : (halves ps).length = ps.length := by unfold halves; simp
theorem flat_take (rs : List (List Int)) (k : Nat) (h : k < rs.length) : (rs.take (k + 1)).flatten = (rs.take k).flatten ++ rs.getD k [] := by
  rw [List.take_succ_eq_append_getElem h, List.flatten_append, List.getD_eq_getElem?_getD, List.getElem?_eq_getElem h]
  simp
theorem flat_le {b : Nat} : ∀ {rs : List (List Int)}, (∀ r ∈ rs, r.length ≤ b) → rs.flatten.length ≤ rs.length * b
  | [], _ => by simp
  | r :: rs, h => by
    have h1 := flat_le (rs := rs) fun x hx => h x (by simp [hx])
    have h2 := h r (by simp)
    rw [List.flatten_cons, List.length_append, List.length_cons, Nat.add_mul]
    omega
set_option maxHeartbeats 8000000 in
set_option maxRecDepth 1000000 in
theorem topRanks_walk (w : World) (A0 : Option Addr) (n0 c0 : Nat) (ls : List (List Int)) (h0 : RdR w w.heap.size A0 n0 ls) (_hb0 : n0 ≤ c0 ∧ c0 ≤ 5864062014804) (hls : ∀ l ∈ ls, l.length ≤ 17592186044415 ∧ ∀ x ∈ l, Is64 x) (A1 : Option Addr) (n1 c1 : Nat) (s : List Int) (h1 : RdI w w.heap.size A1 n1 s) (hb1 : n1 ≤ c1 ∧ c1 ≤ 17592186044415) (_ : ∀ x ∈ s, Is64 x) (bits : Int) :
    Calls Try.prog 8 #[.slice A0 n0 c0, .slice A1 n1 c1, .int .i64 bits] w fun e w' => e = .returned (.bool true) ∧ Below w.heap.size w w' := by
  have HL := Lib.hid h0.len
  have HL1 := Lib.hid h1.len
  have H0 := Lib.hid h0
  have H1 := Lib.hid h1
  have HLS := Lib.hid hls
  have hn1 : n1 ≤ 100000000000000 := by omega
  clear h0 h1 hls
  go_enter Try.func8, Try.ntmps8
  go_wp2_with fail
  refine (one_any _).mono ?_
  rintro e w1 ⟨rfl, hb⟩
  have HB1 := Lib.hid hb
  clear hb
  go_wp2_with fail
  go_loopw [8, 9, 10, 11, 12, 13] (fun sr i _ _ _ _ wr => ∃ (k m : Nat) (A : Option Addr) (c : Nat) (vs : List Value) (rs : List (List Int)), k ≤ n0 ∧ k ≤ 7 ∧ m ≤ k ∧ i = .int .i64 k ∧ sr = .slice A m c ∧ Hid (wr.ownsRow w1.heap.size 22 1 (.slice A m c) m vs) ∧ Hid (OwnsV wr w1.heap.size vs rs) ∧ Hid (rs.length = m ∧ ∀ r ∈ rs, r.length ≤ 8 ∧ ∀ x ∈ r, 0 ≤ x ∧ x < 27) ∧ Hid (Below w1.heap.size w1 wr)) (fun _ i _ _ _ _ _ => n0 - (intOf i).toNat)
  case atStart => exact ⟨0, 0, none, 0, [], [], Nat.zero_le _, by omega, by omega, rfl, rfl, Lib.hid (World.ownsRow_nil _ _ _ _), Lib.hid trivial, Lib.hid ⟨rfl, by simp⟩, Lib.hid (Below.refl _ _)⟩
  case round =>
    obtain ⟨k, m, A, c, vs, rs, hk, hk7, hmk, rfl, rfl, HO, HV, HRS, HBW⟩ := hrel
    by_cases hlt : k < n0 ∧ k < 7
    · have hkl : k < ls.length := by rw [HL.out]; exact hlt.1
      have HBX := Lib.hid (below_on HB1.out HBW.out)
      obtain ⟨b7, o7, A7, c7, hA7, hb7, hc7, hr7⟩ := (H0.out.below HBX.out).at_ hlt.1
      subst hA7
      have hl7 := (HLS.out _ (by rw [List.getD_eq_getElem?_getD, List.getElem?_eq_getElem hkl]; exact List.getElem_mem hkl : ls.getD k [] ∈ ls)).1
      obtain ⟨l, hl⟩ : ∃ l, l = ls.getD k [] := ⟨_, rfl⟩
      rw [← hl] at hc7 hr7 hl7
      have HEN := Lib.hid (encode_any A7 l.length c7 l A1 n1 c1 s bits wr w.heap.size hr7.2 (H1.out.below HBX.out) HBX.out.size (by omega) hn1)
      obtain ⟨L, hL⟩ : ∃ L, L = l.length := ⟨_, rfl⟩
      rw [← hL] at hc7 HEN
      have hki : (k : Int) < (n0 : Int) := by omega
      have hki7 : (k : Int) < 7 := by omega
      have hk77 := hlt.2
      have hk0 := hlt.1
      clear hl hr7 hL hl7 hkl hlt
      by_cases hE : Ph.encErr l s bits = 0
      · have hfz := Ph.frameErr_zero.1 (Ph.enc_right hE).1
        have hel := Ph.enc_length (l := l) (sizes := s) (bits := bits)
        rw [HL1.out] at hel
        have hb8 := Ph.bandErr_zero.1 hfz.1
        have hn8 : n1 ≤ 8 := by have := hb8.2.1; have := HL1.out; omega
        rw [hE, gotP_zero] at HEN
        obtain ⟨P, hP⟩ : ∃ P, P = Ph.encoded l s bits := ⟨_, rfl⟩
        have HPE : Hid (∀ p ∈ P, 0 ≤ p.gain ∧ p.gain ≤ 53) := Lib.hid fun p hp => Ph.gainOk_le (hfz.2.2.1 p (by rw [← hP]; exact hp)).1
        rw [← hP] at HEN hel
        have HPL := Lib.hid hel
        clear hE hfz hel hb8 hP
        go_wp2_with fail
        refine HEN.out.mono ?_
        rintro e w3 ⟨A3, n3, c3, rfl, ho, hb⟩
        have hn3 : n3 = n1 := by have := ho.len; have := HPL.out; omega
        subst hn3
        have HP3 := Lib.hid ho.rd
        have HO3 := Lib.hid (own_below' HO.out hb)
        have HV3 := Lib.hid (HV.out.below hb)
        have HB3 := Lib.hid (below_on HBW.out hb)
        rw [errV_zero]
        clear ho hb HO HV HBW HEN HBX hc7
        go_wp2_with fail
        rename World => wa
        go_loopw [12, 13] (fun sx i wr2 => ∃ (j : Nat) (A5 : Option Addr) (c5 : Nat), j ≤ n3 ∧ i = .int .i64 j ∧ sx = .slice A5 j c5 ∧ Hid (wr2.ownsRow wa.heap.size 3 1 (.slice A5 j c5) j (ivals ((halves P).take j))) ∧ Hid (Below wa.heap.size wa wr2)) (fun _ i _ => n3 - (intOf i).toNat)
        case atStart => exact ⟨0, none, 0, Nat.zero_le _, rfl, rfl, Lib.hid (own_nil _ _ _), Lib.hid (Below.refl _ _)⟩
        case round =>
          obtain ⟨j, A5, c5, hj, rfl, rfl, HK, HB5⟩ := hrel
          by_cases hlj : j < n3
          · obtain ⟨b8, o8, A8, c8, hA8, hb8, d1, d2, hcc, hrd⟩ := (HP3.out.below HB5.out).at_ hlj
            subst hA8
            have hpk := HPE.out _ (partD_mem (by rw [HPL.out]; exact hlj))
            have hht := halves_take P j (by rw [HPL.out]; exact hlj)
            obtain ⟨g, hg⟩ : ∃ g, g = (P.getD j ⟨0, []⟩).gain := ⟨_, rfl⟩
            rw [← hg] at d1 hpk hht
            obtain ⟨q, hq⟩ : ∃ q, q = (P.getD j ⟨0, []⟩).pulses.length := ⟨_, rfl⟩
            rw [← hq] at d2
            have k1 : g.tdiv 2 = g / 2 := Int.tdiv_eq_ediv_of_nonneg hpk.1
            have HHT := Lib.hid hht
            have hq2 : 0 ≤ g / 2 ∧ g / 2 ≤ 26 := by omega
            obtain ⟨X, hX⟩ : ∃ X, X = g / 2 := ⟨_, rfl⟩
            rw [← hX] at k1 HHT hq2
            have k2 : g / 2 = X := hX.symm
            clear hg hq hht hrd hcc hX d2
            go_wp2_with (at_builtin; refine wpList_push _ (by rfl) _ _ (by rfl) wa wa.heap.size A5 j c5 _ X HK.out HB5.out HB5.out.size (by omega) (by rfl) (by rfl) ?_; intro gg cap w7 ho7 hb7)
            have HO7 := Lib.hid ho7
            have HB7 := Lib.hid hb7
            clear ho7 hb7 d1
            go_wp2_with fail
            go_roundw
            case rel => exact ⟨j + 1, some ⟨gg, 0, none⟩, cap, by omega, by go_num, rfl, Lib.hid (by rw [HHT.out]; exact HO7.out), HB7⟩
            case measure => simp [intOf]; omega
          · obtain rfl : j = n3 := by omega
            have hk9 := HK.out
            rw [List.take_of_length_le (by rw [halves_len, HPL.out]; omega)] at hk9
            have hhl : (halves P).length = j := by rw [halves_len, HPL.out]
            have HO5 := Lib.hid (own_below' HO3.out HB5.out)
            have HV5 := Lib.hid (HV3.out.below HB5.out)
            have HB6 := Lib.hid (below_on HB3.out HB5.out)
            have HX5 : Hid (OwnV wr w1.heap.size (.slice A5 j c5) (halves P)) := Lib.hid ⟨A5, c5, by rw [hhl], by rw [hhl]; exact own_more hk9 HB3.out.size⟩
            have HHB : Hid (j ≤ 8 ∧ ∀ x ∈ halves P, 0 ≤ x ∧ x < 27) := Lib.hid ⟨hn8, fun x hx => by
              obtain ⟨p, hp, rfl⟩ := List.mem_map.1 hx
              have := HPE.out p hp
              omega⟩
            have HHL := Lib.hid hhl
            clear hk9 hhl HK HP3 HO3 HV3 HB3 HB5
            go_wp2_with (at_builtin; refine wpList_pushR _ (by rfl) _ _ (by rfl) w1 w1.heap.size A m c vs (.slice A5 j c5) HO5.out HB6.out HB6.out.size (by rfl) (by omega) (by rfl) (by rfl) ?_; intro gg cap w7 ho7 hb7 hg7)
            have HO7 := Lib.hid ho7
            have HB7 := Lib.hid hb7
            have HV7 : Hid (OwnsV w7 w1.heap.size (vs ++ [.slice A5 j c5]) (rs ++ [halves P])) := Lib.hid (((HV5.out.alloc _).grown (HO5.out.alloc _) hg7).snoc ((HX5.out.alloc _).grown (HO5.out.alloc _) hg7))
            clear ho7 hb7 hg7
            go_wp2_with fail
            go_roundw
            case rel =>
              refine ⟨k + 1, m + 1, some ⟨gg, 0, none⟩, cap, _, rs ++ [halves P], by omega, by omega, by omega, by go_num, rfl, HO7, HV7, Lib.hid ⟨by rw [List.length_append, HRS.out.1]; rfl, fun r hr => ?_⟩, HB7⟩
              rcases List.mem_append.1 hr with h | h
              · exact HRS.out.2 r h
              · obtain rfl : r = halves P := by simpa using h
                exact ⟨by rw [HHL.out]; exact HHB.out.1, HHB.out.2⟩
            case measure => simp [intOf]; omega
      · obtain ⟨E, hEE⟩ : ∃ E, E = Ph.encErr l s bits := ⟨_, rfl⟩
        rw [← hEE] at HEN hE
        rw [gotP_ne hE] at HEN
        clear hEE
        go_wp2_with fail
        refine HEN.out.mono ?_
        rintro e w3 ⟨A3, n3, c3, rfl, ho, hb⟩
        have HO3 := Lib.hid (own_below' HO.out hb)
        have HV3 := Lib.hid (HV.out.below hb)
        have HB3 := Lib.hid (below_on HBW.out hb)
        rw [errV_ne hE]
        clear ho hb HO HV HBW HEN HBX hc7
        go_wp2_with fail
        go_roundw
        case rel => exact ⟨k + 1, m, A, c, vs, rs, by omega, by omega, by omega, by go_num, rfl, HO3, HV3, HRS, HB3⟩
        case measure => simp [intOf]; omega
    · have HRD := Lib.hid (RdR.own HO.out HV.out.rows)
      have hre : rowsErr rs (27 : Nat) = 0 := rowsErr_zero.2 ⟨by omega, by omega, by have := HRS.out.1; omega, fun r hr => ⟨by have := (HRS.out.2 r hr).1; omega, (HRS.out.2 r hr).2⟩⟩
      have hlf := learnt_facts hre
      have hfl := flat_le (b := 8) (fun r hr => (HRS.out.2 r hr).1)
      rw [HRS.out.1] at hfl
      have hfb : rs.flatten.length ≤ 60 := by omega
      have hfm : ∀ x ∈ rs.flatten, 0 ≤ x ∧ x < ((27 : Nat) : Int) := fun x hx => by
        obtain ⟨r, hr, hx⟩ := List.mem_flatten.1 hx
        exact (HRS.out.2 r hr).2 x hx
      have he0 := hornErr_learnt hre hfm hfb
      have HSH := Lib.hid fun W hW => lsh_told A m c rs 27 W W.heap.size hW (Nat.le_refl _)
      have hre' : rowsErr rs 27 = 0 := hre
      rw [hre', show (27 : Int).toNat = 27 from rfl] at HSH
      obtain ⟨f, hf⟩ : ∃ f, f = Ph.scaled (Ph.cnts rs.flatten 27) := ⟨_, rfl⟩
      rw [← hf] at HSH hlf he0
      have HF := Lib.hid hlf
      have HE0 := Lib.hid he0
      have HFB := Lib.hid hfb
      have hcase : (¬ (k : Int) < (n0 : Int)) ∨ ((k : Int) < (n0 : Int) ∧ ¬ (k : Int) < 7) := by omega
      clear hre hre' hlf hfl hfm he0 hf hfb hlt
      rcases hcase with q1 | ⟨q1, q2⟩
      all_goals
        go_wp2_with fail
        refine (HSH.out _ HRD.out).mono ?_
        rintro e w3 ⟨A5, n5, c5, rfl, hn5, hr5, hb⟩
        rw [if_pos rfl] at hr5
        have hn27 : n5 = 27 := by rw [← hr5.len]; exact HF.out.1
        subst hn27
        have HR5 := Lib.hid hr5
        have HRD3 := Lib.hid (HRD.out.on hb)
        have HB3 := Lib.hid (below_on HB1.out (below_on HBW.out hb))
        rw [errV_zero]
        clear hb hr5 HRD HO HV HBW HSH
        go_wp2_with fail
        go_loopw [16, 17] (fun sa i wr2 => ∃ (j : Nat) (A6 : Option Addr) (c6 : Nat) (o : List Int), j ≤ m ∧ i = .int .i64 j ∧ sa = .slice A6 o.length c6 ∧ Hid (o = (rs.take j).flatten) ∧ o.length ≤ j * 8 ∧ Hid (wr2.ownsRow w3.heap.size 3 1 (.slice A6 o.length c6) o.length (ivals o)) ∧ Hid (Below w3.heap.size w3 wr2)) (fun _ i _ => m - (intOf i).toNat)
        case atStart => exact ⟨0, none, 0, [], Nat.zero_le _, rfl, rfl, Lib.hid rfl, by simp, Lib.hid (own_nil _ _ _), Lib.hid (Below.refl _ _)⟩
        case round =>
          obtain ⟨j, A6, c6, o, hj, rfl, rfl, HOO, hol, HK, HB5⟩ := hrel
          by_cases hlj : j < m
          · obtain ⟨b8, o8, A8, c8, hA8, hb8, d1, hnil, hr8⟩ := (HRD3.out.below HB5.out).at2 hlj
            subst hA8
            have hft := flat_take rs j (by rw [HRS.out.1]; exact hlj)
            have hl8 := (HRS.out.2 _ (by rw [List.getD_eq_getElem?_getD, List.getElem?_eq_getElem (by rw [HRS.out.1]; exact hlj)]; exact List.getElem_mem _ : rs.getD j [] ∈ rs)).1
            obtain ⟨l8, hl8e⟩ : ∃ q, q = rs.getD j [] := ⟨_, rfl⟩
            rw [← hl8e] at d1 hr8 hft hl8
            rw [← HOO.out] at hft
            have HFT := Lib.hid hft
            have HR8 := Lib.hid (hr8.more HB5.out.size)
            have HNIL := Lib.hid hnil
            obtain ⟨Q, hQ⟩ : ∃ q, q = l8.length := ⟨_, rfl⟩
            rw [← hQ] at d1 HR8 hl8
            have HQ := Lib.hid hQ
            clear hl8e hft hr8 hnil hQ
            go_wp2_with (at_builtin; refine wpList_join _ (by rfl) _ _ (by rfl) w3 w3.heap.size A6 o.length c6 o A8 Q c8 l8 wr.heap.size HK.out HB5.out HB5.out.size HR8.out HNIL.out (by omega) (by rfl) (by rfl) ?_; intro A9 c9 w9 ho9 hb9)
            have HO9 := Lib.hid ho9
            have HB9 := Lib.hid hb9
            clear ho9 hb9 d1
            go_wp2_with fail
            go_roundw
            case rel => exact ⟨j + 1, A9, c9, o ++ l8, by omega, by go_num, by rw [List.length_append, ← HQ.out], Lib.hid (by rw [HFT.out]), by rw [List.length_append, ← HQ.out]; omega, Lib.hid (by rw [List.length_append, ← HQ.out]; exact HO9.out), HB9⟩
            case measure => simp [intOf]; omega
          · obtain rfl : j = m := by omega
            have hoo : o = rs.flatten := by rw [HOO.out, List.take_of_length_le (by rw [HRS.out.1]; omega)]
            have he0 := HE0.out
            rw [← hoo] at he0
            have hz := hornErr_zero.1 he0
            have hes : encS f o = strB (Ph.bytes f o) := by unfold encS; rw [if_pos he0]
            have hbt := bytesOf_strB (Ph.bytes_lt hz.1 hz.2.2)
            have hde := decE_bytes he0
            have hble := (Ph.bytes_le hz.1 hz.2.1 hz.2.2).2
            have hco := own_cap HK.out
            have HR55 := Lib.hid (HR5.out.on HB5.out)
            have HB6 := Lib.hid (below_on HB3.out HB5.out)
            have HRO := Lib.hid (RdI.own HK.out)
            have HEN := Lib.hid (hencode_any A5 27 c5 f A6 o.length c6 o _ _ HR55.out HRO.out (Nat.le_refl _) (by omega) hco)
            have HMO := Lib.hid fun W hW1 hW2 => hmost_told A5 27 c5 f A6 o.length c6 o W W.heap.size hW1 hW2 (by omega)
            rw [he0, hes, errV_zero] at HEN
            rw [he0, if_pos rfl, errV_zero] at HMO
            have hsz : (strB (Ph.bytes f o)).size ≤ 4 + Ph.needs f o / 8 := by rw [strB_size]; exact hble
            obtain ⟨S, hS⟩ : ∃ S, S = strB (Ph.bytes f o) := ⟨_, rfl⟩
            rw [← hS] at HEN hbt hsz
            obtain ⟨D, hD⟩ : ∃ D : Int, D = 4 + ((Ph.needs f o : Nat) : Int) / 8 := ⟨_, rfl⟩
            rw [← hD] at HMO
            have hsd : ¬ D < (S.size : Int) := by rw [hD]; omega
            have HDC := Lib.hid fun W hW => hdecode_any A5 27 c5 f S (o.length : Int) W W.heap.size hW (Nat.le_refl _) (by omega)
            rw [hbt, hde.1, hde.2, errV_zero] at HDC
            obtain ⟨Q, hQ⟩ : ∃ q, q = o.length := ⟨_, rfl⟩
            rw [← hQ] at HEN HMO HDC HRO hol ⊢
            clear hoo he0 hz hes hbt hde hble hco hsz hS hD hQ HK HB5 HRD3 HR5 HB3
            go_wp2_with fail
            refine HEN.out.mono ?_
            rintro e w5 ⟨rfl, hb⟩
            have HR56 := Lib.hid (HR55.out.on hb)
            have HRO6 := Lib.hid (HRO.out.on hb)
            have HB7 := Lib.hid (below_on HB6.out hb)
            clear hb HR55 HRO HB6 HEN
            go_wp2_with fail
            refine (HMO.out _ HR56.out HRO6.out).mono ?_
            rintro e w6 ⟨rfl, rfl⟩
            go_wp2_with fail
            refine (HDC.out _ HR56.out).mono ?_
            rintro e w6 ⟨A9, n9, c9, rfl, hn9, _, hr, hb⟩
            have HR9 := Lib.hid hr
            have HRO7 := Lib.hid (HRO6.out.on hb)
            have HB8 := Lib.hid (below_on HB7.out hb)
            clear hb hr HR56 HRO6 HB7 HDC
            go_wp2_with fail
            refine (ints_any A9 A6 n9 c9 Q c6 _ _ _ _ _ HR9.out HRO7.out (Nat.le_refl _) (Nat.le_refl _) (by omega)).mono ?_
            rintro e w7 ⟨rfl, hb⟩
            have HB9 := Lib.hid (below_on HB8.out hb)
            rw [sameI_true.2 rfl]
            clear hb HR9 HRO7
            go_wp2_with fail
            go_ret
            exact ⟨ret_true (by simp), HB9.out⟩
end Go.Proofs.Ytapjnfhbjmeniaa
