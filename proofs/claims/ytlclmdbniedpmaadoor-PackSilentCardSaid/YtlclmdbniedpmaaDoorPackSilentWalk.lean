/- The walk of the law PackSilent. -/
import Derived.Test.YtlclmdbniedpmaaDoorTold
import Derived.Test.YtlclmdbniedpmaaDoorSilent
import Derived.Test.YtlclmdbniedpmaaDoorPack
import Derived.Test.YtlclmdbniedpmaaDoorPlay0
import Derived.Test.YtlclmdbniedpmaaDoorOpen
namespace Go.Proofs.YtlclmdbniedpmaaDoor
open Go.RowKit

theorem number_zeros (k : Nat) : Ph.number (List.replicate k 0) = 0 := by
  induction k with
  | zero => rfl
  | succ k ih =>
    have := Ph.number_pad [] (k + 1)
    rw [List.nil_append] at this
    rw [this]
    exact Nat.zero_mul _
theorem bitsW_zeros : ∀ k : Nat, Ph.bitsW k 0 = List.replicate k 0
  | 0 => rfl
  | k + 1 => by
    rw [List.replicate_succ, ← bitsW_zeros k]
    simp [Ph.bitsW]
theorem packed_zeros (k : Nat) : Ph.packed (List.replicate k 0) = List.replicate ((k + 7) / 8) 0 := by
  apply List.ext_getElem
  · rw [Ph.packed_length]; simp
  · intro i h1 h2
    rw [List.getElem_replicate]
    simp only [Ph.packed, List.getElem_map, List.getElem_range]
    have hc : ∃ j, Ph.chunk8 (List.replicate k 0) i = List.replicate j (0 : Int) := by
      unfold Ph.chunk8
      rw [List.drop_replicate, List.take_replicate]
      exact ⟨_, rfl⟩
    obtain ⟨j, hj⟩ := hc
    rw [hj]
    unfold Ph.pack1
    rw [number_zeros]
    simp
theorem silent_bits : ∀ {p : List Ph.Part}, (∀ x ∈ p, x.gain = 0 ∧ Ph.loud x.pulses = 0) → Ph.packBits p = List.replicate (6 * p.length) 0 := by
  intro p h
  rw [Ph.packBits_eq]
  have h1 : ∀ p : List Ph.Part, (∀ x ∈ p, x.gain = 0 ∧ Ph.loud x.pulses = 0) → Ph.gainBits p = List.replicate (6 * p.length) 0 ∧ Ph.rankBits p = [] := by
    intro p
    induction p with
    | nil => intro _; exact ⟨rfl, rfl⟩
    | cons x p ih =>
      intro h
      have hx := h x (by simp)
      obtain ⟨i1, i2⟩ := ih fun y hy => h y (by simp [hy])
      constructor
      · show Ph.bitsW 6 x.gain.toNat ++ Ph.gainBits p = _
        rw [i1, hx.1, show (0 : Int).toNat = 0 from rfl, bitsW_zeros, List.replicate_append_replicate, List.length_cons]
        congr 1; omega
      · show Ph.bitsW (Ph.wid x.pulses.length (Ph.loud x.pulses)).toNat (Ph.rank x.pulses) ++ Ph.rankBits p = _
        rw [i2, hx.2, Ph.wid_zero]
        rfl
  obtain ⟨a, b⟩ := h1 p h
  rw [a, b, List.append_nil]
set_option maxHeartbeats 1000000 in
theorem zeros_any (n : Nat) (w : World) (hn : n ≤ 1000) : Calls Tryd.prog 25 #[.int .i64 (n : Int)] w fun e w' => e = .returned (.string (strB (List.replicate n 0))) ∧ Below w.heap.size w w' := by
  go_enter Tryd.func25, Tryd.ntmps25
  go_wp2_with fail
  go_loopw [3, 4] (fun s i wr => ∃ k : Nat, k ≤ n ∧ i = .int .i64 k ∧ s = .string (strB (List.replicate k 0)) ∧ Hid (Below w.heap.size w wr)) (fun _ i _ => n - (intOf i).toNat)
  case atStart => exact ⟨0, Nat.zero_le _, rfl, rfl, Lib.hid (Below.refl _ _)⟩
  case round =>
    obtain ⟨k, hk, rfl, rfl, HBW⟩ := hrel
    by_cases hlt : k < n
    · have hs := strB_append (List.replicate k 0) [0]
      rw [← List.replicate_succ'] at hs
      have HS := Lib.hid hs
      have hz := strB_size (List.replicate k 0)
      rw [List.length_replicate] at hz
      obtain ⟨S, hS⟩ : ∃ S, S = strB (List.replicate k 0) := ⟨_, rfl⟩
      rw [← hS] at hz HS ⊢
      clear hs hS
      go_wp2_with fail
      go_roundw
      case rel => exact ⟨k + 1, by omega, by go_num, by rw [HS.out]; rfl, Lib.hid (by first | exact HBW.out | exact below_drewN' HBW.out _ | exact HBW.out.drew)⟩
      case measure => simp [intOf]; omega
    · obtain rfl : k = n := by omega
      go_wp2_with fail
      go_ret
      exact ⟨rfl, HBW.out⟩
theorem unp_none : unpE (bytesOf ByteArray.empty) [1] 0 = 2 := by decide +kernel
set_option maxHeartbeats 4000000 in
set_option maxRecDepth 1000000 in
theorem packSilent_walk (w : World) (A0 : Option Addr) (n0 c0 : Nat) (s : List Int) (h0 : RdI w w.heap.size A0 n0 s) (hb0 : n0 ≤ c0 ∧ c0 ≤ 17592186044415) (_ : ∀ x ∈ s, Is64 x) (bits : Int) (hg : Laid w) :
    Calls Tryd.prog 6 #[.slice A0 n0 c0, .int .i64 bits] w fun e w' => e = .returned (.bool true) ∧ Below w.heap.size w w' := by
  have HG := Lib.hid hg
  have hn0 : n0 ≤ 100000000000000 := by omega
  obtain ⟨V1, hV1⟩ : ∃ V1, V1 = w.alloc (.cells #[.int .i64 1] 3) := ⟨_, rfl⟩
  have HV1 := Lib.hid hV1
  have HBV : Hid (Below w.heap.size w V1) := Lib.hid (by rw [hV1]; exact below_alloc0 _ _)
  have hun := unpack_any ByteArray.empty (some ⟨w.heap.size, 0, none⟩) 1 1 [1] 0 V1 V1.heap.size (by rw [hV1]; exact RdI.lit' w [1] 3 #[.int .i64 1] rfl) (Nat.le_refl _) (by omega) (by decide)
  rw [unp_none] at hun
  have HUN := Lib.hid hun
  clear hun hV1
  by_cases hb : Ph.bandErr s = 0
  · have hb8 := Ph.bandErr_zero.1 hb
    have HBC := Lib.hid (bandCheck_ok A0 n0 c0 s w w.heap.size h0 hb)
    have H0 := Lib.hid h0
    have htp : 0 ≤ Ph.total s := Ph.total_nonneg fun x hx => by have := hb8.2.2.1 x hx; omega
    have htl : Ph.total s ≤ 32 := hb8.2.2.2
    obtain ⟨T, hT⟩ := Int.eq_ofNat_of_zero_le htp
    rw [hT] at HBC htl
    have hT32 : T ≤ 32 := by omega
    have hT0 : (0 : Int) ≤ (T : Int) := by omega
    have k1 : (T : Int).tmod 2 = (T : Int) % 2 := Int.tmod_eq_emod_of_nonneg hT0
    by_cases hgood : (T : Int) % 2 = 0 ∧ 0 ≤ bits ∧ bits ≤ 400
    · have hE0 : Ph.encErr (List.replicate T 0) s bits = 0 := by
        by_cases h : Ph.encErr (List.replicate T 0) s bits = 0
        · exact h
        · have := silent_err hb hT h; omega
      have HMK := make_ints T (by omega)
      have HHP := Lib.hid (silent_parts (s := s) (bits := bits) (T := T) hE0)
      obtain ⟨W1, hW1⟩ : ∃ W1, W1 = w.alloc (.cells (madeCells #[.int .i64 0] T) 3) := ⟨_, rfl⟩
      have HB1 : Hid (Below w.heap.size w W1) := Lib.hid (by rw [hW1]; exact below_alloc0 _ _)
      have HZ1 : Hid (RdI W1 W1.heap.size (some ⟨w.heap.size, 0, none⟩) T (List.replicate T 0)) := Lib.hid (by rw [hW1]; exact RdI.own (made_own w T (by omega)))
      have hen := encode_any (some ⟨w.heap.size, 0, none⟩) T T (List.replicate T 0) A0 n0 c0 s bits W1 W1.heap.size HZ1.out (H0.out.on HB1.out) (Nat.le_refl _) (by omega) hn0
      rw [hE0, gotP_zero] at hen
      have HEN := Lib.hid hen
      have HW1 := Lib.hid hW1
      have hn8 : n0 ≤ 8 := by have := hb8.2.1; have := h0.len; omega
      have hel := Ph.enc_length (l := List.replicate T 0) (sizes := s) (bits := bits)
      rw [h0.len] at hel
      have hfr := (Ph.enc_right hE0).1
      obtain ⟨P, hP⟩ : ∃ P, P = Ph.encoded (List.replicate T 0) s bits := ⟨_, rfl⟩
      rw [← hP] at HEN HHP hel hfr
      have hsb := silent_bits (p := P) fun x hx => ⟨(HHP.out x hx).1, (HHP.out x hx).2.2⟩
      rw [hel] at hsb
      have hpe : Ph.packErr P s bits = 0 := by
        unfold Ph.packErr
        rw [if_neg (by omega), hsb, List.length_replicate, if_neg (by omega)]
      have hps : packS P s bits = strB (List.replicate ((6 * n0 + 7) / 8) 0) := by rw [packS_zero hpe, hsb, packed_zeros]
      have HPK := Lib.hid fun A c W (hW1 : RdP W W.heap.size A n0 P) hW2 => pack_any A n0 c P A0 n0 c0 s bits W W.heap.size hW1 hW2 (Nat.le_refl _) hn0 hn0 (fun p hp => by have := (Ph.pulsesErr_zero.1 (HHP.out p hp).2.1).1; omega)
      rw [hpe, hps, errV_zero] at HPK
      have HPL := Lib.hid hel
      obtain ⟨Z, hZ⟩ : ∃ Z, Z = (6 * n0 + 7) / 8 := ⟨_, rfl⟩
      rw [← hZ] at HPK
      have HZE := Lib.hid fun W => zeros_any Z W (by omega)
      obtain ⟨S, hS⟩ : ∃ S, S = strB (List.replicate Z 0) := ⟨_, rfl⟩
      rw [← hS] at HPK HZE
      have q1 : ((T : Int) % 2 != 0) = false := by simp [hgood.1]
      have k2 : IntKind.i64.wrap (6 * (n0 : Int)) = 6 * (n0 : Int) := IntWalk.i64_in _ (by omega)
      have k3 : IntKind.i64.wrap (6 * (n0 : Int) + 7) = 6 * (n0 : Int) + 7 := IntWalk.i64_in _ (by omega)
      have k4 : (6 * (n0 : Int) + 7).tdiv 8 = (Z : Int) := by rw [Int.tdiv_eq_ediv_of_nonneg (by omega), hZ]; rfl
      have k5 : IntKind.i64.wrap (Z : Int) = (Z : Int) := IntWalk.i64_in _ (by omega)
      have q2 : ¬ bits < 0 := by omega
      have q3 : ¬ 400 < bits := by omega
      have hse := str_eq (rfl : S = S)
      clear h0 hb hb8 htp hT htl hP hW1 hg hen hE0 hpe hps hsb hfr hel hgood hZ hS hT0 HUN HV1 HBV
      go_enter Tryd.func6, Tryd.ntmps6
      go_wp2_with fail
      refine HBC.out.mono ?_
      rintro e w' ⟨rfl, rfl⟩
      go_wp2_with fail
      rw [← HW1.out]
      refine HEN.out.mono ?_
      rintro e w3 ⟨A3, n3, c3, rfl, ho, hb⟩
      have hn3 : n3 = n0 := by have := ho.len; have := HPL.out; omega
      subst hn3
      have HP3 := Lib.hid ho.rd
      have HB3 := Lib.hid (below_on HB1.out hb)
      rw [errV_zero]
      clear ho hb HEN HW1
      go_wp2_with fail
      refine (HPK.out _ _ _ HP3.out (H0.out.on HB3.out)).mono ?_
      rintro e w4 ⟨rfl, hb⟩
      have HB4 := Lib.hid (below_on HB3.out hb)
      clear hb HPK HP3
      go_wp2_with fail
      refine (HZE.out _).mono ?_
      rintro e w5 ⟨rfl, hb⟩
      have HB5 := Lib.hid (below_on HB4.out hb)
      clear hb HZE
      go_wp2_with fail
      go_ret
      exact ⟨ret_true (by simp), HB5.out⟩
    · have hcs : ((T : Int) % 2 != 0) = true ∨ (((T : Int) % 2 != 0) = false ∧ bits < 0) ∨ (((T : Int) % 2 != 0) = false ∧ ¬ bits < 0 ∧ 400 < bits) := by
        by_cases h2 : (T : Int) % 2 = 0
        · right
          have e : ((T : Int) % 2 != 0) = false := by simp [h2]
          by_cases h3 : bits < 0
          · exact .inl ⟨e, h3⟩
          · exact .inr ⟨e, h3, by omega⟩
        · left; simp [h2]
      have hcs2 : (bits < 0) ∨ (¬ bits < 0 ∧ 400 < bits) ∨ (¬ bits < 0 ∧ ¬ 400 < bits ∧ ((T : Int) % 2 != 0) = true) := by
        by_cases a1 : bits < 0
        · exact .inl a1
        · by_cases a2 : 400 < bits
          · exact .inr (.inl ⟨a1, a2⟩)
          · refine .inr (.inr ⟨a1, a2, ?_⟩)
            rcases hcs with q | q | q
            · exact q
            · exact absurd q.2 a1
            · exact absurd q.2.2 a2
      clear h0 hb hb8 htp hT htl hgood hg hT0 hcs
      rcases hcs2 with q1 | ⟨q1, q2⟩ | ⟨q1, q2, q3⟩
      all_goals
        go_enter Tryd.func6, Tryd.ntmps6
        go_wp2_with fail
        refine HBC.out.mono ?_
        rintro e w' ⟨rfl, rfl⟩
        go_wp2_with fail
        rw [← HV1.out]
        refine HUN.out.mono ?_
        rintro e w3 ⟨A3, n3, c3, rfl, ho, hb⟩
        have HB3 := Lib.hid (below_on HBV.out hb)
        clear ho hb
        go_wp2_with fail
        refine (herr_yes 2 _ (HG.out.below HB3.out) (by omega)).mono ?_
        rintro e w4 ⟨rfl, hb⟩
        have HB4 := Lib.hid (below_on HB3.out hb)
        clear hb
        go_wp2_with fail
        go_ret
        exact ⟨rfl, HB4.out⟩
  · have HBC := Lib.hid (bandCheck_no A0 n0 c0 s w w.heap.size h0 hn0 hb)
    rw [errV_ne hb] at HBC
    obtain ⟨E, hE⟩ : ∃ E, E = Ph.bandErr s := ⟨_, rfl⟩
    rw [← hE] at HBC
    clear h0 hb hE hg
    go_enter Tryd.func6, Tryd.ntmps6
    go_wp2_with fail
    refine HBC.out.mono ?_
    rintro e w' ⟨rfl, rfl⟩
    go_wp2_with fail
    rw [← HV1.out]
    refine HUN.out.mono ?_
    rintro e w3 ⟨A3, n3, c3, rfl, ho, hb⟩
    have HB3 := Lib.hid (below_on HBV.out hb)
    clear ho hb
    go_wp2_with fail
    refine (herr_yes 2 _ (HG.out.below HB3.out) (by omega)).mono ?_
    rintro e w4 ⟨rfl, hb⟩
    have HB4 := Lib.hid (below_on HB3.out hb)
    clear hb
    go_wp2_with fail
    go_ret
    exact ⟨rfl, HB4.out⟩
end Go.Proofs.YtlclmdbniedpmaaDoor
