/- The walk of the law PackBack. -/
import Derived.Test.YtlclmdbniedpmaaDoorTold
import Derived.Test.YtlclmdbniedpmaaDoorPack
import Derived.Test.YtlclmdbniedpmaaDoorPlay0
import Derived.Test.YtlclmdbniedpmaaDoorSameP
import Derived.Test.YtlclmdbniedpmaaDoorErrQ
import Derived.Test.YtlclmdbniedpmaaDoorOpen
import Derived.Deep.DeepCutAuto
import Derived.Deep.CutBlock
import Derived.Deep.Cut
namespace Go.Proofs.YtlclmdbniedpmaaDoor
open Go.RowKit

theorem fact_packErr : Ph.packErr [⟨0, [0]⟩] [1] 0 = 0 := by decide +kernel
theorem fact_packS : packS [⟨0, [0]⟩] [1] 0 = ⟨#[0]⟩ := by decide +kernel
theorem unp_pack {b : List Nat} {s : List Int} {bits : Int} (hlt : ∀ x ∈ b, x < 256) (h : unpE b s bits = 0) : Ph.packErr (unpL b s bits) s bits = 0 ∧ Ph.packed (Ph.packBits (unpL b s bits)) = b := by
  have hz := unpE_zero h
  have hb := Ph.unpack_back hz.1 hz.2.1.1 hz.2.1.2 hlt hz.2.2.2
  refine ⟨?_, hb.2.1⟩
  unfold Ph.packErr
  rw [if_neg (by omega), if_neg (by omega)]
theorem packed_lt (l : List Int) (h : Ph.isBits l) : ∀ x ∈ Ph.packed l, x < 256 := by
  intro x hx
  simp only [Ph.packed, List.mem_map] at hx
  obtain ⟨i, _, rfl⟩ := hx
  have hc : Ph.isBits (Ph.chunk8 l i) := fun b hb => h b (List.mem_of_mem_drop (List.mem_of_mem_take hb))
  have hl : (Ph.chunk8 l i).length ≤ 8 := by unfold Ph.chunk8; rw [List.length_take]; omega
  have h1 := Ph.number_lt hc
  unfold Ph.pack1
  have h2 := Nat.mul_lt_mul_of_pos_right h1 (Nat.two_pow_pos (8 - (Ph.chunk8 l i).length))
  rw [← Nat.pow_add, show (Ph.chunk8 l i).length + (8 - (Ph.chunk8 l i).length) = 8 by omega] at h2
  exact h2
/-- A frame that was packed is read as it was; cut off it is none; and it is never longer than told. -/
theorem pack_unp {p : List Ph.Part} {s : List Int} {bits : Int} (h : Ph.packErr p s bits = 0) : unpE (bytesOf (packS p s bits)) s bits = 0 ∧ unpL (bytesOf (packS p s bits)) s bits = p := by
  have hf : Ph.frameErr p s bits = 0 := by unfold Ph.packErr at h; split at h <;> omega
  have hl : (Ph.packBits p).length ≤ 400 := by
    unfold Ph.packErr at h
    rw [if_neg (by omega)] at h
    split at h <;> omega
  have hz := Ph.frameErr_zero.1 hf
  have hu := Ph.unpack_packed hf
  have hbs : bytesOf (packS p s bits) = Ph.packed (Ph.packBits p) := by rw [packS_zero h]; exact bytesOf_strB (packed_lt _ (Ph.packBits_bits p))
  have hlen : (Ph.packed (Ph.packBits p)).length ≤ 50 := by rw [Ph.packed_length]; omega
  have e : unpE (Ph.packed (Ph.packBits p)) s bits = 0 := by
    unfold unpE
    rw [if_neg (by have := hz.1; omega), if_neg (by have := hz.2.2.2; omega), if_neg (by omega), hu]
    rfl
  rw [hbs]
  refine ⟨e, ?_⟩
  unfold unpL
  rw [if_pos e, hu]; rfl
theorem pack_cut {p : List Ph.Part} {s : List Int} {bits : Int} (h : Ph.packErr p s bits = 0) {c : Nat} (hc : c < (packS p s bits).size) : unpE ((bytesOf (packS p s bits)).take c) s bits = 2 := by
  have hf : Ph.frameErr p s bits = 0 := by unfold Ph.packErr at h; split at h <;> omega
  have hl : (Ph.packBits p).length ≤ 400 := by
    unfold Ph.packErr at h
    rw [if_neg (by omega)] at h
    split at h <;> omega
  have hz := Ph.frameErr_zero.1 hf
  have hbs : bytesOf (packS p s bits) = Ph.packed (Ph.packBits p) := by rw [packS_zero h]; exact bytesOf_strB (packed_lt _ (Ph.packBits_bits p))
  have hc2 : c < (Ph.packed (Ph.packBits p)).length := by rw [← hbs, bytesOf_length]; exact hc
  have hu := Ph.unpack_cut hf hc2
  have hlen : (Ph.packed (Ph.packBits p)).length ≤ 50 := by rw [Ph.packed_length]; omega
  rw [hbs]
  unfold unpE
  rw [if_neg (by have := hz.1; omega), if_neg (by have := hz.2.2.2; omega), if_neg (by rw [List.length_take]; omega), hu]
  rfl
theorem bytesOf_extract (s : ByteArray) (k : Nat) : bytesOf (s.extract 0 k) = (bytesOf s).take k := by
  unfold bytesOf
  rw [ByteArray.data_extract, Array.toList_extract, List.map_take]
  simp
theorem pack_size {p : List Ph.Part} {s : List Int} {bits : Int} (h : Ph.packErr p s bits = 0) : (packS p s bits).size ≤ 140737488351232 := by
  have hl : (Ph.packBits p).length ≤ 400 := by
    unfold Ph.packErr at h
    split at h
    · omega
    · split at h <;> omega
  rw [packS_zero h, strB_size, Ph.packed_length]; omega
theorem pack_long {p : List Ph.Part} {s : List Int} {bits : Int} (h : Ph.packErr p s bits = 0) (hl : longErr s bits = 0) : ((packS p s bits).size : Int) ≤ longN s bits := by
  have hf : Ph.frameErr p s bits = 0 := by unfold Ph.packErr at h; split at h <;> omega
  have h1 := Ph.packBits_le hf
  unfold longN
  rw [if_pos hl, packS_zero h, strB_size, Ph.packed_length]
  omega
theorem made_pack {p : List Ph.Part} {s : List Int} {bits : Int} (h : Ph.frameErr p s bits = 0) : (Ph.packErr p s bits = 0 ∨ Ph.packErr p s bits = 4) ∧ (longErr s bits = 0 → Ph.packErr p s bits = 0) := by
  have h1 := Ph.packBits_le h
  have hz := Ph.frameErr_zero.1 h
  have e1 : Ph.packErr p s bits = if 400 < (Ph.packBits p).length then 4 else 0 := by unfold Ph.packErr; rw [if_neg (by omega)]
  have e2 : longErr s bits = if 400 < 6 * (s.length : Int) + bits then 4 else 0 := by unfold longErr; rw [if_neg (by have := hz.1; omega), if_neg (by have := hz.2.2.2; omega)]
  rw [e1, e2]
  refine ⟨by split <;> omega, fun h2 => ?_⟩
  split at h2
  · omega
  · rw [if_neg (by omega)]
theorem Rd.litV (w : World) (t : TypeId) (cs : Array Value) : Rd (w.alloc (.cells cs t)) (w.heap.size + 1) (some ⟨w.heap.size, 0, none⟩) cs.size cs.toList := by
  refine ⟨by simp, fun _ => ⟨w.heap.size, 0, rfl, by omega, fun j _ => ?_⟩⟩
  rw [Nat.zero_add, cell_of_row _ w.heap.size j cs t (0, 0) (heap_alloc_new w _)]
  simp
theorem RdP.lit1 (w : World) (A : Option Addr) (c : Nat) (g : Int) (v : List Int) (h : RdI w w.heap.size A v.length v) (hc : v.length ≤ c ∧ (A = none → c = 0)) :
    RdP (w.alloc (.cells #[.int .i64 g, .slice A v.length c] 52)) (w.heap.size + 1) (some ⟨w.heap.size, 0, none⟩) 1 [⟨g, v⟩] :=
  ⟨rfl, [.slice A v.length c], Rd.litV w _ #[.int .i64 g, .slice A v.length c], ⟨⟨A, c, rfl, hc, (h.onAlloc _).more (by simp)⟩, trivial⟩⟩
set_option maxHeartbeats 8000000 in
set_option maxRecDepth 1000000 in
theorem packBack_walk (w : World) (A0 : Option Addr) (n0 c0 : Nat) (l : List Int) (h0 : RdI w w.heap.size A0 n0 l) (hb0 : n0 ≤ c0 ∧ c0 ≤ 17592186044415) (_ : ∀ x ∈ l, Is64 x) (A1 : Option Addr) (n1 c1 : Nat) (ps : List Ph.Part) (h1 : RdP w w.heap.size A1 n1 ps) (hb1 : n1 ≤ c1 ∧ c1 ≤ 17592186044415) (hm1 : ∀ q ∈ ps, q.pulses.length ≤ 17592186044415 ∧ Is64 q.gain ∧ ∀ x ∈ q.pulses, Is64 x) (A2 : Option Addr) (n2 c2 : Nat) (s : List Int) (h2 : RdI w w.heap.size A2 n2 s) (hb2 : n2 ≤ c2 ∧ c2 ≤ 17592186044415) (_ : ∀ x ∈ s, Is64 x) (bits : Int) (b : ByteArray) (hsb : b.size ≤ 140737488351232) (cut : Int) (hg : Laid w) :
    Calls Tryd.prog 5 #[.slice A0 n0 c0, .slice A1 n1 c1, .slice A2 n2 c2, .int .i64 bits, .string b, .int .i64 cut] w fun e w' => e = .returned (.bool true) ∧ Below w.heap.size w w' := by
  have HG := Lib.hid hg
  have H0 := Lib.hid h0
  have H1 := Lib.hid h1
  have H2 := Lib.hid h2
  have hn0 : n0 ≤ 100000000000000 := by omega
  have hn1 : n1 ≤ 100000000000000 := by omega
  have hn2 : n2 ≤ 100000000000000 := by omega
  have HP6 : Hid (∀ p ∈ ps, p.pulses.length ≤ 100000000000000) := Lib.hid fun p hp => by have := (hm1 p hp).1; omega
  -- the fact
  obtain ⟨W1, hW1⟩ : ∃ W1, W1 = w.alloc (.cells #[.int .i64 0] 3) := ⟨_, rfl⟩
  obtain ⟨W2, hW2⟩ : ∃ W2, W2 = W1.alloc (.cells #[.int .i64 0, .slice (some ⟨w.heap.size, 0, none⟩) 1 1] 52) := ⟨_, rfl⟩
  obtain ⟨W3, hW3⟩ : ∃ W3, W3 = W2.alloc (.cells #[.int .i64 1] 3) := ⟨_, rfl⟩
  have hs1 : W1.heap.size = w.heap.size + 1 := by rw [hW1]; simp
  have hs2 : W2.heap.size = w.heap.size + 2 := by rw [hW2]; simp [hs1]
  have hr1 : RdI W1 W1.heap.size (some ⟨w.heap.size, 0, none⟩) 1 [0] := by rw [hW1]; exact RdI.lit' w [0] 3 #[.int .i64 0] rfl
  have hr2 : RdP W2 W2.heap.size (some ⟨w.heap.size + 1, 0, none⟩) 1 [⟨0, [0]⟩] := by
    rw [hs2, hW2, ← hs1]
    exact (RdP.lit1 W1 (some ⟨w.heap.size, 0, none⟩) 1 0 [0] hr1 ⟨by simp, fun h => by cases h⟩).more (by omega)
  have HB3 : Hid (Below w.heap.size w W3) := Lib.hid (by rw [hW3, hW2, hW1]; exact below_onAlloc (below_onAlloc (below_alloc0 _ _) _) _)
  have hr3 : RdI W3 W3.heap.size (some ⟨w.heap.size + 2, 0, none⟩) 1 [1] := by rw [hW3, ← hs2]; exact RdI.lit' W2 [1] 3 #[.int .i64 1] rfl
  have hr4 : RdP W3 W3.heap.size (some ⟨w.heap.size + 1, 0, none⟩) 1 [⟨0, [0]⟩] := by rw [hW3]; exact hr2.on (below_alloc0 _ _)
  have hpk := pack_any (some ⟨w.heap.size + 1, 0, none⟩) 1 1 [⟨0, [0]⟩] (some ⟨w.heap.size + 2, 0, none⟩) 1 1 [1] 0 W3 W3.heap.size hr4 hr3 (Nat.le_refl _) (by omega) (by omega) (by intro p hp; simp at hp; subst hp; simp)
  rw [fact_packErr, fact_packS, errV_zero] at hpk
  have HPK := Lib.hid hpk
  have HWW := Lib.hid (hW3.trans (by rw [hW2, hW1]))
  -- contracts
  have HUN := Lib.hid fun (x : ByteArray) (hx : x.size ≤ 140737488351232) W (hW : RdI W w.heap.size A2 n2 s) (hB : w.heap.size ≤ W.heap.size) => unpack_any x A2 n2 c2 s bits W w.heap.size hW hB hn2 hx
  have HPA := Lib.hid fun A n c L W (hW1 : RdP W W.heap.size A n L) (hW2 : RdI W w.heap.size A2 n2 s) (hB : w.heap.size ≤ W.heap.size) (hn : n ≤ 100000000000000) hp => pack_any A n c L A2 n2 c2 s bits W W.heap.size hW1 (hW2.more hB) (Nat.le_refl _) hn hn2 hp
  have HFC := Lib.hid fun A n c L W (hW1 : RdP W W.heap.size A n L) (hW2 : RdI W w.heap.size A2 n2 s) (hB : w.heap.size ≤ W.heap.size) (hn : n ≤ 100000000000000) hp => frcheck_any A n c L A2 n2 c2 s bits W W.heap.size hW1 (hW2.more hB) (Nat.le_refl _) hn hn2 hp
  have HLO := Lib.hid fun W (hW : RdI W w.heap.size A2 n2 s) => long_any A2 n2 c2 s bits W w.heap.size hW hn2
  have HEN := Lib.hid fun W (hW1 : RdI W w.heap.size A0 n0 l) (hW2 : RdI W w.heap.size A2 n2 s) (hB : w.heap.size ≤ W.heap.size) => encode_any A0 n0 c0 l A2 n2 c2 s bits W w.heap.size hW1 hW2 hB hn0 hn2
  -- plain facts
  have F1 := Lib.hid fun h => unp_pack (b := bytesOf b) (s := s) (bits := bits) (bytesOf_lt b) h
  have F1s := Lib.hid fun h => unpL_small (b := bytesOf b) (s := s) (bits := bits) (bytesOf_lt b) h
  have F2 := Lib.hid fun p h => made_pack (p := p) (s := s) (bits := bits) h
  have F2e := Lib.hid fun h => (Ph.enc_right (l := l) (sizes := s) (bits := bits) h).1
  have F3 := Lib.hid fun p h hl => pack_long (p := p) (s := s) (bits := bits) h hl
  have F4 := Lib.hid fun h => pack_unp (p := ps) (s := s) (bits := bits) h
  have F5 := Lib.hid fun h c hc => pack_cut (p := ps) (s := s) (bits := bits) h (c := c) hc
  have F6 : Hid (∀ L, Ph.frameErr L s bits = 0 → L.length ≤ 100000000000000 ∧ ∀ p ∈ L, p.pulses.length ≤ 100000000000000) := Lib.hid fun L h => by
    have hz := Ph.frameErr_zero.1 h
    have h8 := (Ph.bandErr_zero.1 hz.1).2.1
    have := congrArg List.length hz.2.1
    rw [List.length_map] at this
    exact ⟨by omega, fun p hp => by have := (Ph.pulsesErr_zero.1 (hz.2.2.1 p hp).2).1; omega⟩
  have hlb : -1000 ≤ longN s bits := by
    unfold longN
    split
    · rename_i hz
      unfold longErr at hz
      split at hz
      · omega
      · split at hz <;> omega
    · omega
  clear h0 h1 h2 hb0 hb1 hb2 hm1 hg hpk hW1 hW2 hW3 hs1 hs2 hr1 hr2 hr3 hr4 hn0
  obtain ⟨F, hF⟩ : ∃ F, F = longErr s bits := ⟨_, rfl⟩
  obtain ⟨N, hN⟩ : ∃ N, N = longN s bits := ⟨_, rfl⟩
  obtain ⟨E1, hE1⟩ : ∃ E, E = unpE (bytesOf b) s bits := ⟨_, rfl⟩
  obtain ⟨U, hU⟩ : ∃ E, E = unpL (bytesOf b) s bits := ⟨_, rfl⟩
  obtain ⟨E2, hE2⟩ : ∃ E, E = Ph.encErr l s bits := ⟨_, rfl⟩
  rw [← hF, ← hN] at HLO
  rw [← hF] at F2
  rw [← hF, ← hN] at F3
  rw [← hN] at hlb
  have HU1 := Lib.hid (HUN.out b hsb)
  rw [← hE1, ← hU] at HU1
  rw [← hE1, ← hU] at F1
  rw [← hE1, ← hU] at F1s
  rw [← hE2] at HEN F2e
  clear hF hN hE1 hU hE2
  go_enter Tryd.func5, Tryd.ntmps5
  go_wp2_with fail
  rw [← HWW.out]
  refine HPK.out.mono ?_
  rintro e w4 ⟨rfl, hb⟩
  have HB4 := Lib.hid (below_on HB3.out hb)
  clear hb HPK HB3 HWW
  go_wp2_with fail
  refine (HU1.out _ (H2.out.below HB4.out) HB4.out.size).mono ?_
  rintro e w5 ⟨A5, n5, c5, rfl, ho, hb⟩
  have HP5 := Lib.hid ho.rd
  have HB5 := Lib.hid (below_on HB4.out hb)
  have hq1 := errV_eql E1
  have hg1 := errV_geql E1
  clear ho hb HB4 HU1
  go_upto_if 48 with (fail)
  go_cut [15, 16, 17, 18] (fun _ _ _ _ wx => Hid (Below w.heap.size w wx))
  case first =>
    by_cases hE : E1 = 0
    · have hEb : (E1 == 0) = true := by simp [hE]
      obtain ⟨f1, f2⟩ := F1.out hE
      have f3 := (F1s.out hE).1
      obtain ⟨f4, f5⟩ := F6.out U f3
      have f6 : packS U s bits = b := by rw [packS_zero f1, f2, strB_bytesOf]
      have hn5 : n5 ≤ 100000000000000 := by have := HP5.out.len; omega
      have hpa := HPA.out A5 n5 c5 U w5 HP5.out (H2.out.below HB5.out) HB5.out.size hn5 f5
      rw [f1, f6, errV_zero] at hpa
      have HPX := Lib.hid hpa
      have HFX := Lib.hid fun W (hb : Below w5.heap.size w5 W) => HFC.out A5 n5 c5 U W (HP5.out.on hb) (H2.out.below (below_on HB5.out hb)) (below_on HB5.out hb).size hn5 f5
      rw [f3, errV_zero] at HFX
      have hsx := str_eq (rfl : b = b)
      clear hE f1 f2 f3 f4 f5 f6 hpa
      go_wp2_with fail
      refine HPX.out.mono ?_
      rintro e w6 ⟨rfl, hb⟩
      have HB6 := Lib.hid (below_on HB5.out hb)
      have HBE := Lib.hid hb
      clear hb HPX
      go_wp2_with fail
      refine (HFX.out _ HBE.out).mono ?_
      rintro e w7 ⟨rfl, hb⟩
      have HB7 := Lib.hid (below_on HB6.out hb)
      clear hb HFX
      go_wp2_with fail
      go_meet
      case rel => exact HB7
    · have hEb : (E1 == 0) = false := by simp [hE]
      clear hE
      go_wp2_with fail
      go_meet
      case rel => exact HB5
  case rest =>
    have HC1 := hcut
    rename World => wx
    clear hq1 hg1 HB5 HP5 F1 F1s
    go_wp2_with fail
    refine (HLO.out _ (H2.out.below HC1.out)).mono ?_
    rintro e w' ⟨rfl, rfl⟩
    go_wp2_with fail
    refine (HEN.out _ (H0.out.below HC1.out) (H2.out.below HC1.out) HC1.out.size).mono ?_
    rintro e w5 ⟨A5, n5, c5, rfl, ho, hb⟩
    have HP5 := Lib.hid ho.rd
    have HB5 := Lib.hid (below_on HC1.out hb)
    have hq1 := errV_eql E2
    have hg1 := errV_geql E2
    clear ho hb HC1 HEN
    go_upto_if 84 with (fail)
    go_cut [16, 21, 22, 23] (fun _ _ _ _ wx => Hid (Below w.heap.size w wx))
    case first =>
      by_cases hE : E2 = 0
      · have hEb : (E2 == 0) = true := by simp [hE]
        have f3 := F2e.out hE
        have hp5 := HP5.out
        rw [hE, gotP_zero] at hp5
        obtain ⟨f4, f5⟩ := F2.out _ f3
        have f6 := F3.out (Ph.encoded l s bits)
        obtain ⟨f7, f8⟩ := F6.out _ f3
        have hn5 : n5 ≤ 100000000000000 := by have := hp5.len; omega
        have HPX := Lib.hid (HPA.out A5 n5 c5 _ w5 hp5 (H2.out.below HB5.out) HB5.out.size hn5 f8)
        obtain ⟨E3, hE3⟩ : ∃ E, E = Ph.packErr (Ph.encoded l s bits) s bits := ⟨_, rfl⟩
        obtain ⟨S3, hS3⟩ : ∃ E, E = packS (Ph.encoded l s bits) s bits := ⟨_, rfl⟩
        rw [← hE3] at HPX f4 f5 f6
        rw [← hS3] at HPX f6
        have hqF := errV_eql F
        have hgF := errV_geql F
        clear hE hE3 hS3 f3 hp5 f7 f8
        rcases f4 with h3 | h3
        · subst h3
          have hle := f6 rfl
          rw [errV_zero] at HPX
          by_cases hF : F = 0
          · have hFb : (F == 0) = true := by simp [hF]
            have hle' : ¬ N < (S3.size : Int) := by have := hle hF; omega
            clear hle f5 f6 hF
            go_wp2_with fail
            refine HPX.out.mono ?_
            rintro e w6 ⟨rfl, hb⟩
            have HB6 := Lib.hid (below_on HB5.out hb)
            clear hb HPX
            go_wp2_with fail
            go_meet
            case rel => exact HB6
          · have hFb : (F == 0) = false := by simp [hF]
            clear hle f5 f6 hF
            go_wp2_with fail
            refine HPX.out.mono ?_
            rintro e w6 ⟨rfl, hb⟩
            have HB6 := Lib.hid (below_on HB5.out hb)
            clear hb HPX
            go_wp2_with fail
            go_meet
            case rel => exact HB6
        · have hF : ¬ F = 0 := fun h => by have := f5 h; omega
          subst h3
          rw [errV_ne (by omega : (4 : Int) ≠ 0)] at HPX
          have hFb : (F == 0) = false := by simp [hF]
          have HE4 := Lib.hid fun W hW => herr_yes 4 W hW (by omega)
          rw [errV_ne (by omega : (4 : Int) ≠ 0)] at HE4
          clear f5 f6 hF
          go_wp2_with fail
          refine HPX.out.mono ?_
          rintro e w6 ⟨rfl, hb⟩
          have HB6 := Lib.hid (below_on HB5.out hb)
          clear hb HPX
          go_wp2_with fail
          refine (HE4.out _ (HG.out.below HB6.out)).mono ?_
          rintro e w7 ⟨rfl, hb⟩
          have HB7 := Lib.hid (below_on HB6.out hb)
          clear hb HE4
          go_wp2_with fail
          go_meet
          case rel => exact HB7
      · have hEb : (E2 == 0) = false := by simp [hE]
        clear hE
        go_wp2_with fail
        go_meet
        case rel => exact HB5
    case rest =>
      have HC2 := hcut
      rename World => wy
      clear hq1 hg1 HB5 HP5 F2 F2e
      have hqF := errV_eql F
      have hgF := errV_geql F
      have HPX := Lib.hid (HPA.out A1 n1 c1 ps wy ((H1.out.below HC2.out).more HC2.out.size) (H2.out.below HC2.out) HC2.out.size hn1 HP6.out)
      have hF4 := F4.out
      have hF5 := F5.out
      have hF3 := F3.out ps
      have hUS := HUN.out (packS ps s bits)
      have hSZ := pack_size (p := ps) (s := s) (bits := bits)
      obtain ⟨E4, hE4⟩ : ∃ E, E = Ph.packErr ps s bits := ⟨_, rfl⟩
      obtain ⟨S4, hS4⟩ : ∃ E, E = packS ps s bits := ⟨_, rfl⟩
      rw [← hE4] at HPX hF4 hF5 hF3
      rw [← hS4] at HPX hF4 hF5 hF3 hUS hSZ
      rw [← hE4] at hSZ
      have HSZ := Lib.hid hSZ
      clear hE4 hS4 F3 F4 F5 hSZ
      by_cases hE : E4 = 0
      · subst hE
        rw [errV_zero] at HPX
        obtain ⟨u1, u2⟩ := hF4 rfl
        have hsz : S4.size ≤ 140737488351232 := HSZ.out rfl
        have hUS := hUS hsz
        rw [u1, u2] at hUS
        have HUS := Lib.hid hUS
        have HF5 := Lib.hid (hF5 rfl)
        have HF3 := Lib.hid (hF3 rfl)
        clear hUS hF5 hF3 hF4 u1 u2
        go_wp2_with fail
        refine HPX.out.mono ?_
        rintro e w6 ⟨rfl, hb⟩
        have HB6 := Lib.hid (below_on HC2.out hb)
        clear hb HPX
        go_wp2_with fail
        refine (HUS.out _ (H2.out.below HB6.out) HB6.out.size).mono ?_
        rintro e w7 ⟨A7, n7, c7, rfl, ho, hb⟩
        have hn7 : n7 = n1 := by have := ho.len; have := H1.out.len; omega
        subst hn7
        have HP7 := Lib.hid ho.rd
        have HB7 := Lib.hid (below_on HB6.out hb)
        rw [errV_zero]
        have HSA := Lib.hid (parts_same A7 A1 n7 c7 c1 ps w7 _ _ HP7.out (H1.out.below HB7.out) hn1 HP6.out)
        clear ho hb HUS
        by_cases hF : F = 0
        · have hFb : (F == 0) = true := by simp [hF]
          have hle := HF3.out hF
          have hle' : ¬ N < (S4.size : Int) := by omega
          clear hle hF
          go_wp2_with fail
          refine HSA.out.mono ?_
          rintro e w8 ⟨rfl, q8, rfl⟩
          have HB8 := Lib.hid (below_drewN' HB7.out q8)
          obtain ⟨W8, hW8⟩ : ∃ W8, W8 = w7.drewN q8 := ⟨_, rfl⟩
          rw [← hW8] at HB8 ⊢
          clear hW8 HP7 HB7 HSA
          rcases (show cut < 0 ∨ (¬ cut < 0 ∧ (S4.size : Int) ≤ cut) ∨ (¬ cut < 0 ∧ ¬ (S4.size : Int) ≤ cut) by omega) with q1 | ⟨q1, q2⟩ | ⟨q1, q2⟩
          · go_wp2_with fail
            go_ret
            exact ⟨rfl, HB8.out⟩
          · go_wp2_with fail
            go_ret
            exact ⟨rfl, HB8.out⟩
          · obtain ⟨k, rfl⟩ := Int.eq_ofNat_of_zero_le (show 0 ≤ cut by omega)
            have hk : k < S4.size := by omega
            have huc := HUN.out (S4.extract 0 k) (by rw [ByteArray.size_extract]; omega)
            rw [bytesOf_extract, HF5.out k hk] at huc
            have HUC := Lib.hid huc
            have HE2 := Lib.hid fun W hW => herr_yes 2 W hW (by omega)
            clear huc
            go_wp2_with fail
            refine (HUC.out _ (H2.out.below HB8.out) HB8.out.size).mono ?_
            rintro e w9 ⟨A9, n9, c9, rfl, ho, hb⟩
            have HB9 := Lib.hid (below_on HB8.out hb)
            clear ho hb
            go_wp2_with fail
            refine (HE2.out _ (HG.out.below HB9.out)).mono ?_
            rintro e w10 ⟨rfl, hb⟩
            have HB10 := Lib.hid (below_on HB9.out hb)
            clear hb
            go_wp2_with fail
            go_ret
            exact ⟨rfl, HB10.out⟩
        · have hFb : (F == 0) = false := by simp [hF]
          clear hF
          go_wp2_with fail
          refine HSA.out.mono ?_
          rintro e w8 ⟨rfl, q8, rfl⟩
          have HB8 := Lib.hid (below_drewN' HB7.out q8)
          obtain ⟨W8, hW8⟩ : ∃ W8, W8 = w7.drewN q8 := ⟨_, rfl⟩
          rw [← hW8] at HB8 ⊢
          clear hW8 HP7 HB7 HSA
          rcases (show cut < 0 ∨ (¬ cut < 0 ∧ (S4.size : Int) ≤ cut) ∨ (¬ cut < 0 ∧ ¬ (S4.size : Int) ≤ cut) by omega) with q1 | ⟨q1, q2⟩ | ⟨q1, q2⟩
          · go_wp2_with fail
            go_ret
            exact ⟨rfl, HB8.out⟩
          · go_wp2_with fail
            go_ret
            exact ⟨rfl, HB8.out⟩
          · obtain ⟨k, rfl⟩ := Int.eq_ofNat_of_zero_le (show 0 ≤ cut by omega)
            have hk : k < S4.size := by omega
            have huc := HUN.out (S4.extract 0 k) (by rw [ByteArray.size_extract]; omega)
            rw [bytesOf_extract, HF5.out k hk] at huc
            have HUC := Lib.hid huc
            have HE2 := Lib.hid fun W hW => herr_yes 2 W hW (by omega)
            clear huc
            go_wp2_with fail
            refine (HUC.out _ (H2.out.below HB8.out) HB8.out.size).mono ?_
            rintro e w9 ⟨A9, n9, c9, rfl, ho, hb⟩
            have HB9 := Lib.hid (below_on HB8.out hb)
            clear ho hb
            go_wp2_with fail
            refine (HE2.out _ (HG.out.below HB9.out)).mono ?_
            rintro e w10 ⟨rfl, hb⟩
            have HB10 := Lib.hid (below_on HB9.out hb)
            clear hb
            go_wp2_with fail
            go_ret
            exact ⟨rfl, HB10.out⟩
      · rw [errV_ne hE] at HPX
        clear hF4 hF5 hF3 hUS
        go_wp2_with fail
        refine HPX.out.mono ?_
        rintro e w6 ⟨rfl, hb⟩
        have HB6 := Lib.hid (below_on HC2.out hb)
        clear hb HPX
        go_wp2_with fail
        go_ret
        exact ⟨rfl, HB6.out⟩
end Go.Proofs.YtlclmdbniedpmaaDoor
