/- The walk of the law FrameTells. -/
import Derived.Test.YtlilommhdjdblaaDoorTold
import Derived.Test.YtlilommhdjdblaaDoorRefFrame2
import Derived.Test.YtlilommhdjdblaaDoorSameP
import Derived.Test.YtlilommhdjdblaaDoorOpen
namespace Go.Proofs.YtlilommhdjdblaaDoor
open Go.RowKit

theorem bandErr_bd (s : List Int) : -100 ≤ Ph.bandErr s ∧ Ph.bandErr s ≤ 100 := by
  unfold Ph.bandErr
  split <;> (try split) <;> (try split) <;> (try split) <;> omega
theorem pulsesErr_bd (v : List Int) : -100 ≤ Ph.pulsesErr v ∧ Ph.pulsesErr v ≤ 100 := by unfold Ph.pulsesErr; split <;> (try split) <;> (try split) <;> omega
theorem partsErr_bd : ∀ ps : List Ph.Part, -100 ≤ Ph.partsErr ps ∧ Ph.partsErr ps ≤ 100
  | [] => by simp [Ph.partsErr]
  | p :: ps => by
    have h1 := partsErr_bd ps
    have h2 := pulsesErr_bd p.pulses
    unfold Ph.partsErr
    split
    · omega
    · split <;> omega
theorem decPart_bd : ∀ ps : List Ph.Part, -100 ≤ Ph.decPart ps ∧ Ph.decPart ps ≤ 100
  | [] => by simp [Ph.decPart]
  | p :: ps => by
    have h1 := decPart_bd ps
    have h2 := pulsesErr_bd p.pulses
    unfold Ph.decPart
    split
    · omega
    · split <;> omega
theorem lapErr_bd (l : List Int) (m : Int) : -100 ≤ Ph.lapErr l m ∧ Ph.lapErr l m ≤ 100 := by
  unfold Ph.lapErr
  split <;> (try split) <;> (try split) <;> omega
theorem frameErr_bd (ps : List Ph.Part) (s : List Int) (bits : Int) : -100 ≤ Ph.frameErr ps s bits ∧ Ph.frameErr ps s bits ≤ 100 := by
  have h1 := bandErr_bd s
  have h2 := partsErr_bd ps
  unfold Ph.frameErr
  split
  · omega
  · split
    · omega
    · split
      · omega
      · split
        · omega
        · split
          · omega
          · split <;> omega
theorem encErr_bd (l s : List Int) (bits : Int) : -100 ≤ Ph.encErr l s bits ∧ Ph.encErr l s bits ≤ 100 := by
  have h1 := bandErr_bd s
  have h2 := lapErr_bd l 1000
  unfold Ph.encErr
  split
  · omega
  · split
    · omega
    · split
      · omega
      · split
        · omega
        · split <;> omega
theorem decErr_bd (ps : List Ph.Part) : -100 ≤ Ph.decErr ps ∧ Ph.decErr ps ≤ 100 := by
  have h1 := decPart_bd ps
  have h2 := lapErr_bd (Ph.decAll ps) 4000
  unfold Ph.decErr
  split
  · omega
  · split
    · omega
    · split <;> omega
theorem encoded_small (l s : List Int) (bits : Int) : ∀ p ∈ gotP (Ph.encErr l s bits) (Ph.encoded l s bits), p.pulses.length ≤ 100000000000000 := by
  intro p hp
  by_cases h0 : Ph.encErr l s bits = 0
  · rw [h0, gotP_zero] at hp
    have h1 := (Ph.enc_right h0).1
    have h2 := (Ph.frameErr_zero.1 h1).2.2.1 p hp
    have := (Ph.pulsesErr_zero.1 h2.2).1
    omega
  · rw [gotP_ne h0] at hp
    simp at hp
theorem encoded_few (l s : List Int) (bits : Int) : (gotP (Ph.encErr l s bits) (Ph.encoded l s bits)).length ≤ 100000000000000 := by
  by_cases h0 : Ph.encErr l s bits = 0
  · rw [h0, gotP_zero]
    have h1 := Ph.frameErr_zero.1 (Ph.enc_right h0).1
    have h2 := (Ph.bandErr_zero.1 h1.1).2.1
    have := congrArg List.length h1.2.1
    rw [List.length_map] at this
    omega
  · rw [gotP_ne h0]; simp
theorem decoded_small (ps : List Ph.Part) : (got (Ph.decErr ps) (Ph.lapI (Ph.decAll ps))).length ≤ 100000000000000 := by
  by_cases h0 : Ph.decErr ps = 0
  · rw [h0, got_zero]
    have h1 : Ph.lapErr (Ph.decAll ps) 4000 = 0 := by
      unfold Ph.decErr at h0
      split at h0
      · omega
      · split at h0
        · omega
        · split at h0
          · omega
          · exact h0
    have h2 := Ph.lapErr_zero.1 h1
    rw [Ph.lapI_length]
    omega
  · rw [got_ne h0]; simp
set_option maxHeartbeats 4000000 in
set_option maxRecDepth 1000000 in
theorem frameTells_walk (w : World) (A0 : Option Addr) (n0 c0 : Nat) (l : List Int) (h0 : RdI w w.heap.size A0 n0 l) (hb0 : n0 ≤ c0 ∧ c0 ≤ 17592186044415) (_ : ∀ x ∈ l, Is64 x) (A1 : Option Addr) (n1 c1 : Nat) (s : List Int) (h1 : RdI w w.heap.size A1 n1 s) (hb1 : n1 ≤ c1 ∧ c1 ≤ 17592186044415) (_ : ∀ x ∈ s, Is64 x) (bits : Int) (A2 : Option Addr) (n2 c2 : Nat) (ps : List Ph.Part) (h2 : RdP w w.heap.size A2 n2 ps) (hb2 : n2 ≤ c2 ∧ c2 ≤ 17592186044415) (hm2 : ∀ q ∈ ps, q.pulses.length ≤ 17592186044415 ∧ Is64 q.gain ∧ ∀ x ∈ q.pulses, Is64 x) (hg : Laid w) :
    Calls Tryd.prog 4 #[.slice A0 n0 c0, .slice A1 n1 c1, .int .i64 bits, .slice A2 n2 c2] w fun e w' => e = .returned (.bool true) ∧ Below w.heap.size w w' := by
  have HG := Lib.hid hg
  have H0 := Lib.hid h0
  have H1 := Lib.hid h1
  have H2 := Lib.hid h2
  have hn0 : n0 ≤ 100000000000000 := by omega
  have hn1 : n1 ≤ 100000000000000 := by omega
  have hn2 : n2 ≤ 100000000000000 := by omega
  have HP6 : Hid (∀ p ∈ ps, p.pulses.length ≤ 100000000000000) := Lib.hid fun p hp => by have := (hm2 p hp).1; omega
  have HRE := Lib.hid (rencode_any A0 n0 c0 l A1 n1 c1 s bits w w.heap.size h0 h1 (Nat.le_refl _) hn0 hn1)
  have HEN := Lib.hid fun W (hb : Below w.heap.size w W) => encode_any A0 n0 c0 l A1 n1 c1 s bits W w.heap.size (H0.out.below hb) (H1.out.below hb) hb.size hn0 hn1
  have HRF := Lib.hid fun W (hb : Below w.heap.size w W) => rframe_any A2 n2 c2 ps A1 n1 c1 s bits W w.heap.size (H2.out.below hb) (H1.out.below hb) hb.size hn2 hn1 HP6.out
  have HFC := Lib.hid fun W (hb : Below w.heap.size w W) => frcheck_any A2 n2 c2 ps A1 n1 c1 s bits W w.heap.size (H2.out.below hb) (H1.out.below hb) hb.size hn2 hn1 HP6.out
  have HRD := Lib.hid fun W (hb : Below w.heap.size w W) => rdecode_any A2 n2 c2 ps W w.heap.size (H2.out.below hb) hb.size hn2 HP6.out
  have HDE := Lib.hid fun W (hb : Below w.heap.size w W) => decode_any A2 n2 c2 ps W w.heap.size (H2.out.below hb) hb.size hn2 HP6.out
  have HES := Lib.hid (encoded_small l s bits)
  have HEL := Lib.hid (encoded_few l s bits)
  have HDS := Lib.hid (decoded_small ps)
  have HB1 := Lib.hid (encErr_bd l s bits)
  have HB2 := Lib.hid (frameErr_bd ps s bits)
  have HB3 := Lib.hid (decErr_bd ps)
  obtain ⟨L1, hL1⟩ : ∃ L, L = gotP (Ph.encErr l s bits) (Ph.encoded l s bits) := ⟨_, rfl⟩
  rw [← hL1] at HRE HEN HES HEL
  obtain ⟨L3, hL3⟩ : ∃ L, L = got (Ph.decErr ps) (Ph.lapI (Ph.decAll ps)) := ⟨_, rfl⟩
  rw [← hL3] at HRD HDE HDS
  obtain ⟨E1, hE1⟩ : ∃ E, E = Ph.encErr l s bits := ⟨_, rfl⟩
  rw [← hE1] at HRE HEN HB1
  obtain ⟨E2, hE2⟩ : ∃ E, E = Ph.frameErr ps s bits := ⟨_, rfl⟩
  rw [← hE2] at HRF HFC HB2
  obtain ⟨E3, hE3⟩ : ∃ E, E = Ph.decErr ps := ⟨_, rfl⟩
  rw [← hE3] at HRD HDE HB3
  clear h0 h1 h2 hb0 hb1 hb2 hm2 hg hL1 hL3 hE1 hE2 hE3 H0 H1 H2 HP6
  go_enter Tryd.func4, Tryd.ntmps4
  go_wp2_with fail
  refine HRE.out.mono ?_
  rintro e w3 ⟨A3, n3, c3, rfl, hr3, hb3⟩
  have HR3 := Lib.hid hr3
  have HW3 := Lib.hid hb3
  clear hr3 hb3 HRE
  go_wp2_with fail
  refine (HEN.out _ HW3.out).mono ?_
  rintro e w4 ⟨A4, n4, c4, rfl, ho4, hb4⟩
  have hnn : n4 = n3 := ho4.len.symm.trans HR3.out.len
  subst hnn
  have HR4 := Lib.hid ho4.rd
  have HR5 := Lib.hid (HR3.out.on hb4)
  have HW4 := Lib.hid (below_on HW3.out hb4)
  clear ho4 hb4 HR3 HW3 HEN
  go_wp2_with fail
  refine (herr_yes E1 _ (HG.out.below HW4.out) HB1.out).mono ?_
  rintro e w5 ⟨rfl, hb5⟩
  have HR6 := Lib.hid (HR4.out.on hb5)
  have HR7 := Lib.hid (HR5.out.on hb5)
  have HW5 := Lib.hid (below_on HW4.out hb5)
  have hn4 : n4 ≤ 100000000000000 := by have := HR6.out.len; have := HEL.out; omega
  clear hb5 HR4 HR5 HW4 HB1
  go_wp2_with fail
  refine (parts_same A4 A3 n4 c4 c3 L1 w5 _ _ HR6.out HR7.out hn4 HES.out).mono ?_
  rintro e w6 ⟨rfl, q6, rfl⟩
  obtain ⟨W6, hW6⟩ : ∃ W, W = w5.drewN q6 := ⟨_, rfl⟩
  have HW6 : Hid (Below w.heap.size w W6) := Lib.hid (by rw [hW6]; exact below_drewN' HW5.out _)
  rw [← hW6]
  clear hW6 HR6 HR7 HW5 HES hn4
  go_wp2_with fail
  refine (HRF.out _ HW6.out).mono ?_
  rintro e w7 ⟨rfl, hb7⟩
  have HW7 := Lib.hid (below_on HW6.out hb7)
  clear hb7 HW6 HRF
  go_wp2_with fail
  refine (HFC.out _ HW7.out).mono ?_
  rintro e w8 ⟨rfl, hb8⟩
  have HW8 := Lib.hid (below_on HW7.out hb8)
  clear hb8 HW7 HFC
  go_wp2_with fail
  refine (herr_yes E2 _ (HG.out.below HW8.out) HB2.out).mono ?_
  rintro e w9 ⟨rfl, hb9⟩
  have HW9 := Lib.hid (below_on HW8.out hb9)
  clear hb9 HW8 HB2
  go_wp2_with fail
  refine (HRD.out _ HW9.out).mono ?_
  rintro e w10 ⟨A5, n5, c5, rfl, hr5, hb10⟩
  have HR8 := Lib.hid hr5
  have HW10 := Lib.hid (below_on HW9.out hb10)
  clear hr5 hb10 HW9 HRD
  go_wp2_with fail
  refine (HDE.out _ HW10.out).mono ?_
  rintro e w11 ⟨A6, c6, rfl, ho6, hb11⟩
  have HR9 := Lib.hid (RdI.own ho6)
  have HR10 := Lib.hid (HR8.out.on hb11)
  have HW11 := Lib.hid (below_on HW10.out hb11)
  clear ho6 hb11 HW10 HR8 HDE
  go_wp2_with fail
  refine (herr_yes E3 _ (HG.out.below HW11.out) HB3.out).mono ?_
  rintro e w12 ⟨rfl, hb12⟩
  have HR11 := Lib.hid (HR9.out.on hb12)
  have HR12 := Lib.hid (HR10.out.on hb12)
  have HW12 := Lib.hid (below_on HW11.out hb12)
  clear hb12 HW11 HB3 HR9 HR10
  go_wp2_with fail
  refine (ints_any A6 A5 L3.length c6 n5 c5 _ _ _ _ _ HR11.out HR12.out (Nat.le_refl _) (Nat.le_refl _) HDS.out).mono ?_
  rintro e w13 ⟨rfl, hb13⟩
  have HW13 := Lib.hid (below_on HW12.out hb13)
  rw [sameI_true.2 rfl]
  clear hb13 HR11 HR12 HW12
  go_wp2_with fail
  go_ret
  exact ⟨ret_true (by simp), HW13.out⟩
end Go.Proofs.YtlilommhdjdblaaDoor
