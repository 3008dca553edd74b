/- Walks: a frame out of bytes (chapter 17: Unpack). -/
import Derived.Test.YtlclmdbniedpmaaDoorUnpack
namespace Go.Proofs.YtlclmdbniedpmaaDoor
open Go.RowKit

/-- What is wrong with bytes as a frame. -/
def unpE (b : List Nat) (s : List Int) (bits : Int) : Int :=
  if Ph.bandErr s ≠ 0 then Ph.bandErr s else if bits < 0 ∨ 400 < bits then 1 else if 50 < b.length then 2 else if (Ph.unpack b s bits).isSome = true then 0 else 2
def unpL (b : List Nat) (s : List Int) (bits : Int) : List Ph.Part := if unpE b s bits = 0 then (Ph.unpack b s bits).getD [] else []
theorem unpE_zero {b : List Nat} {s : List Int} {bits : Int} (h : unpE b s bits = 0) : Ph.bandErr s = 0 ∧ (0 ≤ bits ∧ bits ≤ 400) ∧ b.length ≤ 50 ∧ Ph.unpack b s bits = some (unpL b s bits) := by
  have h' := h
  unfold unpE at h
  split at h
  · omega
  · split at h
    · omega
    · split at h
      · omega
      · split at h
        · rename_i h1 h2 h3 h4
          refine ⟨by omega, by omega, by omega, ?_⟩
          unfold unpL
          rw [if_pos h']
          cases hu : Ph.unpack b s bits with
          | none => rw [hu] at h4; cases h4
          | some p => rfl
        · omega
set_option maxHeartbeats 2000000 in
theorem unpack_any (b : ByteArray) (A2 : Option Addr) (n2 c2 : Nat) (s : List Int) (bits : Int) (w : World) (B : Nat) (h2 : RdI w B A2 n2 s) (hB : B ≤ w.heap.size) (hn : n2 ≤ 100000000000000) (hs : b.size ≤ 140737488351232) :
    Calls Tryd.prog 21 #[.string b, .slice A2 n2 c2, .int .i64 bits] w (ToldP (unpE (bytesOf b) s bits) (unpL (bytesOf b) s bits) w) := by
  have hbl := bytesOf_length b
  by_cases hb : Ph.bandErr s = 0
  · have HBC := Lib.hid (bandCheck_ok A2 n2 c2 s w B h2 hb)
    have HSB := Lib.hid fun W => shbits_any bits W
    by_cases hbi : 0 ≤ bits ∧ bits ≤ 400
    · rw [show bitsOk bits = true from bitsOk_iff.2 hbi] at HSB
      by_cases hsz : 50 < b.size
      · have e : unpE (bytesOf b) s bits = 2 := by unfold unpE; rw [if_neg (by omega), if_neg (by omega), if_pos (by omega)]
        have e2 : unpL (bytesOf b) s bits = [] := by unfold unpL; rw [if_neg (by omega)]
        rw [e, e2]
        have hsz' : (50 : Int) < (b.size : Int) := by omega
        clear e e2 h2 hb hbi hbl
        go_enter Tryd.func21, Tryd.ntmps21
        go_wp2_with fail
        refine HBC.out.mono ?_
        rintro e w' ⟨rfl, rfl⟩
        go_wp2_with fail
        refine (HSB.out _).mono ?_
        rintro e w' ⟨rfl, rfl⟩
        go_wp2_with fail
        go_ret2
        exact ToldP.none _ _ (errV_ne (by omega)).symm (Below.refl _ _)
      · have e : unpE (bytesOf b) s bits = if (Ph.unpack (bytesOf b) s bits).isSome = true then 0 else 2 := by unfold unpE; rw [if_neg (by omega), if_neg (by omega), if_neg (by omega)]
        have HRE := Lib.hid (read_any b A2 n2 c2 s bits w B h2 hB (by omega) hb hbi)
        have hul : unpL (bytesOf b) s bits = if unpE (bytesOf b) s bits = 0 then (Ph.unpack (bytesOf b) s bits).getD [] else [] := rfl
        have hsz' : ¬ (50 : Int) < (b.size : Int) := by omega
        obtain ⟨R, hR⟩ : ∃ R, R = Ph.unpack (bytesOf b) s bits := ⟨_, rfl⟩
        rw [← hR] at e HRE hul
        obtain ⟨E, hE⟩ : ∃ E, E = unpE (bytesOf b) s bits := ⟨_, rfl⟩
        obtain ⟨L, hL⟩ : ∃ E, E = unpL (bytesOf b) s bits := ⟨_, rfl⟩
        rw [← hE] at e hul ⊢
        rw [← hL] at hul ⊢
        clear h2 hb hbi hR hE hL hbl
        cases R with
        | none =>
          have e' : E = 2 := by rw [e]; rfl
          subst e'
          have hl : L = [] := by rw [hul, if_neg (by omega)]
          subst hl
          clear e hul
          go_enter Tryd.func21, Tryd.ntmps21
          go_wp2_with fail
          refine HBC.out.mono ?_
          rintro e w' ⟨rfl, rfl⟩
          go_wp2_with fail
          refine (HSB.out _).mono ?_
          rintro e w' ⟨rfl, rfl⟩
          go_wp2_with fail
          refine HRE.out.mono ?_
          rintro e w3 ⟨A3, n3, c3, rfl, _, hb⟩
          have HB3 := Lib.hid hb
          clear hb
          go_wp2_with fail
          go_ret2
          exact ToldP.none _ _ (errV_ne (by omega)).symm HB3.out
        | some p =>
          have e' : E = 0 := by rw [e]; rfl
          subst e'
          have hl : L = p := by rw [hul, if_pos rfl]; rfl
          subst hl
          clear e hul
          go_enter Tryd.func21, Tryd.ntmps21
          go_wp2_with fail
          refine HBC.out.mono ?_
          rintro e w' ⟨rfl, rfl⟩
          go_wp2_with fail
          refine (HSB.out _).mono ?_
          rintro e w' ⟨rfl, rfl⟩
          go_wp2_with fail
          refine HRE.out.mono ?_
          rintro e w3 ⟨A3, n3, c3, rfl, hp, hb⟩
          have HP3 := Lib.hid (hp _ rfl)
          have HB3 := Lib.hid hb
          clear hb hp
          go_wp2_with fail
          go_ret2
          exact ⟨A3, n3, c3, rfl, HP3.out, HB3.out⟩
    · rw [show bitsOk bits = false by unfold bitsOk; simp; omega] at HSB
      have e : unpE (bytesOf b) s bits = 1 := by unfold unpE; rw [if_neg (by omega), if_pos (by omega)]
      have e2 : unpL (bytesOf b) s bits = [] := by unfold unpL; rw [if_neg (by omega)]
      rw [e, e2]
      clear e e2 h2 hb hbi hbl
      go_enter Tryd.func21, Tryd.ntmps21
      go_wp2_with fail
      refine HBC.out.mono ?_
      rintro e w' ⟨rfl, rfl⟩
      go_wp2_with fail
      refine (HSB.out _).mono ?_
      rintro e w' ⟨rfl, rfl⟩
      go_wp2_with fail
      go_ret2
      exact ToldP.none _ _ (errV_ne (by omega)).symm (Below.refl _ _)
  · have HBC := Lib.hid (bandCheck_no A2 n2 c2 s w B h2 hn hb)
    have e : unpE (bytesOf b) s bits = Ph.bandErr s := by unfold unpE; rw [if_pos hb]
    have e2 : unpL (bytesOf b) s bits = [] := by unfold unpL; rw [if_neg (by omega)]
    rw [e, e2]
    obtain ⟨E, hE⟩ : ∃ E, E = Ph.bandErr s := ⟨_, rfl⟩
    rw [← hE] at HBC hb ⊢
    rw [errV_ne hb] at HBC
    clear e e2 h2 hE hbl
    go_enter Tryd.func21, Tryd.ntmps21
    go_wp2_with fail
    refine HBC.out.mono ?_
    rintro e w' ⟨rfl, rfl⟩
    go_wp2_with fail
    go_ret2
    exact ToldP.none _ _ (errV_ne hb).symm (Below.refl _ _)
/-- Sizes that are right: no part has more pulses than six, there are eight at most. -/
theorem unpL_small {b : List Nat} {s : List Int} {bits : Int} (hlt : ∀ x ∈ b, x < 256) (h : unpE b s bits = 0) : Ph.frameErr (unpL b s bits) s bits = 0 ∧ (unpL b s bits).length ≤ 8 ∧ ∀ p ∈ unpL b s bits, Ph.gainOk p.gain = true ∧ p.pulses.length ≤ 6 := by
  have hz := unpE_zero h
  have hf := (Ph.unpack_back hz.1 hz.2.1.1 hz.2.1.2 hlt hz.2.2.2).1
  have hfz := Ph.frameErr_zero.1 hf
  refine ⟨hf, ?_, fun p hp => ⟨(hfz.2.2.1 p hp).1, (Ph.pulsesErr_zero.1 (hfz.2.2.1 p hp).2).1⟩⟩
  have h8 := (Ph.bandErr_zero.1 hz.1).2.1
  have := congrArg List.length hfz.2.1
  rw [List.length_map] at this
  omega
/-- What a frame has that is read: numbers as many as its bands. -/
theorem unpL_many {b : List Nat} {s : List Int} {bits : Int} (hlt : ∀ x ∈ b, x < 256) (h : unpE b s bits = 0) : (Ph.manyOf (unpL b s bits) : Int) = Ph.total s := by
  have hf := Ph.frameErr_zero.1 (unpL_small hlt h).1
  have key : ∀ p : List Ph.Part, (Ph.manyOf p : Int) = Ph.total (p.map (fun x => (x.pulses.length : Int))) := by
    intro p
    unfold Ph.manyOf
    induction p with
    | nil => rfl
    | cons x p ih => simp only [List.map_cons, List.sum_cons, Ph.total]; omega
  rw [key, hf.2.1]
end Go.Proofs.YtlclmdbniedpmaaDoor
