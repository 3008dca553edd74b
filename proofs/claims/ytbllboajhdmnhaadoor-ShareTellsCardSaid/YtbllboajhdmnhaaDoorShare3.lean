/- Walks: pulses given, asked; bits left; what bands cost, asked (chapter 14). -/
import Derived.Test.YtbllboajhdmnhaaDoorShare2
namespace Go.Proofs.YtbllboajhdmnhaaDoor
open Go.RowKit

/-- A loudness that may not be. -/
def badLoud (x : Int) : Bool := decide (x < 0) || decide (8000 < x)
theorem loud_any_bad {s : List Int} : s.any badLoud = false ↔ ∀ x ∈ s, 0 ≤ x ∧ x ≤ 8000 := by
  rw [List.any_eq_false]
  unfold badLoud
  constructor
  · intro h x hx
    have := h x hx
    simp at this; omega
  · intro h x hx
    have := h x hx
    simp; omega
theorem shof1_any (n : Int) (w : World) : Calls Tryd.prog 98 #[.int .i64 n] w fun e w' => e = .returned (.bool (badLoud n)) ∧ w = w' := by
  unfold badLoud
  have HW := Lib.hid fun W => within_any n 8000 W (by omega)
  by_cases h1 : n < 0
  · clear HW
    go_enter Tryd.func98, Tryd.ntmps98
    go_wp2_with fail
    go_ret
    exact ⟨ret_bool (by simp [h1]), rfl⟩
  · by_cases h2 : 8000 < n
    · have hf : Ph.within n 8000 = false := Ph.within_false.2 (.inr h2)
      rw [hf] at HW
      clear hf
      go_enter Tryd.func98, Tryd.ntmps98
      go_wp2_with fail
      refine (HW.out _).mono ?_
      rintro e wk ⟨rfl, rfl⟩
      go_wp2_with fail
      go_ret
      exact ⟨ret_bool (by simp [h2]), rfl⟩
    · have hf : Ph.within n 8000 = true := Ph.within_iff.2 (by omega)
      rw [hf] at HW
      clear hf
      go_enter Tryd.func98, Tryd.ntmps98
      go_wp2_with fail
      refine (HW.out _).mono ?_
      rintro e wk ⟨rfl, rfl⟩
      go_wp2_with fail
      go_ret
      exact ⟨ret_bool (by simp [h1, h2]), rfl⟩
theorem enters_shof1 : ∀ args W, (callFunc 98 args).run Tryd.prog W = .ok (.enter 98 args) W :=
  fun args W => enters_of Tryd.func98 (by kernel_rfl) rfl args W
/-- May there be so many bits? -/
def bitsOk (n : Int) : Bool := decide (0 ≤ n) && decide (n ≤ 400)
theorem bitsOk_iff {n : Int} : bitsOk n = true ↔ 0 ≤ n ∧ n ≤ 400 := by unfold bitsOk; simp
theorem shbits_any (n : Int) (w : World) : Calls Tryd.prog 100 #[.int .i64 n] w fun e w' => e = .returned (.bool (bitsOk n)) ∧ w = w' := by
  unfold bitsOk
  by_cases h1 : 0 ≤ n <;> by_cases h2 : n ≤ 400
  all_goals go_enter Tryd.func100, Tryd.ntmps100
  all_goals go_wp2_with fail
  all_goals go_ret
  all_goals exact ⟨ret_bool (by simp [h1, h2]), rfl⟩
/-- What is wrong with bands, their loudness, and bits. -/
def shareErr (s loud : List Int) (bits : Int) : Int :=
  if Ph.bandErr s ≠ 0 then Ph.bandErr s else if loud.length ≠ s.length then 3 else if loud.any badLoud = true ∨ bitsOk bits = false then 1 else 0
theorem shareErr_zero {s loud : List Int} {bits : Int} : shareErr s loud bits = 0 ↔ Ph.bandErr s = 0 ∧ loud.length = s.length ∧ (∀ x ∈ loud, 0 ≤ x ∧ x ≤ 8000) ∧ 0 ≤ bits ∧ bits ≤ 400 := by
  unfold shareErr
  by_cases h1 : Ph.bandErr s = 0
  · rw [if_neg (by omega)]
    by_cases h2 : loud.length = s.length
    · rw [if_neg (by omega)]
      cases h3 : loud.any badLoud
      · cases h4 : bitsOk bits
        · rw [if_pos (by simp)]
          constructor
          · intro h; omega
          · intro h; rw [bitsOk_iff.2 h.2.2.2] at h4; cases h4
        · rw [if_neg (by simp)]
          exact ⟨fun _ => ⟨h1, h2, loud_any_bad.1 h3, bitsOk_iff.1 h4⟩, fun _ => rfl⟩
      · rw [if_pos (by simp)]
        constructor
        · intro h; omega
        · intro h; rw [loud_any_bad.2 h.2.2.1] at h3; cases h3
    · rw [if_pos h2]
      constructor
      · intro h; omega
      · intro h; exact absurd h.2.1 h2
  · rw [if_pos h1]
    constructor
    · intro h; exact absurd h h1
    · intro h; exact absurd h.1 h1
theorem shof_ok (A1 : Option Addr) (n1 c1 : Nat) (s : List Int) (A2 : Option Addr) (n2 c2 : Nat) (loud : List Int) (bits : Int) (w : World) (B : Nat) (h1 : RdI w B A1 n1 s) (h2 : RdI w B A2 n2 loud) (hB : B ≤ w.heap.size) (h0 : shareErr s loud bits = 0) :
    Calls Tryd.prog 42 #[.slice A1 n1 c1, .slice A2 n2 c2, .int .i64 bits] w (FreshI 3 (Ph.shareOf s loud bits) w) := by
  obtain ⟨hb, hl, hlo, hbt⟩ := shareErr_zero.1 h0
  have hl1 := h1.len
  have hl2 := h2.len
  have hs := Ph.bandErr_zero.1 hb
  obtain rfl : n2 = n1 := by omega
  have HC := Lib.hid fun W hW => bandCheck_ok A1 n2 c1 s W B hW hb
  have HA : Hid (∀ W, RdI W B A2 n2 loud → Calls Tryd.prog 95 #[.slice A2 n2 c2, .func (.func 98) #[] #[]] W fun e w' => e = .returned (.bool false) ∧ W = w') := Lib.hid fun W hW => by
    have := any_any A2 n2 c2 98 #[] loud badLoud W B hW (by omega) enters_shof1 (fun x _ => shof1_any x W)
    rw [loud_any_bad.2 hlo] at this
    exact this
  have HBT := Lib.hid fun W => shbits_any bits W
  rw [bitsOk_iff.2 hbt] at HBT
  have HG := Lib.hid fun W hW1 hW2 hBW => given_any A1 n2 c1 s A2 c2 loud bits W B hW1 hW2 hBW hb hlo hbt
  obtain ⟨V, hV⟩ : ∃ V, V = Ph.shareOf s loud bits := ⟨_, rfl⟩
  obtain ⟨T, hT⟩ : ∃ T, T = Ph.total s := ⟨_, rfl⟩
  rw [← hV] at HG ⊢
  rw [← hT] at HC
  have H1 := Lib.hid h1
  have H2 := Lib.hid h2
  have hnn : ((n2 : Int) != (n2 : Int)) = false := by simp
  clear h1 h2 h0 hb hl hlo hbt hl1 hl2 hs hV hT
  go_enter Tryd.func42, Tryd.ntmps42
  go_wp2_with fail
  refine (HC.out _ H1.out).mono ?_
  rintro e wk ⟨rfl, rfl⟩
  go_wp2_with fail
  refine (HA.out _ H2.out).mono ?_
  rintro e wk ⟨rfl, rfl⟩
  go_wp2_with fail
  refine (HBT.out _).mono ?_
  rintro e wk ⟨rfl, rfl⟩
  go_wp2_with fail
  refine (HG.out _ H1.out H2.out hB).mono ?_
  rintro e w2 ⟨A', c', rfl, ho, hbb⟩
  have HO := Lib.hid ho
  have HBB := Lib.hid hbb
  clear ho hbb HG HC HA HBT
  go_wp2_with fail
  go_ret2
  exact ⟨A', c', rfl, HO.out, HBB.out⟩
theorem shof_no (A1 : Option Addr) (n1 c1 : Nat) (s : List Int) (A2 : Option Addr) (n2 c2 : Nat) (loud : List Int) (bits : Int) (w : World) (B : Nat) (h1 : RdI w B A1 n1 s) (h2 : RdI w B A2 n2 loud) (hn1 : n1 ≤ 100000000000000) (_hn2 : n2 ≤ 100000000000000) (h0 : shareErr s loud bits ≠ 0) :
    Calls Tryd.prog 42 #[.slice A1 n1 c1, .slice A2 n2 c2, .int .i64 bits] w fun e w' => e = .returned (.tuple #[.slice none 0 0, errV (shareErr s loud bits)]) ∧ w = w' := by
  by_cases hb : Ph.bandErr s = 0
  · have HC := Lib.hid fun W hW => bandCheck_ok A1 n1 c1 s W B hW hb
    obtain ⟨T, hT⟩ : ∃ T, T = Ph.total s := ⟨_, rfl⟩
    rw [← hT] at HC
    have hl1 := h1.len
    have hl2 := h2.len
    have H1 := Lib.hid h1
    have H2 := Lib.hid h2
    by_cases hl : n2 = n1
    · subst hl
      have he : shareErr s loud bits = 1 := by
        unfold shareErr at h0 ⊢
        rw [if_neg (by omega), if_neg (by omega)] at h0 ⊢
        split at h0
        · rename_i h; rw [if_pos h]
        · exact absurd rfl h0
      rw [he, errV_ne (by decide)]
      have hor : loud.any badLoud = true ∨ (loud.any badLoud = false ∧ bitsOk bits = false) := by
        unfold shareErr at h0
        rw [if_neg (by omega), if_neg (by omega)] at h0
        split at h0
        · rename_i h
          cases ha : loud.any badLoud
          · rw [ha] at h; simp at h; exact .inr ⟨rfl, h⟩
          · exact .inl rfl
        · exact absurd rfl h0
      have HA : Hid (∀ W, RdI W B A2 n2 loud → Calls Tryd.prog 95 #[.slice A2 n2 c2, .func (.func 98) #[] #[]] W fun e w' => e = .returned (.bool (loud.any badLoud)) ∧ W = w') := Lib.hid fun W hW =>
        any_any A2 n2 c2 98 #[] loud badLoud W B hW (by omega) enters_shof1 (fun x _ => shof1_any x W)
      have HBT := Lib.hid fun W => shbits_any bits W
      have hnn : ((n2 : Int) != (n2 : Int)) = false := by simp
      rcases hor with ha | ⟨ha, hbt⟩
      · rw [ha] at HA
        clear h1 h2 h0 hb hl1 hl2 he hT ha HBT
        go_enter Tryd.func42, Tryd.ntmps42
        go_wp2_with fail
        refine (HC.out _ H1.out).mono ?_
        rintro e wk ⟨rfl, rfl⟩
        go_wp2_with fail
        refine (HA.out _ H2.out).mono ?_
        rintro e wk ⟨rfl, rfl⟩
        go_wp2_with fail
        go_ret2
        exact ⟨rfl, rfl⟩
      · rw [ha] at HA
        rw [hbt] at HBT
        clear h1 h2 h0 hb hl1 hl2 he hT ha hbt
        go_enter Tryd.func42, Tryd.ntmps42
        go_wp2_with fail
        refine (HC.out _ H1.out).mono ?_
        rintro e wk ⟨rfl, rfl⟩
        go_wp2_with fail
        refine (HA.out _ H2.out).mono ?_
        rintro e wk ⟨rfl, rfl⟩
        go_wp2_with fail
        refine (HBT.out _).mono ?_
        rintro e wk ⟨rfl, rfl⟩
        go_wp2_with fail
        go_ret2
        exact ⟨rfl, rfl⟩
    · have he : shareErr s loud bits = 3 := by unfold shareErr; rw [if_neg (by omega), if_pos (by omega)]
      rw [he, errV_ne (by decide)]
      have hnn : ((n2 : Int) != (n1 : Int)) = true := by simp; omega
      clear h1 h2 h0 hb hl1 hl2 he hT hl
      go_enter Tryd.func42, Tryd.ntmps42
      go_wp2_with fail
      refine (HC.out _ H1.out).mono ?_
      rintro e wk ⟨rfl, rfl⟩
      go_wp2_with fail
      go_ret2
      exact ⟨rfl, rfl⟩
  · have he : shareErr s loud bits = Ph.bandErr s := by unfold shareErr; rw [if_pos hb]
    rw [he]
    have HC := Lib.hid fun W hW => bandCheck_no A1 n1 c1 s W B hW hn1 hb
    have hev := errV_ne hb
    have H1 := Lib.hid h1
    clear h1 h2 h0 hb he
    go_enter Tryd.func42, Tryd.ntmps42
    go_wp2_with fail
    refine (HC.out _ H1.out).mono ?_
    rintro e wk ⟨rfl, rfl⟩
    go_wp2_with fail
    go_ret2
    exact ⟨ret_two rfl hev.symm, rfl⟩
theorem left_ok (A1 : Option Addr) (n1 c1 : Nat) (s : List Int) (A2 : Option Addr) (n2 c2 : Nat) (loud : List Int) (bits : Int) (w : World) (B : Nat) (h1 : RdI w B A1 n1 s) (h2 : RdI w B A2 n2 loud) (hB : B ≤ w.heap.size) (h0 : shareErr s loud bits = 0) :
    Calls Tryd.prog 43 #[.slice A1 n1 c1, .slice A2 n2 c2, .int .i64 bits] w fun e w' => e = .returned (.tuple #[.int .i64 (bits - Ph.cost s (Ph.shareOf s loud bits)), .nilIface]) ∧ Below w.heap.size w w' := by
  obtain ⟨hb, hl, hlo, hbt⟩ := shareErr_zero.1 h0
  have hs := Ph.bandErr_zero.1 hb
  have hl1 := h1.len
  have hok := Ph.share_ok (s := s) (loud := loud) (bits := bits) hbt.1
  have HO := Lib.hid fun W hW1 hW2 hBW => shof_ok A1 n1 c1 s A2 n2 c2 loud bits W B hW1 hW2 hBW h0
  obtain ⟨V, hV⟩ : ∃ V, V = Ph.shareOf s loud bits := ⟨_, rfl⟩
  rw [← hV] at HO hok ⊢
  have hVL : V.length = n1 := by rw [hok.1, hl1]
  have HC := Lib.hid fun (W : World) (A : Option Addr) (c : Nat) (h1 : RdI W B A1 n1 s) hBW (h2 : RdI W W.heap.size A n1 V) => cost_any A1 n1 c1 s A c V W B W.heap.size h1 h2 hBW (Nat.le_refl _) (by omega) hs.2.2.1 hok.2.1
  have hcb := cost_bd s V hs.2.2.1 hok.2.1
  obtain ⟨C, hC⟩ : ∃ C, C = Ph.cost s V := ⟨_, rfl⟩
  rw [← hC] at HC hcb ⊢
  have hsl : s.length ≤ 8 := by omega
  have k1 : IntKind.i64.wrap (bits - C) = bits - C := IntWalk.i64_in _ (by omega)
  have H1 := Lib.hid h1
  have H2 := Lib.hid h2
  have HVL := Lib.hid hVL
  clear h1 h2 h0 hb hl hlo hbt hs hl1 hok hV hVL hC hcb hsl
  go_enter Tryd.func43, Tryd.ntmps43
  go_wp2_with fail
  refine (HO.out _ H1.out H2.out hB).mono ?_
  rintro e w2 ⟨A', c', rfl, ho, hbb⟩
  rw [HVL.out] at ho ⊢
  have HR := Lib.hid (RdI.own ho)
  have H1' := Lib.hid (H1.out.below (hbb.mono hB))
  have HB2 := Lib.hid hbb
  clear ho hbb
  go_wp2_with fail
  refine (HC.out _ _ _ H1'.out (Nat.le_trans hB HB2.out.size) HR.out).mono ?_
  rintro e w3 ⟨rfl, hb3⟩
  have HB3 := Lib.hid (below_on HB2.out hb3)
  clear hb3
  go_wp2_with fail
  go_ret2
  exact ⟨rfl, HB3.out⟩
theorem left_no (A1 : Option Addr) (n1 c1 : Nat) (s : List Int) (A2 : Option Addr) (n2 c2 : Nat) (loud : List Int) (bits : Int) (w : World) (B : Nat) (h1 : RdI w B A1 n1 s) (h2 : RdI w B A2 n2 loud) (hn1 : n1 ≤ 100000000000000) (hn2 : n2 ≤ 100000000000000) (h0 : shareErr s loud bits ≠ 0) :
    Calls Tryd.prog 43 #[.slice A1 n1 c1, .slice A2 n2 c2, .int .i64 bits] w fun e w' => e = .returned (.tuple #[.int .i64 0, errV (shareErr s loud bits)]) ∧ w = w' := by
  have HO := Lib.hid fun W hW1 hW2 => shof_no A1 n1 c1 s A2 n2 c2 loud bits W B hW1 hW2 hn1 hn2 h0
  have hev := errV_ne h0
  have H1 := Lib.hid h1
  have H2 := Lib.hid h2
  obtain ⟨E, hE⟩ : ∃ E, E = shareErr s loud bits := ⟨_, rfl⟩
  rw [← hE] at HO hev ⊢
  clear h1 h2 h0 hE
  go_enter Tryd.func43, Tryd.ntmps43
  go_wp2_with fail
  refine (HO.out _ H1.out H2.out).mono ?_
  rintro e wk ⟨rfl, rfl⟩
  go_wp2_with fail
  go_ret2
  exact ⟨ret_two rfl hev.symm, rfl⟩
/-- So many pulses as may not be. -/
def badPulse (k : Int) : Bool := !(decide (0 ≤ k) && decide (k ≤ 8))
theorem pulse_any_bad {p : List Int} : p.any badPulse = false ↔ Ph.pulsesOk p := by
  rw [List.any_eq_false]
  unfold badPulse Ph.pulsesOk
  constructor
  · intro h x hx
    have := h x hx
    simp at this; omega
  · intro h x hx
    have := h x hx
    simp; omega
theorem shcost1_any (n : Int) (w : World) : Calls Tryd.prog 96 #[.int .i64 n] w fun e w' => e = .returned (.bool (badPulse n)) ∧ w = w' := by
  unfold badPulse
  have HP := Lib.hid fun W => pulses_any n W
  obtain ⟨b, hb⟩ : ∃ b, b = (decide (0 ≤ n) && decide (n ≤ 8)) := ⟨_, rfl⟩
  rw [← hb] at HP ⊢
  clear hb
  cases b
  all_goals
    go_enter Tryd.func96, Tryd.ntmps96
    go_wp2_with fail
    refine (HP.out _).mono ?_
    rintro e wk ⟨rfl, rfl⟩
    go_wp2_with fail
    go_ret
    exact ⟨rfl, rfl⟩
theorem enters_shcost1 : ∀ args W, (callFunc 96 args).run Tryd.prog W = .ok (.enter 96 args) W :=
  fun args W => enters_of Tryd.func96 (by kernel_rfl) rfl args W
/-- What is wrong with bands, and their pulses. -/
def costErr (s p : List Int) : Int :=
  if Ph.bandErr s ≠ 0 then Ph.bandErr s else if p.length ≠ s.length then 3 else if p.any badPulse = true then 1 else 0
theorem costErr_zero {s p : List Int} : costErr s p = 0 ↔ Ph.bandErr s = 0 ∧ p.length = s.length ∧ Ph.pulsesOk p := by
  unfold costErr
  by_cases h1 : Ph.bandErr s = 0
  · rw [if_neg (by omega)]
    by_cases h2 : p.length = s.length
    · rw [if_neg (by omega)]
      cases h3 : p.any badPulse
      · rw [if_neg (by simp)]
        exact ⟨fun _ => ⟨h1, h2, pulse_any_bad.1 h3⟩, fun _ => rfl⟩
      · rw [if_pos rfl]
        constructor
        · intro h; omega
        · intro h; rw [pulse_any_bad.2 h.2.2] at h3; cases h3
    · rw [if_pos h2]
      constructor
      · intro h; omega
      · intro h; exact absurd h.2.1 h2
  · rw [if_pos h1]
    constructor
    · intro h; exact absurd h h1
    · intro h; exact absurd h.1 h1
theorem shcost_ok (A1 : Option Addr) (n1 c1 : Nat) (s : List Int) (A2 : Option Addr) (n2 c2 : Nat) (p : List Int) (w : World) (B1 B2 : Nat) (h1 : RdI w B1 A1 n1 s) (h2 : RdI w B2 A2 n2 p) (hB1 : B1 ≤ w.heap.size) (hB2 : B2 ≤ w.heap.size) (h0 : costErr s p = 0) :
    Calls Tryd.prog 40 #[.slice A1 n1 c1, .slice A2 n2 c2] w fun e w' => e = .returned (.tuple #[.int .i64 (Ph.cost s p), .nilIface]) ∧ Below w.heap.size w w' := by
  obtain ⟨hb, hl, hp⟩ := costErr_zero.1 h0
  have hs := Ph.bandErr_zero.1 hb
  have hl1 := h1.len
  have hl2 := h2.len
  obtain rfl : n2 = n1 := by omega
  have HC := Lib.hid fun W hW => bandCheck_ok A1 n2 c1 s W B1 hW hb
  have HA : Hid (∀ W, RdI W B2 A2 n2 p → Calls Tryd.prog 95 #[.slice A2 n2 c2, .func (.func 96) #[] #[]] W fun e w' => e = .returned (.bool false) ∧ W = w') := Lib.hid fun W hW => by
    have := any_any A2 n2 c2 96 #[] p badPulse W B2 hW (by omega) enters_shcost1 (fun x _ => shcost1_any x W)
    rw [pulse_any_bad.2 hp] at this
    exact this
  have HK := Lib.hid fun W hW1 hW2 hBW1 hBW2 => cost_any A1 n2 c1 s A2 c2 p W B1 B2 hW1 hW2 hBW1 hBW2 (by omega) hs.2.2.1 hp
  obtain ⟨C, hC⟩ : ∃ C, C = Ph.cost s p := ⟨_, rfl⟩
  obtain ⟨T, hT⟩ : ∃ T, T = Ph.total s := ⟨_, rfl⟩
  rw [← hC] at HK ⊢
  rw [← hT] at HC
  have H1 := Lib.hid h1
  have H2 := Lib.hid h2
  have hnn : ((n2 : Int) != (n2 : Int)) = false := by simp
  clear h1 h2 h0 hb hl hp hs hl1 hl2 hC hT
  go_enter Tryd.func40, Tryd.ntmps40
  go_wp2_with fail
  refine (HC.out _ H1.out).mono ?_
  rintro e wk ⟨rfl, rfl⟩
  go_wp2_with fail
  refine (HA.out _ H2.out).mono ?_
  rintro e wk ⟨rfl, rfl⟩
  go_wp2_with fail
  refine (HK.out _ H1.out H2.out hB1 hB2).mono ?_
  rintro e w3 ⟨rfl, hb3⟩
  have HB3 := Lib.hid hb3
  clear hb3
  go_wp2_with fail
  go_ret2
  exact ⟨rfl, HB3.out⟩
theorem shcost_no (A1 : Option Addr) (n1 c1 : Nat) (s : List Int) (A2 : Option Addr) (n2 c2 : Nat) (p : List Int) (w : World) (B1 B2 : Nat) (h1 : RdI w B1 A1 n1 s) (h2 : RdI w B2 A2 n2 p) (hn1 : n1 ≤ 100000000000000) (_hn2 : n2 ≤ 100000000000000) (h0 : costErr s p ≠ 0) :
    Calls Tryd.prog 40 #[.slice A1 n1 c1, .slice A2 n2 c2] w fun e w' => e = .returned (.tuple #[.int .i64 0, errV (costErr s p)]) ∧ w = w' := by
  by_cases hb : Ph.bandErr s = 0
  · have HC := Lib.hid fun W hW => bandCheck_ok A1 n1 c1 s W B1 hW hb
    obtain ⟨T, hT⟩ : ∃ T, T = Ph.total s := ⟨_, rfl⟩
    rw [← hT] at HC
    have hl1 := h1.len
    have hl2 := h2.len
    have H1 := Lib.hid h1
    have H2 := Lib.hid h2
    by_cases hl : n2 = n1
    · subst hl
      have ha : p.any badPulse = true := by
        cases h : p.any badPulse
        · exact absurd (costErr_zero.2 ⟨hb, by omega, pulse_any_bad.1 h⟩) h0
        · rfl
      have he : costErr s p = 1 := by unfold costErr; rw [if_neg (by omega), if_neg (by omega), if_pos ha]
      rw [he, errV_ne (by decide)]
      have HA : Hid (∀ W, RdI W B2 A2 n2 p → Calls Tryd.prog 95 #[.slice A2 n2 c2, .func (.func 96) #[] #[]] W fun e w' => e = .returned (.bool true) ∧ W = w') := Lib.hid fun W hW => by
        have := any_any A2 n2 c2 96 #[] p badPulse W B2 hW (by omega) enters_shcost1 (fun x _ => shcost1_any x W)
        rw [ha] at this
        exact this
      have hnn : ((n2 : Int) != (n2 : Int)) = false := by simp
      clear h1 h2 h0 hb hl1 hl2 he hT ha
      go_enter Tryd.func40, Tryd.ntmps40
      go_wp2_with fail
      refine (HC.out _ H1.out).mono ?_
      rintro e wk ⟨rfl, rfl⟩
      go_wp2_with fail
      refine (HA.out _ H2.out).mono ?_
      rintro e wk ⟨rfl, rfl⟩
      go_wp2_with fail
      go_ret2
      exact ⟨rfl, rfl⟩
    · have he : costErr s p = 3 := by unfold costErr; rw [if_neg (by omega), if_pos (by omega)]
      rw [he, errV_ne (by decide)]
      have hnn : ((n2 : Int) != (n1 : Int)) = true := by simp; omega
      clear h1 h2 h0 hb hl1 hl2 he hT hl
      go_enter Tryd.func40, Tryd.ntmps40
      go_wp2_with fail
      refine (HC.out _ H1.out).mono ?_
      rintro e wk ⟨rfl, rfl⟩
      go_wp2_with fail
      go_ret2
      exact ⟨rfl, rfl⟩
  · have he : costErr s p = Ph.bandErr s := by unfold costErr; rw [if_pos hb]
    rw [he]
    have HC := Lib.hid fun W hW => bandCheck_no A1 n1 c1 s W B1 hW hn1 hb
    have hev := errV_ne hb
    have H1 := Lib.hid h1
    clear h1 h2 h0 hb he
    go_enter Tryd.func40, Tryd.ntmps40
    go_wp2_with fail
    refine (HC.out _ H1.out).mono ?_
    rintro e wk ⟨rfl, rfl⟩
    go_wp2_with fail
    go_ret2
    exact ⟨ret_two rfl hev.symm, rfl⟩
end Go.Proofs.YtbllboajhdmnhaaDoor
