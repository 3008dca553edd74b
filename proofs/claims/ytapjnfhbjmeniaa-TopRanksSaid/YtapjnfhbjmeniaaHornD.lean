/- Walks: signs of bytes, by the program (chapter 11). -/
import Derived.Test.YtapjnfhbjmeniaaHornS
namespace Go.Proofs.Ytapjnfhbjmeniaa
open Go.RowKit

theorem RdB.drop1 {w : World} {B n c b off : Nat} {l : List Nat} (h : RdB w B (some ⟨b, off, none⟩) n l) (hn : 1 ≤ n) (hc : n ≤ c) :
    (c = 1 → RdB w B (some ⟨b, off, none⟩) (n - 1) (l.drop 1)) ∧ (c ≠ 1 → RdB w B (some ⟨b, off + 1, none⟩) (n - 1) (l.drop 1)) := by
  have := h.drop_if (k := 1) (cap := c) hn hc
  constructor
  · intro e; rwa [if_pos e] at this
  · intro e; rw [if_neg e] at this; simpa [Addr.add] using this
/-- Signs that were heard, and whether there are such. -/
def HeardP (R : Option (List Int × Nat × List Nat)) (w : World) (e : Ending) (w' : World) : Prop :=
  ∃ A n c, e = .returned (.tuple #[.slice A n c, .bool R.isSome]) ∧ w'.ownsRow w.heap.size 3 1 (.slice A n c) n (ivals (R.elim [] (·.1))) ∧ Below w.heap.size w w'
set_option maxRecDepth 100000 in
set_option maxHeartbeats 8000000 in
theorem heard_any (A1 : Option Addr) (n1 c1 : Nat) (f : List Int) (A2 : Option Addr) (n2 c2 : Nat) (bs : List Nat) (M : Nat) (w : World) (B : Nat) (h1 : RdI w B A1 n1 f) (h2 : RdB w B A2 n2 bs) (hB : B ≤ w.heap.size) (hc2 : n2 ≤ c2) (hf : Ph.sharesOk f) (hM : M ≤ 60) (hbs : ∀ x ∈ bs, x < 256) :
    Calls Try.prog 49 #[.slice A1 n1 c1, .slice A2 n2 c2, .int .i64 M] w (HeardP (Ph.heard f bs M) w) := by
  have hl1 := h1.len
  have hl2 := h2.len
  have HL1 := Lib.hid hl1
  have HF := Lib.hid hf
  have H1 := Lib.hid h1
  by_cases h3 : n2 < 3
  · rw [Ph.heard_short (by omega)]
    have h3' : (n2 : Int) < 3 := by omega
    clear h1 h2 hl1 hl2 hf hbs
    go_enter Try.func49, Try.ntmps49
    go_wp2_with fail
    go_ret2
    exact ⟨none, 0, 0, rfl, own_nil _ _ _, Below.refl _ _⟩
  · obtain ⟨y0, y1, y2, bs', hb⟩ : ∃ y0 y1 y2 bs', bs = y0 :: y1 :: y2 :: bs' := by
      match bs, hl2 with
      | [], h => simp at h; omega
      | [_], h => simp at h; omega
      | [_, _], h => simp at h; omega
      | a :: b :: c :: r, _ => exact ⟨a, b, c, r, rfl⟩
    subst hb
    have hy0 := hbs y0 (by simp)
    have hy1 := hbs y1 (by simp)
    have hy2 := hbs y2 (by simp)
    obtain ⟨b2, o2, hA2, hb2B, d0⟩ := h2.at_ (k := 0) (by omega)
    obtain ⟨q1, p1, hA2', _, d1⟩ := h2.at_ (k := 1) (by omega)
    obtain ⟨q2, p2, hA2'', _, d2⟩ := h2.at_ (k := 2) (by omega)
    rw [hA2] at hA2' hA2''
    obtain ⟨rfl, rfl⟩ : b2 = q1 ∧ o2 = p1 := by simpa using hA2'
    obtain ⟨rfl, rfl⟩ : b2 = q2 ∧ o2 = p2 := by simpa using hA2''
    subst hA2
    simp at d0 d1 d2
    have HBS : Hid (∀ x ∈ bs', x < 256) := Lib.hid fun x hx => hbs x (by simp [hx])
    have hD := (h2.drop_if (k := 3) (cap := c2) (by omega) hc2)
    simp only [List.drop_succ_cons, List.drop_zero] at hD
    obtain ⟨X, hX⟩ : ∃ X, X = (y0 * 256 + y1) * 256 + y2 := ⟨_, rfl⟩
    have hXb : X < 16777216 := by omega
    have HRES : Hid (Ph.heard f (y0 :: y1 :: y2 :: bs') M = Ph.dec f M X bs') := Lib.hid (by rw [hX]; rfl)
    obtain ⟨R, hR⟩ : ∃ R, R = Ph.heard f (y0 :: y1 :: y2 :: bs') M := ⟨_, rfl⟩
    rw [← hR] at HRES ⊢
    have HBG := Lib.hid fun W hW hBW => begins_any A1 n1 c1 f W B hW hBW hf
    have H2 := Lib.hid h2
    have HD := Lib.hid hD
    have HX := Lib.hid hX
    have hf1 : 1 ≤ n1 ∧ n1 ≤ 40 := by have := hf.1; have := hf.2.1; omega
    have h3' : ¬ (n2 : Int) < 3 := by omega
    clear h1 h2 hl1 hl2 hf hbs hR hD hX hA2' hA2''
    go_enter Try.func49, Try.ntmps49
    go_wp2_with fail
    refine (HBG.out _ H1.out hB).mono ?_
    rintro e w2 ⟨A5, c5, rfl, ho5, hb2⟩
    rw [begins_length, HL1.out] at ho5 ⊢
    have HO5 := Lib.hid ho5
    have HB2 := Lib.hid hb2
    have e0 := (hb2.cell (p := ⟨b2, o2, none⟩) (by show b2 < _; omega)).trans d0
    have e1 := (hb2.cell (p := ⟨b2, o2 + 1, none⟩) (by show b2 < _; omega)).trans d1
    have e2 := (hb2.cell (p := ⟨b2, o2 + 2, none⟩) (by show b2 < _; omega)).trans d2
    have HD2 := Lib.hid (HD.out.below (hb2.mono hB))
    have H1' := Lib.hid (H1.out.below (hb2.mono hB))
    have m1 : IntKind.i64.wrap ((y0 : Int) * 256) = (y0 : Int) * 256 := IntWalk.i64_in _ (by omega)
    have m2 : IntKind.i64.wrap ((y0 : Int) * 256 + (y1 : Int)) = (y0 : Int) * 256 + (y1 : Int) := IntWalk.i64_in _ (by omega)
    have m3 : IntKind.i64.wrap (((y0 : Int) * 256 + (y1 : Int)) * 256) = ((y0 : Int) * 256 + (y1 : Int)) * 256 := IntWalk.i64_in _ (by omega)
    have m4 : IntKind.i64.wrap (((y0 : Int) * 256 + (y1 : Int)) * 256 + (y2 : Int)) = ((y0 : Int) * 256 + (y1 : Int)) * 256 + (y2 : Int) := IntWalk.i64_in _ (by omega)
    have m5 : IntKind.i64.wrap (y0 : Int) = (y0 : Int) := IntWalk.i64_in _ (by omega)
    have m6 : IntKind.i64.wrap (y1 : Int) = (y1 : Int) := IntWalk.i64_in _ (by omega)
    have m7 : IntKind.i64.wrap (y2 : Int) = (y2 : Int) := IntWalk.i64_in _ (by omega)
    have g1 : (0 : Int) < (n2 : Int) := by omega
    have g2 : (1 : Int) < (n2 : Int) := by omega
    have g3 : (2 : Int) < (n2 : Int) := by omega
    have g4 : (3 : Int) ≤ (c2 : Int) := by omega
    clear ho5 hb2 HBG d0 d1 d2
    go_wp2_with fail
    go_quiet (fail)
    clear m1 m2 m3 m4 m5 m6 m7 e0 e1 e2
    have HXI : Hid (((y0 : Int) * 256 + (y1 : Int)) * 256 + (y2 : Int) = (X : Int)) := Lib.hid (by have := HX.out; omega)
    rw [HXI.out]
    have H1W : Hid (RdI (w2.drewN nq) B A1 n1 f) := Lib.hid H1'.out
    have HOW : Hid ((w2.drewN nq).ownsRow w.heap.size 3 1 (.slice A5 n1 c5) n1 (ivals (begins f))) := Lib.hid HO5.out
    have HBW0 : Hid (Below w.heap.size w (w2.drewN nq)) := Lib.hid (below_drewN' HB2.out nq)
    have HD3 : Hid (RdB (w2.drewN nq) B (if c2 = 3 then some ⟨b2, o2, none⟩ else some ⟨b2, o2 + 3, none⟩) (n2 - 3) bs') := Lib.hid (by
      have := HD2.out
      by_cases e : c2 = 3
      · rw [if_pos e] at this ⊢; exact this
      · rw [if_neg e] at this ⊢
        exact (by simpa [Addr.add] using this : RdB w2 B (some ⟨b2, o2 + 3, none⟩) (n2 - 3) bs'))
    obtain ⟨W2, hW2⟩ : ∃ W2, W2 = w2.drewN nq := ⟨_, rfl⟩
    rw [← hW2] at H1W HOW HBW0 HD3 ⊢
    clear hW2 HXI HX HD HD2 H2 H1' HO5 HB2 H1
    have hnc : n2 - 3 ≤ c2 - 3 := by omega
    by_cases hcc : c2 = 3
    · rw [if_pos hcc] at HD3
      subst hcc
      obtain rfl : n2 = 3 := by omega
      go_wp2_with fail
      go_loopw [1, 9, 10, 11, 12, 37] (fun sb sx so _ _ i wr => ∃ (k : Nat) (A' : Option Addr) (n' c' : Nat) (cs : List Nat) (X' : Nat) (o : List Int) (A : Option Addr) (c : Nat), k ≤ M ∧ i = .int .i64 k ∧ sb = .slice A' n' c' ∧ n' ≤ c' ∧ sx = .int .i64 X' ∧ X' < 16777216 ∧ so = .slice A k c ∧ Hid (RdB wr B A' n' cs) ∧ Hid (wr.ownsRow W2.heap.size 3 1 (.slice A k c) k (ivals o)) ∧ Hid (R = (Ph.dec f (M - k) X' cs).map fun q => (o ++ q.1, q.2)) ∧ Hid (∀ x ∈ cs, x < 256) ∧ Hid (Below W2.heap.size W2 wr)) (fun _ _ _ _ _ i _ => M - (intOf i).toNat)
      case atStart => exact ⟨0, _, _, _, bs', X, [], none, 0, Nat.zero_le _, rfl, rfl, by omega, rfl, hXb, rfl, HD3, Lib.hid (own_nil _ _ _), Lib.hid (by rw [HRES.out]; simp), HBS, Lib.hid (Below.refl _ _)⟩
      case round =>
        obtain ⟨k, A', n', c', cs, X', o, A, c, hk, rfl, rfl, hnc', rfl, hXb', rfl, HB', HO', HR', HC', HBW⟩ := hrel
        clear HD3 HRES HBS hXb
        by_cases hlt : k < M
        · have hlt' : (k : Int) < (M : Int) := by omega
          obtain ⟨m, hm⟩ : ∃ m, M - k = m + 1 := ⟨M - k - 1, by omega⟩
          have hr := HR'.out
          rw [hm, Ph.dec_succ] at hr
          have hds := Ph.dn_snd HF.out X'
          have hdg := Ph.dn_good HF.out X'
          have hgb := Ph.good_bd HF.out hdg.1
          have hSl := hdg.1.2.1
          rw [HL1.out] at hSl
          have HAT := Lib.hid fun W hW => sat_any A1 n1 c1 f ((X' % 256 : Nat) : Int) W B hW HF.out (by omega)
          have hat : Ph.atL f ((X' % 256 : Nat) : Int) = (Ph.dn f X').1 := rfl
          rw [hat] at HAT
          rw [Int.toNat_natCast] at hgb
          obtain ⟨S, hS⟩ : ∃ S, S = (Ph.dn f X').1 := ⟨_, rfl⟩
          rw [← hS] at hr hds hdg hgb hSl HAT
          have hSn : S < n1 := by omega
          obtain ⟨Y, hY⟩ : ∃ Y, Y = (Ph.dn f X').2 := ⟨_, rfl⟩
          rw [← hY] at hr hds
          obtain ⟨q1, p1, rfl, _, f0⟩ := (H1W.out.below (HBW.out.mono (Nat.le_trans hB HBW0.out.size))).at_ hSn
          have hro := RdI.own HOW.out
          obtain ⟨q5, p5, hA5, hq5, f5'⟩ := hro.at_ hSn
          have f5 := (HBW.out.cell (p := ⟨q5, p5 + S, none⟩) hq5).trans f5'
          have hfx : f.getD S 0 = (Ph.sh f S : Nat) := by unfold Ph.sh; have := (HF.out.2.2.1 _ (Ph.getD_mem (l := f) (i := S) (by rw [HL1.out]; exact hSn))).1; omega
          have hsx : (begins f).getD S 0 = (Ph.st f S : Nat) := by
            rw [begins_getD f S (by rw [HL1.out]; exact hSn)]
            unfold Ph.st; have := (pre_bd HF.out S).1; omega
          rw [hfx] at f0
          rw [hsx] at f5
          obtain ⟨F, hF⟩ : ∃ F, F = Ph.sh f S := ⟨_, rfl⟩
          obtain ⟨T, hT⟩ : ∃ T, T = Ph.st f S := ⟨_, rfl⟩
          rw [← hF] at f0 hgb hds
          rw [← hT] at f5 hgb hdg hds
          subst hA5
          have HR2 := Lib.hid hr
          have hTle := hdg.2
          have k1 : ((X' : Int)).tmod 256 = ((X' % 256 : Nat) : Int) := by rw [Int.tmod_eq_emod_of_nonneg (by omega)]; rfl
          have k2 : (X' : Int) % 256 = ((X' % 256 : Nat) : Int) := by omega
          have k3 : ((X' : Int)).tdiv 256 = ((X' / 256 : Nat) : Int) := by rw [Int.tdiv_eq_ediv_of_nonneg (by omega)]; rfl
          have k4 : (X' : Int) / 256 = ((X' / 256 : Nat) : Int) := by omega
          obtain ⟨a1, ha1⟩ : ∃ a, a = X' % 256 := ⟨_, rfl⟩
          obtain ⟨a2, ha2⟩ : ∃ a, a = X' / 256 := ⟨_, rfl⟩
          rw [← ha1] at k1 k2 HAT hds hTle
          rw [← ha2] at k3 k4 hds
          have hpr : F * a2 ≤ 256 * a2 := Nat.mul_le_mul_right _ hgb.2.1
          obtain ⟨P, hP⟩ : ∃ P, P = F * a2 := ⟨_, rfl⟩
          have hPi : (F : Int) * (a2 : Int) = (P : Int) := by rw [hP]; simp
          rw [← hP] at hds hpr
          have ha2b : a2 ≤ 65536 := by omega
          have ha1b : a1 < 256 := by omega
          have hYi : (P : Int) + (a1 : Int) - (T : Int) = (Y : Int) := by omega
          have k5 : IntKind.i64.wrap ((F : Int) * (a2 : Int)) = (P : Int) := by rw [hPi]; exact IntWalk.i64_in _ (by omega)
          have k6 : IntKind.i64.wrap ((P : Int) + (a1 : Int)) = (P : Int) + (a1 : Int) := IntWalk.i64_in _ (by omega)
          have k7 : IntKind.i64.wrap ((P : Int) + (a1 : Int) - (T : Int)) = (Y : Int) := by rw [hYi]; exact IntWalk.i64_in _ (by omega)
          have hYb : Y < 16777216 := by omega
          have hS0 : (0 : Int) ≤ (S : Int) := by omega
          have hS1 : (S : Int) < (n1 : Int) := by omega
          clear hr hds hdg hgb hSl hat hS hY hro f5' hfx hsx hF hT hTle ha1 ha2 hpr hP hPi hYi
          go_wp2_with fail
          refine (HAT.out _ (H1W.out.below (HBW.out.mono (Nat.le_trans hB HBW0.out.size)))).mono ?_
          rintro e wk ⟨rfl, rfl⟩
          go_wp2_with fail
          go_quiet (fail)
          clear k1 k2 k3 k4 k5 k6 k7 f0 f5
          go_wp2_with fail
          obtain ⟨W4, hW4⟩ : ∃ W4, W4 = wr.drewN nq := ⟨_, rfl⟩
          have HB4 : Hid (RdB W4 B A' n' cs) := Lib.hid (by rw [hW4]; exact HB'.out)
          have HO4 : Hid (W4.ownsRow W2.heap.size 3 1 (.slice A k c) k (ivals o)) := Lib.hid (by rw [hW4]; exact HO'.out)
          have HBW4 : Hid (Below W2.heap.size W2 W4) := Lib.hid (by rw [hW4]; exact below_drewN' HBW.out nq)
          rw [← hW4]
          clear hW4 HB' HO' HBW HAT HR'
          go_loop [1, 9] (fun sb sx => ∃ (n'' c'' : Nat) (A'' : Option Addr) (ds : List Nat) (Z : Nat), sb = .slice A'' n'' c'' ∧ n'' ≤ c'' ∧ sx = .int .i64 Z ∧ Z < 16777216 ∧ Hid (RdB W4 B A'' n'' ds) ∧ Hid (Ph.fill Y cs = Ph.fill Z ds) ∧ Hid (∀ x ∈ ds, x < 256)) (fun sb _ => match sb with | .slice _ n _ => n | _ => 0)
          case atStart => exact ⟨n', c', A', cs, Y, rfl, hnc', rfl, hYb, HB4, Lib.hid rfl, HC'⟩
          case round =>
            obtain ⟨n'', c'', A'', ds, Z, rfl, hnc2, rfl, hZb, HD4, HFL, HDS⟩ := hrel
            clear HB4 HC'
            by_cases hz : Z < 65536
            · have hz' : (Z : Int) < 65536 := by omega
              rcases Nat.eq_zero_or_pos n'' with h0 | h0
              · subst h0
                have hds0 : ds = [] := List.length_eq_zero_iff.1 HD4.out.len
                have HRN : Hid (R = none) := Lib.hid (by rw [HR2.out, HFL.out, hds0, Ph.fill_none hz]; rfl)
                clear hds0
                go_wp2_with fail
                go_ret2
                exact ⟨none, 0, 0, ret_two rfl (by rw [HRN.out]; rfl), by rw [HRN.out]; exact own_nil _ _ _, below_on HBW0.out HBW4.out⟩
              · obtain ⟨b6, o6, hA6, _, f6⟩ := HD4.out.at_ h0
                subst hA6
                obtain ⟨y, ds', hy⟩ : ∃ y ds', ds = y :: ds' := by
                  cases ds with
                  | nil => have := HD4.out.len; simp at this; omega
                  | cons a l => exact ⟨a, l, rfl⟩
                subst hy
                have hyb := HDS.out y (by simp)
                have HDS2 : Hid (∀ x ∈ ds', x < 256) := Lib.hid fun x hx => HDS.out x (by simp [hx])
                have HFL2 : Hid (Ph.fill Y cs = Ph.fill (Z * 256 + y) ds') := Lib.hid (by rw [HFL.out, Ph.fill_cons hz])
                have hdr := HD4.out.drop1 (c := c'') (by omega) hnc2
                simp only [List.drop_succ_cons, List.drop_zero] at hdr
                simp at f6
                have hn0 : ¬ n'' = 0 := by omega
                have hn0' : (0 : Int) < (n'' : Int) := by omega
                have hc1 : (1 : Int) ≤ (c'' : Int) := by omega
                have j1 : ((n'' : Int) == 0) = false := by simp; omega
                by_cases hcc2 : c'' = 1
                · have HD5 := Lib.hid (hdr.1 hcc2)
                  subst hcc2
                  obtain rfl : n'' = 1 := by omega
                  clear hdr HFL HDS hn0 HD4
                  go_wp2_with fail
                  go_round
                  case rel => exact ⟨_, _, _, ds', Z * 256 + y, rfl, by omega, by go_num, by omega, HD5, HFL2, HDS2⟩
                  case measure => simp
                · have HD5 := Lib.hid (hdr.2 hcc2)
                  clear hdr HFL HDS HD4
                  go_wp2_with fail
                  go_round
                  case rel => exact ⟨_, _, _, ds', Z * 256 + y, rfl, by omega, by go_num, by omega, HD5, HFL2, HDS2⟩
                  case measure => simp; omega
            · have hz' : ¬ (Z : Int) < 65536 := by omega
              have HR3 : Hid (R = (Ph.dec f (M - (k + 1)) Z ds).map fun q => ((o ++ [(S : Int)]) ++ q.1, q.2)) := Lib.hid (by
                rw [HR2.out, HFL.out, Ph.fill_done (by omega), show M - (k + 1) = m by omega]
                simp only [Option.bind_some, Option.map_map, Function.comp_def, List.append_assoc, List.singleton_append])
              go_wp2_with (at_builtin; refine wpList_push _ (by rfl) _ _ (by rfl) W2 W2.heap.size A k c o (S : Int) HO4.out HBW4.out HBW4.out.size (by omega) (by rfl) (by rfl) ?_; intro g9 cap w9 ho9 hb9)
              have HO9 := Lib.hid ho9
              have HB9 := Lib.hid hb9
              have HD9 : Hid (RdB w9 B A'' n'' ds) := Lib.hid (Rd.keep HD4.out fun p hp => (HB9.out.cell (Nat.lt_of_lt_of_le hp (Nat.le_trans hB HBW0.out.size))).trans (HBW4.out.cell (Nat.lt_of_lt_of_le hp (Nat.le_trans hB HBW0.out.size))).symm)
              clear ho9 hb9 HO4 HD4
              go_wp2_with fail
              go_roundw
              case rel => exact ⟨_, _, _, _, _, _, _, _, ⟨k + 1, by omega, rfl, A'', n'', c'', rfl, hnc2, ds, Z, rfl, hZb, o ++ [(S : Int)], some ⟨g9, 0, none⟩, cap, rfl, HD9, HO9, HR3, HDS, Lib.hid trivial⟩, rfl, rfl, rfl, rfl, rfl, rfl, rfl, by go_num⟩
              case measure => simp [intOf]; omega
        · obtain rfl : k = M := by omega
          have hr := HR'.out
          rw [Nat.sub_self] at hr
          have HR2 : Hid (R = some (o ++ [], X', cs)) := Lib.hid hr
          clear hr
          go_wp2_with fail
          go_ret2
          refine ⟨A, k, c, ret_two rfl (by rw [HR2.out]; rfl), ?_, below_on HBW0.out HBW.out⟩
          rw [HR2.out]
          simpa using own_more HO'.out HBW0.out.size
    · rw [if_neg hcc] at HD3
      go_wp2_with fail
      go_loopw [1, 9, 10, 11, 12, 37] (fun sb sx so _ _ i wr => ∃ (k : Nat) (A' : Option Addr) (n' c' : Nat) (cs : List Nat) (X' : Nat) (o : List Int) (A : Option Addr) (c : Nat), k ≤ M ∧ i = .int .i64 k ∧ sb = .slice A' n' c' ∧ n' ≤ c' ∧ sx = .int .i64 X' ∧ X' < 16777216 ∧ so = .slice A k c ∧ Hid (RdB wr B A' n' cs) ∧ Hid (wr.ownsRow W2.heap.size 3 1 (.slice A k c) k (ivals o)) ∧ Hid (R = (Ph.dec f (M - k) X' cs).map fun q => (o ++ q.1, q.2)) ∧ Hid (∀ x ∈ cs, x < 256) ∧ Hid (Below W2.heap.size W2 wr)) (fun _ _ _ _ _ i _ => M - (intOf i).toNat)
      case atStart => exact ⟨0, _, _, _, bs', X, [], none, 0, Nat.zero_le _, rfl, rfl, by omega, rfl, hXb, rfl, HD3, Lib.hid (own_nil _ _ _), Lib.hid (by rw [HRES.out]; simp), HBS, Lib.hid (Below.refl _ _)⟩
      case round =>
        obtain ⟨k, A', n', c', cs, X', o, A, c, hk, rfl, rfl, hnc', rfl, hXb', rfl, HB', HO', HR', HC', HBW⟩ := hrel
        clear HD3 HRES HBS hXb
        by_cases hlt : k < M
        · have hlt' : (k : Int) < (M : Int) := by omega
          obtain ⟨m, hm⟩ : ∃ m, M - k = m + 1 := ⟨M - k - 1, by omega⟩
          have hr := HR'.out
          rw [hm, Ph.dec_succ] at hr
          have hds := Ph.dn_snd HF.out X'
          have hdg := Ph.dn_good HF.out X'
          have hgb := Ph.good_bd HF.out hdg.1
          have hSl := hdg.1.2.1
          rw [HL1.out] at hSl
          have HAT := Lib.hid fun W hW => sat_any A1 n1 c1 f ((X' % 256 : Nat) : Int) W B hW HF.out (by omega)
          have hat : Ph.atL f ((X' % 256 : Nat) : Int) = (Ph.dn f X').1 := rfl
          rw [hat] at HAT
          rw [Int.toNat_natCast] at hgb
          obtain ⟨S, hS⟩ : ∃ S, S = (Ph.dn f X').1 := ⟨_, rfl⟩
          rw [← hS] at hr hds hdg hgb hSl HAT
          have hSn : S < n1 := by omega
          obtain ⟨Y, hY⟩ : ∃ Y, Y = (Ph.dn f X').2 := ⟨_, rfl⟩
          rw [← hY] at hr hds
          obtain ⟨q1, p1, rfl, _, f0⟩ := (H1W.out.below (HBW.out.mono (Nat.le_trans hB HBW0.out.size))).at_ hSn
          have hro := RdI.own HOW.out
          obtain ⟨q5, p5, hA5, hq5, f5'⟩ := hro.at_ hSn
          have f5 := (HBW.out.cell (p := ⟨q5, p5 + S, none⟩) hq5).trans f5'
          have hfx : f.getD S 0 = (Ph.sh f S : Nat) := by unfold Ph.sh; have := (HF.out.2.2.1 _ (Ph.getD_mem (l := f) (i := S) (by rw [HL1.out]; exact hSn))).1; omega
          have hsx : (begins f).getD S 0 = (Ph.st f S : Nat) := by
            rw [begins_getD f S (by rw [HL1.out]; exact hSn)]
            unfold Ph.st; have := (pre_bd HF.out S).1; omega
          rw [hfx] at f0
          rw [hsx] at f5
          obtain ⟨F, hF⟩ : ∃ F, F = Ph.sh f S := ⟨_, rfl⟩
          obtain ⟨T, hT⟩ : ∃ T, T = Ph.st f S := ⟨_, rfl⟩
          rw [← hF] at f0 hgb hds
          rw [← hT] at f5 hgb hdg hds
          subst hA5
          have HR2 := Lib.hid hr
          have hTle := hdg.2
          have k1 : ((X' : Int)).tmod 256 = ((X' % 256 : Nat) : Int) := by rw [Int.tmod_eq_emod_of_nonneg (by omega)]; rfl
          have k2 : (X' : Int) % 256 = ((X' % 256 : Nat) : Int) := by omega
          have k3 : ((X' : Int)).tdiv 256 = ((X' / 256 : Nat) : Int) := by rw [Int.tdiv_eq_ediv_of_nonneg (by omega)]; rfl
          have k4 : (X' : Int) / 256 = ((X' / 256 : Nat) : Int) := by omega
          obtain ⟨a1, ha1⟩ : ∃ a, a = X' % 256 := ⟨_, rfl⟩
          obtain ⟨a2, ha2⟩ : ∃ a, a = X' / 256 := ⟨_, rfl⟩
          rw [← ha1] at k1 k2 HAT hds hTle
          rw [← ha2] at k3 k4 hds
          have hpr : F * a2 ≤ 256 * a2 := Nat.mul_le_mul_right _ hgb.2.1
          obtain ⟨P, hP⟩ : ∃ P, P = F * a2 := ⟨_, rfl⟩
          have hPi : (F : Int) * (a2 : Int) = (P : Int) := by rw [hP]; simp
          rw [← hP] at hds hpr
          have ha2b : a2 ≤ 65536 := by omega
          have ha1b : a1 < 256 := by omega
          have hYi : (P : Int) + (a1 : Int) - (T : Int) = (Y : Int) := by omega
          have k5 : IntKind.i64.wrap ((F : Int) * (a2 : Int)) = (P : Int) := by rw [hPi]; exact IntWalk.i64_in _ (by omega)
          have k6 : IntKind.i64.wrap ((P : Int) + (a1 : Int)) = (P : Int) + (a1 : Int) := IntWalk.i64_in _ (by omega)
          have k7 : IntKind.i64.wrap ((P : Int) + (a1 : Int) - (T : Int)) = (Y : Int) := by rw [hYi]; exact IntWalk.i64_in _ (by omega)
          have hYb : Y < 16777216 := by omega
          have hS0 : (0 : Int) ≤ (S : Int) := by omega
          have hS1 : (S : Int) < (n1 : Int) := by omega
          clear hr hds hdg hgb hSl hat hS hY hro f5' hfx hsx hF hT hTle ha1 ha2 hpr hP hPi hYi
          go_wp2_with fail
          refine (HAT.out _ (H1W.out.below (HBW.out.mono (Nat.le_trans hB HBW0.out.size)))).mono ?_
          rintro e wk ⟨rfl, rfl⟩
          go_wp2_with fail
          go_quiet (fail)
          clear k1 k2 k3 k4 k5 k6 k7 f0 f5
          go_wp2_with fail
          obtain ⟨W4, hW4⟩ : ∃ W4, W4 = wr.drewN nq := ⟨_, rfl⟩
          have HB4 : Hid (RdB W4 B A' n' cs) := Lib.hid (by rw [hW4]; exact HB'.out)
          have HO4 : Hid (W4.ownsRow W2.heap.size 3 1 (.slice A k c) k (ivals o)) := Lib.hid (by rw [hW4]; exact HO'.out)
          have HBW4 : Hid (Below W2.heap.size W2 W4) := Lib.hid (by rw [hW4]; exact below_drewN' HBW.out nq)
          rw [← hW4]
          clear hW4 HB' HO' HBW HAT HR'
          go_loop [1, 9] (fun sb sx => ∃ (n'' c'' : Nat) (A'' : Option Addr) (ds : List Nat) (Z : Nat), sb = .slice A'' n'' c'' ∧ n'' ≤ c'' ∧ sx = .int .i64 Z ∧ Z < 16777216 ∧ Hid (RdB W4 B A'' n'' ds) ∧ Hid (Ph.fill Y cs = Ph.fill Z ds) ∧ Hid (∀ x ∈ ds, x < 256)) (fun sb _ => match sb with | .slice _ n _ => n | _ => 0)
          case atStart => exact ⟨n', c', A', cs, Y, rfl, hnc', rfl, hYb, HB4, Lib.hid rfl, HC'⟩
          case round =>
            obtain ⟨n'', c'', A'', ds, Z, rfl, hnc2, rfl, hZb, HD4, HFL, HDS⟩ := hrel
            clear HB4 HC'
            by_cases hz : Z < 65536
            · have hz' : (Z : Int) < 65536 := by omega
              rcases Nat.eq_zero_or_pos n'' with h0 | h0
              · subst h0
                have hds0 : ds = [] := List.length_eq_zero_iff.1 HD4.out.len
                have HRN : Hid (R = none) := Lib.hid (by rw [HR2.out, HFL.out, hds0, Ph.fill_none hz]; rfl)
                clear hds0
                go_wp2_with fail
                go_ret2
                exact ⟨none, 0, 0, ret_two rfl (by rw [HRN.out]; rfl), by rw [HRN.out]; exact own_nil _ _ _, below_on HBW0.out HBW4.out⟩
              · obtain ⟨b6, o6, hA6, _, f6⟩ := HD4.out.at_ h0
                subst hA6
                obtain ⟨y, ds', hy⟩ : ∃ y ds', ds = y :: ds' := by
                  cases ds with
                  | nil => have := HD4.out.len; simp at this; omega
                  | cons a l => exact ⟨a, l, rfl⟩
                subst hy
                have hyb := HDS.out y (by simp)
                have HDS2 : Hid (∀ x ∈ ds', x < 256) := Lib.hid fun x hx => HDS.out x (by simp [hx])
                have HFL2 : Hid (Ph.fill Y cs = Ph.fill (Z * 256 + y) ds') := Lib.hid (by rw [HFL.out, Ph.fill_cons hz])
                have hdr := HD4.out.drop1 (c := c'') (by omega) hnc2
                simp only [List.drop_succ_cons, List.drop_zero] at hdr
                simp at f6
                have hn0 : ¬ n'' = 0 := by omega
                have hn0' : (0 : Int) < (n'' : Int) := by omega
                have hc1 : (1 : Int) ≤ (c'' : Int) := by omega
                have j1 : ((n'' : Int) == 0) = false := by simp; omega
                by_cases hcc2 : c'' = 1
                · have HD5 := Lib.hid (hdr.1 hcc2)
                  subst hcc2
                  obtain rfl : n'' = 1 := by omega
                  clear hdr HFL HDS hn0 HD4
                  go_wp2_with fail
                  go_round
                  case rel => exact ⟨_, _, _, ds', Z * 256 + y, rfl, by omega, by go_num, by omega, HD5, HFL2, HDS2⟩
                  case measure => simp
                · have HD5 := Lib.hid (hdr.2 hcc2)
                  clear hdr HFL HDS HD4
                  go_wp2_with fail
                  go_round
                  case rel => exact ⟨_, _, _, ds', Z * 256 + y, rfl, by omega, by go_num, by omega, HD5, HFL2, HDS2⟩
                  case measure => simp; omega
            · have hz' : ¬ (Z : Int) < 65536 := by omega
              have HR3 : Hid (R = (Ph.dec f (M - (k + 1)) Z ds).map fun q => ((o ++ [(S : Int)]) ++ q.1, q.2)) := Lib.hid (by
                rw [HR2.out, HFL.out, Ph.fill_done (by omega), show M - (k + 1) = m by omega]
                simp only [Option.bind_some, Option.map_map, Function.comp_def, List.append_assoc, List.singleton_append])
              go_wp2_with (at_builtin; refine wpList_push _ (by rfl) _ _ (by rfl) W2 W2.heap.size A k c o (S : Int) HO4.out HBW4.out HBW4.out.size (by omega) (by rfl) (by rfl) ?_; intro g9 cap w9 ho9 hb9)
              have HO9 := Lib.hid ho9
              have HB9 := Lib.hid hb9
              have HD9 : Hid (RdB w9 B A'' n'' ds) := Lib.hid (Rd.keep HD4.out fun p hp => (HB9.out.cell (Nat.lt_of_lt_of_le hp (Nat.le_trans hB HBW0.out.size))).trans (HBW4.out.cell (Nat.lt_of_lt_of_le hp (Nat.le_trans hB HBW0.out.size))).symm)
              clear ho9 hb9 HO4 HD4
              go_wp2_with fail
              go_roundw
              case rel => exact ⟨k + 1, A'', n'', c'', ds, Z, o ++ [(S : Int)], some ⟨g9, 0, none⟩, cap, by omega, by go_num, rfl, hnc2, rfl, hZb, rfl, HD9, HO9, HR3, HDS, HB9⟩
              case measure => simp [intOf]; omega
        · obtain rfl : k = M := by omega
          have hr := HR'.out
          rw [Nat.sub_self] at hr
          have HR2 : Hid (R = some (o ++ [], X', cs)) := Lib.hid hr
          clear hr
          go_wp2_with fail
          go_ret2
          refine ⟨A, k, c, ret_two rfl (by rw [HR2.out]; rfl), ?_, below_on HBW0.out HBW.out⟩
          rw [HR2.out]
          simpa using own_more HO'.out HBW0.out.size
end Go.Proofs.Ytapjnfhbjmeniaa
/- Walks: signs as bytes, and bytes as signs, whatever comes (chapter 11). -/
namespace Go.Proofs.Ytapjnfhbjmeniaa
open Go.RowKit

/-- What is told of a row of signs. -/
def encS (f l : List Int) : ByteArray := if hornErr f l = 0 then strB (Ph.bytes f l) else ByteArray.empty
theorem hencode_any (A1 : Option Addr) (n1 c1 : Nat) (f : List Int) (A2 : Option Addr) (n2 c2 : Nat) (l : List Int) (w : World) (B : Nat) (h1 : RdI w B A1 n1 f) (h2 : RdI w B A2 n2 l) (hB : B ≤ w.heap.size) (hn1 : n1 ≤ 100000000000000) (hc2 : n2 ≤ c2) :
    Calls Try.prog 16 #[.slice A1 n1 c1, .slice A2 n2 c2] w fun e w' => e = .returned (.tuple #[.string (encS f l), errV (hornErr f l)]) ∧ Below w.heap.size w w' := by
  have HC := Lib.hid fun W hW1 hW2 => hcheck_any A1 n1 c1 f A2 n2 c2 l W B hW1 hW2 hn1
  have H1 := Lib.hid h1
  have H2 := Lib.hid h2
  by_cases h0 : hornErr f l = 0
  · obtain ⟨hf, hl60, hgood⟩ := hornErr_zero.1 h0
    have HS := Lib.hid fun W hW1 hW2 hBW => hsound_ok A1 n1 c1 f A2 n2 c2 l W B hW1 hW2 hBW hc2 hf hl60 hgood
    have he : Hid (encS f l = strB (Ph.bytes f l)) := Lib.hid (by unfold encS; rw [if_pos h0])
    rw [h0, errV_zero] at HC ⊢
    rw [he.out]
    clear h1 h2 h0 hf hl60 hgood
    go_enter Try.func16, Try.ntmps16
    go_wp2_with fail
    refine (HC.out _ H1.out H2.out).mono ?_
    rintro e wk ⟨rfl, rfl⟩
    go_wp2_with fail
    refine (HS.out _ H1.out H2.out hB).mono ?_
    rintro e w1 ⟨A, n, c, rfl, ho, hb⟩
    have hcv := conv_str (RdB.own ho) c
    have HB1 := Lib.hid hb
    clear ho hb
    go_wp2_with fail
    go_ret2
    exact ⟨rfl, HB1.out⟩
  · have he : Hid (encS f l = ByteArray.empty) := Lib.hid (by unfold encS; rw [if_neg h0])
    have hv := errV_ne h0
    rw [hv] at HC ⊢
    rw [he.out]
    clear h1 h2 h0 hv
    go_enter Try.func16, Try.ntmps16
    go_wp2_with fail
    refine (HC.out _ H1.out H2.out).mono ?_
    rintro e wk ⟨rfl, rfl⟩
    go_wp2_with fail
    go_ret2
    exact ⟨rfl, Below.refl _ _⟩
/-- The row of so many signs that bytes are, if they are one. -/
def decR (f : List Int) (b : List Nat) (m : Nat) : Option (List Int) := (Ph.heard f b m).bind fun q => if Ph.bytes f q.1 = b then some q.1 else none
/-- What is wrong with bytes. -/
def decE (f : List Int) (b : List Nat) (m : Int) : Int := if shErr f ≠ 0 then 3 else if m < 0 ∨ 60 < m then 1 else if (decR f b m.toNat).isSome = true then 0 else 2
def decL (f : List Int) (b : List Nat) (m : Int) : List Int := if decE f b m = 0 then (decR f b m.toNat).getD [] else []
theorem heard_good {f : List Int} (hf : Ph.sharesOk f) {b : List Nat} {n : Nat} {l : List Int} {x : Nat} {r : List Nat} (h : Ph.heard f b n = some (l, x, r)) : (∀ s ∈ l, Ph.good f s) ∧ l.length = n := by
  unfold Ph.heard at h
  split at h
  · exact ⟨Ph.dec_good hf h, Ph.dec_length h⟩
  · simp at h
theorem decE_zero {f : List Int} {b : List Nat} {m : Int} (h : decE f b m = 0) : shErr f = 0 ∧ 0 ≤ m ∧ m ≤ 60 ∧ ∃ l x r, Ph.heard f b m.toNat = some (l, x, r) ∧ Ph.bytes f l = b ∧ decL f b m = l ∧ l.length = m.toNat ∧ hornErr f l = 0 := by
  have h' := h
  unfold decE at h
  by_cases h0 : shErr f = 0
  · rw [if_neg (by omega)] at h
    by_cases hm : m < 0 ∨ 60 < m
    · rw [if_pos hm] at h; omega
    · rw [if_neg hm] at h
      cases hH : Ph.heard f b m.toNat with
      | none =>
        have hR : decR f b m.toNat = none := by unfold decR; rw [hH]; rfl
        rw [hR] at h; simp at h
      | some q =>
        obtain ⟨l, x, r⟩ := q
        by_cases hq : Ph.bytes f l = b
        · have hR : decR f b m.toNat = some l := by unfold decR; rw [hH]; simp [hq]
          obtain ⟨hg, hl⟩ := heard_good (shErr_zero.1 h0) hH
          exact ⟨h0, by omega, by omega, l, x, r, rfl, hq, by unfold decL; rw [if_pos h', hR]; rfl, hl, hornErr_zero.2 ⟨shErr_zero.1 h0, by omega, hg⟩⟩
        · have hR : decR f b m.toNat = none := by unfold decR; rw [hH]; simp [hq]
          rw [hR] at h; simp at h
  · rw [if_pos h0] at h; omega
theorem decE_bytes {f l : List Int} (h : hornErr f l = 0) : decE f (Ph.bytes f l) l.length = 0 ∧ decL f (Ph.bytes f l) l.length = l := by
  obtain ⟨hf, hl, hg⟩ := hornErr_zero.1 h
  have hs := shErr_zero.2 hf
  have hH := Ph.heard_bytes hf hg
  have hR : decR f (Ph.bytes f l) l.length = some l := by unfold decR; rw [hH]; simp
  have hE : decE f (Ph.bytes f l) l.length = 0 := by
    unfold decE; rw [if_neg (by omega), if_neg (by omega), Int.toNat_natCast, hR]; rfl
  exact ⟨hE, by unfold decL; rw [if_pos hE, Int.toNat_natCast, hR]; rfl⟩
theorem decE_more {f l : List Int} (h : hornErr f l = 0) (h60 : l.length < 60) (ha : ∀ x ∈ f, x ≠ 256) : decE f (Ph.bytes f l) ((l.length : Int) + 1) = 2 := by
  obtain ⟨hf, hl, hg⟩ := hornErr_zero.1 h
  have hs := shErr_zero.2 hf
  have hH := Ph.heard_more hf hg ha
  have hR : decR f (Ph.bytes f l) (l.length + 1) = none := by unfold decR; rw [hH]; rfl
  unfold decE
  rw [if_neg (by omega), if_neg (by omega), show ((l.length : Int) + 1).toNat = l.length + 1 by omega, hR]; rfl
set_option maxRecDepth 1000000 in
set_option maxHeartbeats 2000000 in
theorem hdecode_any (A1 : Option Addr) (n1 c1 : Nat) (f : List Int) (s : ByteArray) (m : Int) (w : World) (B : Nat) (h1 : RdI w B A1 n1 f) (hB : B ≤ w.heap.size) (hn1 : n1 ≤ 100000000000000) :
    Calls Try.prog 17 #[.slice A1 n1 c1, .string s, .int .i64 m] w fun e w' => ∃ A n c, e = .returned (.tuple #[.slice A n c, errV (decE f (bytesOf s) m)]) ∧ n ≤ 60 ∧ n ≤ c ∧ RdI w' w'.heap.size A n (decL f (bytesOf s) m) ∧ Below w.heap.size w w' := by
  have HC := Lib.hid fun W hW => shcheck_any A1 n1 c1 f W B hW hn1
  have H1 := Lib.hid h1
  by_cases h0 : shErr f = 0
  · by_cases hm : m < 0 ∨ 60 < m
    · have hE : decE f (bytesOf s) m = 1 := by unfold decE; rw [if_neg (by omega), if_pos hm]
      have hL : decL f (bytesOf s) m = [] := by unfold decL; rw [if_neg (by omega)]
      rw [hE, hL, errV_ne (by omega)]
      rw [h0, errV_zero] at HC
      have hc : m < 0 ∨ (¬ m < 0 ∧ 60 < m) := by omega
      clear h1 h0 hm hE hL
      rcases hc with h1 | ⟨h1, h2⟩
      all_goals
        go_enter Try.func17, Try.ntmps17
        go_wp2_with fail
        refine (HC.out _ H1.out).mono ?_
        rintro e wk ⟨rfl, rfl⟩
        go_wp2_with fail
        go_ret2
        exact ⟨none, 0, 0, rfl, by omega, by omega, RdI.nil, Below.refl _ _⟩
    · obtain ⟨M, rfl⟩ := Int.eq_ofNat_of_zero_le (by omega : 0 ≤ m)
      have hM : M ≤ 60 := by omega
      have hm1 : ¬ (M : Int) < 0 := by omega
      have hm2 : ¬ (60 : Int) < (M : Int) := by omega
      have hf := shErr_zero.1 h0
      obtain ⟨cc, oo, hcv, hcc, hrd⟩ := conv_bytes s w
      have HHD := Lib.hid (heard_any A1 n1 c1 f (some ⟨w.heap.size, 0, none⟩) s.size cc (bytesOf s) M (w.drew.alloc oo) (w.heap.size + 1) ((h1.alloc (w := w.drew) hB oo).more (by omega)) hrd (by simp) hcc hf hM (bytesOf_lt s))
      have hE : decE f (bytesOf s) M = if (decR f (bytesOf s) M).isSome = true then 0 else 2 := by
        unfold decE; rw [if_neg (by omega), if_neg hm]; simp
      have HBA : Hid (Below w.heap.size w (w.drew.alloc oo)) := Lib.hid ((Below.refl _ _).drew.alloc (Nat.le_refl _) oo)
      rw [h0, errV_zero] at HC
      unfold decL
      rw [Int.toNat_natCast]
      cases hH : Ph.heard f (bytesOf s) M with
      | none =>
        have hR : decR f (bytesOf s) M = none := by unfold decR; rw [hH]; rfl
        rw [hR] at hE
        simp at hE
        rw [hE, errV_ne (by omega)]
        rw [hH] at HHD
        clear h1 h0 hm hf hE hR hH hrd
        go_enter Try.func17, Try.ntmps17
        go_wp2_with fail
        refine (HC.out _ H1.out).mono ?_
        rintro e wk ⟨rfl, rfl⟩
        go_wp2_with fail
        refine HHD.out.mono ?_
        rintro e w2 ⟨A, n, c, rfl, ho, hb⟩
        have HB2 := Lib.hid (HBA.out.trans (hb.mono HBA.out.size))
        clear ho hb
        go_wp2_with fail
        go_ret2
        exact ⟨none, 0, 0, rfl, by omega, by omega, RdI.nil, HB2.out⟩
      | some q =>
        obtain ⟨l, x, r⟩ := q
        obtain ⟨hgd, hlen⟩ := heard_good hf hH
        rw [hH] at HHD
        have HSD := Lib.hid fun A n c W (hW1 : RdI W B A1 n1 f) (hW2 : RdI W W.heap.size A n l) hBW (hc : n ≤ c) => hsound_ok A1 n1 c1 f A n c l W W.heap.size (hW1.more hBW) hW2 (Nat.le_refl _) hc hf (by omega) hgd
        by_cases hq : Ph.bytes f l = bytesOf s
        · have hR : decR f (bytesOf s) M = some l := by unfold decR; rw [hH]; simp [hq]
          rw [hR] at hE ⊢
          simp at hE
          rw [hE, errV_zero]
          have hS : strB (Ph.bytes f l) = s := by rw [hq, strB_bytesOf]
          have HSS := Lib.hid hS
          have HLN := Lib.hid hlen
          clear h1 h0 hm hf hE hR hH hrd hq hS hgd hlen
          go_enter Try.func17, Try.ntmps17
          go_wp2_with fail
          refine (HC.out _ H1.out).mono ?_
          rintro e wk ⟨rfl, rfl⟩
          go_wp2_with fail
          refine HHD.out.mono ?_
          rintro e w2 ⟨A, n, c, rfl, ho, hb⟩
          have hnl : n = l.length := by have := own_len ho; rw [ivals_length] at this; exact this.symm
          have HB2 := Lib.hid (HBA.out.trans (hb.mono HBA.out.size))
          have hrl : RdI w2 w2.heap.size A n l := RdI.own ho
          have HRL := Lib.hid hrl
          have hnc := own_cap ho
          have HX := Lib.hid (HSD.out A n c w2 (H1.out.below (HB2.out.mono hB)) hrl (Nat.le_trans hB HB2.out.size) hnc)
          have hn60 : n ≤ 60 := by rw [hnl, HLN.out]; exact hM
          clear ho hb hrl hnl
          go_wp2_with fail
          refine HX.out.mono ?_
          rintro e w3 ⟨A3, n3, c3, rfl, ho3, hb3⟩
          have hcv3 := conv_str (RdB.own ho3) c3
          rw [HSS.out] at hcv3
          have HB3 := Lib.hid (below_on HB2.out hb3)
          have HRL3 := Lib.hid (HRL.out.on hb3)
          clear ho3 hb3
          go_wp2_with fail
          go_ret2
          exact ⟨A, n, c, rfl, hn60, hnc, HRL3.out, HB3.out⟩
        · have hR : decR f (bytesOf s) M = none := by unfold decR; rw [hH]; simp [hq]
          rw [hR] at hE ⊢
          simp at hE
          rw [hE, errV_ne (by omega)]
          have hS : ¬ strB (Ph.bytes f l) = s := fun e => hq (by
            have := congrArg bytesOf e
            rwa [bytesOf_strB (Ph.bytes_lt hf hgd)] at this)
          obtain ⟨S', hS'⟩ : ∃ S', S' = strB (Ph.bytes f l) := ⟨_, rfl⟩
          rw [← hS'] at hS
          have HSS := Lib.hid hS'
          have hsb := str_ne hS
          clear h1 h0 hm hf hE hR hH hrd hq hgd hlen hS'
          go_enter Try.func17, Try.ntmps17
          go_wp2_with fail
          refine (HC.out _ H1.out).mono ?_
          rintro e wk ⟨rfl, rfl⟩
          go_wp2_with fail
          refine HHD.out.mono ?_
          rintro e w2 ⟨A, n, c, rfl, ho, hb⟩
          have HB2 := Lib.hid (HBA.out.trans (hb.mono HBA.out.size))
          have hrl : RdI w2 w2.heap.size A n l := RdI.own ho
          have hnc := own_cap ho
          have HX := Lib.hid (HSD.out A n c w2 (H1.out.below (HB2.out.mono hB)) hrl (Nat.le_trans hB HB2.out.size) hnc)
          clear ho hb hrl
          go_wp2_with fail
          refine HX.out.mono ?_
          rintro e w3 ⟨A3, n3, c3, rfl, ho3, hb3⟩
          have hcv3 := conv_str (RdB.own ho3) c3
          rw [← HSS.out] at hcv3
          have HB3 := Lib.hid (below_on HB2.out hb3)
          clear ho3 hb3
          go_wp2_with fail
          go_ret2
          exact ⟨none, 0, 0, rfl, by omega, by omega, RdI.nil, HB3.out⟩
  · have hE : decE f (bytesOf s) m = 3 := by unfold decE; rw [if_pos h0]
    have hL : decL f (bytesOf s) m = [] := by unfold decL; rw [if_neg (by omega)]
    have h3 : shErr f = 3 := (shErr_two f).resolve_left h0
    rw [hE, hL, errV_ne (by omega)]
    rw [h3, errV_ne (by omega)] at HC
    clear h1 h0 hE hL h3
    go_enter Try.func17, Try.ntmps17
    go_wp2_with fail
    refine (HC.out _ H1.out).mono ?_
    rintro e wk ⟨rfl, rfl⟩
    go_wp2_with fail
    go_ret2
    exact ⟨none, 0, 0, rfl, by omega, by omega, RdI.nil, Below.refl _ _⟩
end Go.Proofs.Ytapjnfhbjmeniaa
