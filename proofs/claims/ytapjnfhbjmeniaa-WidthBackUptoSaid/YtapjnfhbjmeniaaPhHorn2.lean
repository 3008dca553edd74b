/- Plain law: signs as bytes, sign by sign (chapter 11). No program in sight. -/
import Derived.Test.YtapjnfhbjmeniaaPhHorn
namespace Ph
/-- A sign more: the number, and the bytes that went off, the first one first. -/
def estep (f : List Int) (p : Nat × List Nat) (s : Int) : Nat × List Nat :=
  if 65536 * sh f s.toNat ≤ p.1 then (up (sh f s.toNat) (st f s.toNat) (p.1 / 256), p.2 ++ [p.1 % 256]) else (up (sh f s.toNat) (st f s.toNat) p.1, p.2)
def efold (f ss : List Int) : Nat × List Nat := ss.foldl (estep f) (65536, [])
theorem efold_snoc (f ss : List Int) (s : Int) : efold f (ss ++ [s]) = estep f (efold f ss) s := by unfold efold; rw [List.foldl_append]; rfl
theorem efold_reverse (f : List Int) : ∀ l : List Int, efold f l.reverse = ((enc f l).1, (enc f l).2.reverse)
  | [] => rfl
  | s :: l => by
    rw [List.reverse_cons, efold_snoc, efold_reverse f l]
    unfold estep
    simp only [enc]
    split
    · simp
    · rfl
theorem efold_eq (f ss : List Int) : efold f ss = ((enc f ss.reverse).1, (enc f ss.reverse).2.reverse) := by
  have := efold_reverse f ss.reverse
  rwa [List.reverse_reverse] at this
theorem enc_len (f : List Int) : ∀ l : List Int, (enc f l).2.length ≤ l.length
  | [] => by simp [enc]
  | s :: l => by
    have := enc_len f l
    simp only [enc]
    split
    · simp; omega
    · simp; omega
theorem efold_bd {f ss : List Int} (hf : sharesOk f) (h : ∀ s ∈ ss, good f s) : 65536 ≤ (efold f ss).1 ∧ (efold f ss).1 < 16777216 ∧ (efold f ss).2.length ≤ ss.length := by
  have h1 := enc_bd hf (l := ss.reverse) (fun s hs => h s (by simpa using hs))
  have h2 := enc_len f ss.reverse
  rw [efold_eq]
  rw [List.length_reverse] at h2
  exact ⟨h1.1, h1.2.1, by simpa using h2⟩
theorem bytes_fold (f l : List Int) : bytes f l = told (efold f l.reverse).1 (efold f l.reverse).2.reverse := by
  rw [efold_reverse]; simp [bytes]
theorem rev_map (l : List Int) : ((List.finRange l.length).reverse.map fun x => l.getD x.1 0) = l.reverse := by
  rw [List.map_reverse]
  congr 1
  apply List.ext_getElem
  · simp
  · intro i h1 h2; simp
theorem told_length (x : Nat) (off : List Nat) : (told x off).length = off.length + 3 := by simp [told]
theorem dec_succ (f : List Int) (m x : Nat) (bs : List Nat) : dec f (m + 1) x bs = (fill (dn f x).2 bs).bind fun p => (dec f m p.1 p.2).map fun q => (((dn f x).1 : Int) :: q.1, q.2) := by
  rw [dec]
  cases fill (dn f x).2 bs with
  | none => rfl
  | some p =>
    obtain ⟨x', bs'⟩ := p
    simp only [Option.bind_some]
    cases dec f m x' bs' with
    | none => rfl
    | some q => rfl
theorem fill_none {x : Nat} (h : x < 65536) : fill x [] = none := by rw [fill, if_neg (by omega)]
theorem fill_cons {x b : Nat} {bs : List Nat} (h : x < 65536) : fill x (b :: bs) = fill (x * 256 + b) bs := by rw [fill, if_neg (by omega)]
theorem dn_snd {f : List Int} (hf : sharesOk f) (x : Nat) : (dn f x).2 = sh f (dn f x).1 * (x / 256) + x % 256 - st f (dn f x).1 ∧ (dn f x).2 ≤ x := by
  have hg := dn_good hf x
  have hb := good_bd hf hg.1
  rw [Int.toNat_natCast] at hb
  have h1 : (dn f x).2 = sh f (dn f x).1 * (x / 256) + x % 256 - st f (dn f x).1 := rfl
  refine ⟨h1, ?_⟩
  have h2 : sh f (dn f x).1 * (x / 256) ≤ 256 * (x / 256) := Nat.mul_le_mul_right _ hb.2.1
  omega
theorem heard_short {f : List Int} {b : List Nat} {n : Nat} (h : b.length < 3) : heard f b n = none := by
  unfold heard
  split
  · simp at h; omega
  · rfl
end Ph
