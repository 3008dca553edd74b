/- What a frame that was packed is, unpacked, and how long it is. -/
import Derived.Test.YtmohilfebgahoaaGreatDoorPack
import Derived.Test.YtmohilfebgahoaaGreatDoorUnpack
namespace Go.Proofs.YtmohilfebgahoaaGreatDoor
open Go.RowKit

theorem unp_pack {b : List Nat} {s : List Int} {bits : Int} (hlt : ∀ x ∈ b, x < 256) (h : unpE b s bits = 0) : Ph.packErr (unpL b s bits) s bits = 0 ∧ Ph.packed (Ph.packBits (unpL b s bits)) = b := by
  have hz := unpE_zero h
  have hb := Ph.unpack_back hz.1 hz.2.1.1 hz.2.1.2 hlt hz.2.2.2
  refine ⟨?_, hb.2.1⟩
  unfold Ph.packErr
  rw [if_neg (by omega), if_neg (by omega)]
theorem packed_lt (l : List Int) (h : Ph.isBits l) : ∀ x ∈ Ph.packed l, x < 256 := by
  intro x hx
  simp only [Ph.packed, List.mem_map] at hx
  obtain ⟨i, _, rfl⟩ := hx
  have hc : Ph.isBits (Ph.chunk8 l i) := fun b hb => h b (List.mem_of_mem_drop (List.mem_of_mem_take hb))
  have hl : (Ph.chunk8 l i).length ≤ 8 := by unfold Ph.chunk8; rw [List.length_take]; omega
  have h1 := Ph.number_lt hc
  unfold Ph.pack1
  have h2 := Nat.mul_lt_mul_of_pos_right h1 (Nat.two_pow_pos (8 - (Ph.chunk8 l i).length))
  rw [← Nat.pow_add, show (Ph.chunk8 l i).length + (8 - (Ph.chunk8 l i).length) = 8 by omega] at h2
  exact h2
/-- A frame that was packed is read as it was; cut off it is none; and it is never longer than told. -/
theorem pack_unp {p : List Ph.Part} {s : List Int} {bits : Int} (h : Ph.packErr p s bits = 0) : unpE (bytesOf (packS p s bits)) s bits = 0 ∧ unpL (bytesOf (packS p s bits)) s bits = p := by
  have hf : Ph.frameErr p s bits = 0 := by unfold Ph.packErr at h; split at h <;> omega
  have hl : (Ph.packBits p).length ≤ 400 := by
    unfold Ph.packErr at h
    rw [if_neg (by omega)] at h
    split at h <;> omega
  have hz := Ph.frameErr_zero.1 hf
  have hu := Ph.unpack_packed hf
  have hbs : bytesOf (packS p s bits) = Ph.packed (Ph.packBits p) := by rw [packS_zero h]; exact bytesOf_strB (packed_lt _ (Ph.packBits_bits p))
  have hlen : (Ph.packed (Ph.packBits p)).length ≤ 50 := by rw [Ph.packed_length]; omega
  have e : unpE (Ph.packed (Ph.packBits p)) s bits = 0 := by
    unfold unpE
    rw [if_neg (by have := hz.1; omega), if_neg (by have := hz.2.2.2; omega), if_neg (by omega), hu]
    rfl
  rw [hbs]
  refine ⟨e, ?_⟩
  unfold unpL
  rw [if_pos e, hu]; rfl
theorem pack_cut {p : List Ph.Part} {s : List Int} {bits : Int} (h : Ph.packErr p s bits = 0) {c : Nat} (hc : c < (packS p s bits).size) : unpE ((bytesOf (packS p s bits)).take c) s bits = 2 := by
  have hf : Ph.frameErr p s bits = 0 := by unfold Ph.packErr at h; split at h <;> omega
  have hl : (Ph.packBits p).length ≤ 400 := by
    unfold Ph.packErr at h
    rw [if_neg (by omega)] at h
    split at h <;> omega
  have hz := Ph.frameErr_zero.1 hf
  have hbs : bytesOf (packS p s bits) = Ph.packed (Ph.packBits p) := by rw [packS_zero h]; exact bytesOf_strB (packed_lt _ (Ph.packBits_bits p))
  have hc2 : c < (Ph.packed (Ph.packBits p)).length := by rw [← hbs, bytesOf_length]; exact hc
  have hu := Ph.unpack_cut hf hc2
  have hlen : (Ph.packed (Ph.packBits p)).length ≤ 50 := by rw [Ph.packed_length]; omega
  rw [hbs]
  unfold unpE
  rw [if_neg (by have := hz.1; omega), if_neg (by have := hz.2.2.2; omega), if_neg (by rw [List.length_take]; omega), hu]
  rfl
theorem bytesOf_extract (s : ByteArray) (k : Nat) : bytesOf (s.extract 0 k) = (bytesOf s).take k := by
  unfold bytesOf
  rw [ByteArray.data_extract, Array.toList_extract, List.map_take]
  simp
theorem pack_size {p : List Ph.Part} {s : List Int} {bits : Int} (h : Ph.packErr p s bits = 0) : (packS p s bits).size ≤ 140737488351232 := by
  have hl : (Ph.packBits p).length ≤ 400 := by
    unfold Ph.packErr at h
    split at h
    · omega
    · split at h <;> omega
  rw [packS_zero h, strB_size, Ph.packed_length]; omega
theorem pack_long {p : List Ph.Part} {s : List Int} {bits : Int} (h : Ph.packErr p s bits = 0) (hl : longErr s bits = 0) : ((packS p s bits).size : Int) ≤ longN s bits := by
  have hf : Ph.frameErr p s bits = 0 := by unfold Ph.packErr at h; split at h <;> omega
  have h1 := Ph.packBits_le hf
  unfold longN
  rw [if_pos hl, packS_zero h, strB_size, Ph.packed_length]
  omega
theorem made_pack {p : List Ph.Part} {s : List Int} {bits : Int} (h : Ph.frameErr p s bits = 0) : (Ph.packErr p s bits = 0 ∨ Ph.packErr p s bits = 4) ∧ (longErr s bits = 0 → Ph.packErr p s bits = 0) := by
  have h1 := Ph.packBits_le h
  have hz := Ph.frameErr_zero.1 h
  have e1 : Ph.packErr p s bits = if 400 < (Ph.packBits p).length then 4 else 0 := by unfold Ph.packErr; rw [if_neg (by omega)]
  have e2 : longErr s bits = if 400 < 6 * (s.length : Int) + bits then 4 else 0 := by unfold longErr; rw [if_neg (by have := hz.1; omega), if_neg (by have := hz.2.2.2; omega)]
  rw [e1, e2]
  refine ⟨by split <;> omega, fun h2 => ?_⟩
  split at h2
  · omega
  · rw [if_neg (by omega)]
end Go.Proofs.YtmohilfebgahoaaGreatDoor
