/- Bits of words: how many are set: the last steps. -/
import Derived.Test.YtnfjabohnjbgbaaDoorOccBits
namespace Go.Proofs.YtnfjabohnjbgbaaDoor.Occ
open Go.RowKit Go.Shelf Go.Proofs.YtnfjabohnjbgbaaDoor

theorem div_at {lo hi b n : Nat} (h : n = lo + b * hi) (hl : lo < b) : n / b = hi := by
  rw [h, Nat.add_mul_div_left _ _ (by omega), Nat.div_eq_of_lt hl, Nat.zero_add]
theorem last_steps (c0 c1 c2 c3 c4 c5 c6 c7 : Nat) (h0 : c0 ≤ 8) (h1 : c1 ≤ 8) (h2 : c2 ≤ 8) (h3 : c3 ≤ 8) (h4 : c4 ≤ 8) (h5 : c5 ≤ 8) (h6 : c6 ≤ 8) (h7 : c7 ≤ 8) (a y z u : Nat)
    (ha : a = c0 + 256 * c1 + 65536 * c2 + 16777216 * c3 + 4294967296 * c4 + 1099511627776 * c5 + 281474976710656 * c6 + 72057594037927936 * c7)
    (hy : y = a + a / 256) (hz : z = y + y / 65536) (hu : u = z + z / 4294967296) : u % 128 = c0 + c1 + c2 + c3 + c4 + c5 + c6 + c7 ∧ a ≤ 600000000000000000 ∧ y ≤ 1200000000000000000 ∧ z ≤ 2400000000000000000 ∧ u ≤ 4800000000000000000 := by
  have e1 : a / 256 = c1 + 256 * c2 + 65536 * c3 + 16777216 * c4 + 4294967296 * c5 + 1099511627776 * c6 + 281474976710656 * c7 := div_at (lo := c0) (by rw [ha]; omega) (by omega)
  have b1 : a ≤ 600000000000000000 := by rw [ha]; omega
  have b2 : y ≤ 1200000000000000000 := by have := Nat.div_le_self a 256; rw [hy]; exact Nat.add_le_add b1 (Nat.le_trans this b1)
  have b3 : z ≤ 2400000000000000000 := by have := Nat.div_le_self y 65536; rw [hz]; exact Nat.add_le_add b2 (Nat.le_trans this b2)
  have b4 : u ≤ 4800000000000000000 := by have := Nat.div_le_self z 4294967296; rw [hu]; exact Nat.add_le_add b3 (Nat.le_trans this b3)
  refine ⟨?_, b1, b2, b3, b4⟩
  rw [e1, ha] at hy
  clear b1 b2 b3 b4 e1 ha
  have e3 : y / 65536 = (c2 + c3) + 256 * (c3 + c4) + 65536 * (c4 + c5) + 16777216 * (c5 + c6) + 4294967296 * (c6 + c7) + 1099511627776 * c7 := div_at (lo := (c0 + c1) + 256 * (c1 + c2)) (by rw [hy]; omega) (by omega)
  rw [e3, hy] at hz
  clear e3 hy
  have e5 : z / 4294967296 = (c4 + c5 + c6 + c7) + 256 * (c5 + c6 + c7) + 65536 * (c6 + c7) + 16777216 * c7 := div_at (lo := (c0 + c1 + c2 + c3) + 256 * (c1 + c2 + c3 + c4) + 65536 * (c2 + c3 + c4 + c5) + 16777216 * (c3 + c4 + c5 + c6)) (by rw [hz]; omega) (by omega)
  rw [e5, hz] at hu
  clear e5 hz
  obtain ⟨r, hr⟩ : ∃ r, u = (c0 + c1 + c2 + c3 + c4 + c5 + c6 + c7) + 128 * r := ⟨2 * ((c1 + c2 + c3 + c4 + c5 + c6 + c7) + 256 * (c2 + c3 + c4 + c5 + c6 + c7) + 65536 * (c3 + c4 + c5 + c6 + c7) + 16777216 * (c4 + c5 + c6 + c7) + 4294967296 * (c5 + c6 + c7) + 1099511627776 * (c6 + c7) + 281474976710656 * c7), by rw [hu]; omega⟩
  rw [hr, Nat.add_mul_mod_self_left]
  exact Nat.mod_eq_of_lt (by omega)
end Go.Proofs.YtnfjabohnjbgbaaDoor.Occ
