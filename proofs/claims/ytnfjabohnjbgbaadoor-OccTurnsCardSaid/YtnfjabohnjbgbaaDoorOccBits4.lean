/- Contracts of math/bits: OnesCount64, TrailingZeros64. -/
import Derived.Test.YtnfjabohnjbgbaaDoorOccBits3
import Derived.Test.YtnfjabohnjbgbaaDoorKit
namespace Go.Proofs.YtnfjabohnjbgbaaDoor.Occ
open Go.RowKit Go.Shelf Go.Proofs.YtnfjabohnjbgbaaDoor

def popN (x : Nat) : Nat := Lib.popAux 64 x
theorem bits_and_i64_nat (a b : Nat) (ha : a < 9223372036854775808) (hb : b < 9223372036854775808) : bits .and .i64 (a : Int) (b : Int) = ((a &&& b : Nat) : Int) := by
  have hx : a &&& b < 2 ^ 63 := Nat.and_lt_two_pow _ (by omega)
  have h1 : (BitVec.ofInt 64 (a : Int)).toNat = a := by rw [BitVec.ofInt_natCast, BitVec.toNat_ofNat]; exact Nat.mod_eq_of_lt (by omega)
  have h2 : (BitVec.ofInt 64 (b : Int)).toNat = b := by rw [BitVec.ofInt_natCast, BitVec.toNat_ofNat]; exact Nat.mod_eq_of_lt (by omega)
  show IntKind.i64.wrap ((BitVec.ofInt 64 (a : Int) &&& BitVec.ofInt 64 (b : Int)).toNat : Int) = _
  rw [BitVec.toNat_and, h1, h2, IntKind.wrap_i64]
  omega

set_option maxRecDepth 100000 in
set_option maxHeartbeats 1000000 in
theorem OnesCount_any (x : Nat) (w : World) (hx : x < 18446744073709551616) : Calls Tryd.prog 29 #[.int .u64 x] w fun e w' => e = .returned (.int .i64 (popN x)) ∧ w' = w := by
  obtain ⟨a1, a2, a3, a4, a5, h1, h2, l2, h3, h4, l4, h5, l5, hr⟩ := pop_key x hx
  obtain ⟨y, hy⟩ : ∃ y, y = a5 + a5 / 256 := ⟨_, rfl⟩
  obtain ⟨z, hz⟩ : ∃ z, z = y + y / 65536 := ⟨_, rfl⟩
  obtain ⟨u, hu⟩ : ∃ u, u = z + z / 4294967296 := ⟨_, rfl⟩
  obtain ⟨r1, r2, r3, r4⟩ := hr y z u hy hz hu
  have HR : Hid (u % 128 = popN x) := Lib.hid r1
  have e1 : bits .and .u64 ((x : Int) / 2) 6148914691236517205 = (a1 : Int) := by
    have := bits_and_u64_nat (x / 2) 6148914691236517205 (by omega) (by decide)
    rw [h1] at this; exact this
  have e2 : bits .and .u64 (x : Int) 6148914691236517205 = (a2 : Int) := by
    have := bits_and_u64_nat x 6148914691236517205 hx (by decide)
    rw [h2] at this; exact this
  have e3 : bits .and .u64 (((a1 : Int) + (a2 : Int)) / 4) 3689348814741910323 = (a3 : Int) := by
    have := bits_and_u64_nat ((a1 + a2) / 4) 3689348814741910323 (by omega) (by decide)
    rw [h3] at this; exact this
  have e4 : bits .and .u64 ((a1 : Int) + (a2 : Int)) 3689348814741910323 = (a4 : Int) := by
    have := bits_and_u64_nat (a1 + a2) 3689348814741910323 (by omega) (by decide)
    rw [h4] at this; exact this
  have e5 : bits .and .u64 (((a3 : Int) + (a4 : Int)) / 16 + ((a3 : Int) + (a4 : Int))) 1085102592571150095 = (a5 : Int) := by
    have := bits_and_u64_nat ((a3 + a4) / 16 + (a3 + a4)) 1085102592571150095 (by omega) (by decide)
    rw [h5] at this; exact this
  have e6 : (a5 : Int) + (a5 : Int) / 256 = (y : Int) := by rw [hy]; rfl
  have e7 : (y : Int) + (y : Int) / 65536 = (z : Int) := by rw [hz]; rfl
  have e8 : (z : Int) + (z : Int) / 4294967296 = (u : Int) := by rw [hu]; rfl
  have e9 : bits .and .i64 (u : Int) 127 = ((popN x : Nat) : Int) := by
    have := bits_and_i64_nat u 127 (by omega) (by decide)
    rw [show (127 : Nat) = 2 ^ 7 - 1 from rfl, Nat.and_two_pow_sub_one_eq_mod, show 2 ^ 7 = 128 from rfl, HR.out] at this
    exact this
  clear h1 h2 h3 h4 h5 hr hy hz hu r1 HR
  go_enter Tryd.func29, Tryd.ntmps29
  go_wp2
  go_ret
  exact ⟨rfl, rfl⟩

end Go.Proofs.YtnfjabohnjbgbaaDoor.Occ
