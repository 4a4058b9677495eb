/- Contracts of crc's functions above 'behind': sums. -/
import Derived.Test.YtdddgbgfdaokiaaCrc2
namespace Go.Proofs.Ytdddgbgfdaokiaa.Crc
open Go.RowKit Go.Proofs.Ytdddgbgfdaokiaa

def manyV (n : Nat) : Int := if 1048576 < n then 4 else 0
theorem manyV_hi {n : Nat} (h : 1048576 < n) : manyV n = 4 := if_pos h
theorem manyV_lo {n : Nat} (h : ¬ 1048576 < n) : manyV n = 0 := if_neg h

theorem many_any (a : Option Addr) (n cap : Nat) (w : World) (hl : n ≤ 9223372036854775807) :
    Calls Try.prog 20 #[.slice a n cap] w fun e w' => e = .returned (.int .i64 (manyV n)) ∧ w = w' := by
  have hA : manyV n = if 1048576 < n then 4 else 0 := rfl
  go_enter Try.func20, Try.ntmps20
  by_cases h : 1048576 < n
  · have H := Lib.hid (manyV_hi h)
    clear hA
    go_wp2
    go_ret
    exact ⟨ret_int H.out.symm, rfl⟩
  · have H := Lib.hid (manyV_lo h)
    clear hA
    go_wp2
    go_ret
    exact ⟨ret_int H.out.symm, rfl⟩

theorem goV_hi {s : Nat} {zs : List Int} (h : 1048576 < zs.length) : goV s zs = (0, 4) := if_pos h
theorem goV_lo {s : Nat} {zs : List Int} (h : ¬ 1048576 < zs.length) : goV s zs = (behind s zs, 0) := if_neg h
theorem ofV_hi {zs : List Int} (h : 1048576 < zs.length) : ofV zs = (0, 4) := if_pos h
theorem ofV_lo {zs : List Int} (h : ¬ 1048576 < zs.length) : ofV zs = (sumV zs, 0) := if_neg h

theorem ret_un {k l : IntKind} {a : Nat} {c : Int} {p : Nat × Int} (h : p = (a, c)) : Ending.returned (.tuple #[.int k a, .int l c]) = .returned (.tuple #[.int k p.1, .int l p.2]) := by rw [h]
theorem ret_un' {k l : IntKind} {a : Int} {c : Int} {p : Nat × Int} (h : ((p.1 : Int), p.2) = (a, c)) : Ending.returned (.tuple #[.int k a, .int l c]) = .returned (.tuple #[.int k p.1, .int l p.2]) := by
  simp only [Prod.mk.injEq] at h
  rw [h.1, h.2]

set_option maxHeartbeats 1000000 in
theorem go_any (s : Int) (a : Option Addr) (cap : Nat) (zs : List Int) (w : World) (h0 : 0 ≤ s) (h1 : s < 4294967296) (hz : Bytes zs) (hr : Rd .u8 w a zs) (hl : zs.length ≤ 9223372036854775807) :
    Calls Try.prog 9 #[.int .u32 s, .slice a zs.length cap] w fun e w' => e = .returned (.tuple #[.int .u32 (goV s.toNat zs).1, .int .i64 (goV s.toNat zs).2]) ∧ Below w.heap.size w w' := by
  by_cases h : 1048576 < zs.length
  · have H := Lib.hid (goV_hi (s := s.toNat) h)
    have HM := Lib.hid (manyV_hi h)
    go_enter Try.func9, Try.ntmps9
    go_wp2_with fail
    refine (many_any a zs.length cap w hl).mono ?_
    rintro e w' ⟨rfl, rfl⟩
    rw [HM.out]
    go_wp2
    go_ret2
    exact ⟨ret_un (by rw [H.out]), Below.refl _ _⟩
  · have H := Lib.hid (goV_lo (s := s.toNat) h)
    have HM := Lib.hid (manyV_lo h)
    go_enter Try.func9, Try.ntmps9
    go_wp2_with fail
    refine (many_any a zs.length cap w hl).mono ?_
    rintro e w' ⟨rfl, rfl⟩
    rw [HM.out]
    go_wp2_with fail
    refine (behind_any s a cap zs w h0 h1 hz hr hl).mono ?_
    rintro e w' ⟨rfl, hb⟩
    generalize behind s.toNat zs = t at *
    go_wp2
    go_ret2
    exact ⟨ret_un H.out, hb⟩

theorem not_u32 (s : Nat) (h : s < 4294967296) : bits .xor .u32 IntKind.u32.max (s : Int) = ((4294967295 - s : Nat) : Int) := by
  have e : (4294967295 : Nat) ^^^ s = 4294967295 - s := by
    have h1 : (~~~ BitVec.ofNat 32 s).toNat = 4294967295 - s := by
      rw [BitVec.toNat_not, BitVec.toNat_ofNat, Nat.mod_eq_of_lt (by simpa using h)]
    rw [← BitVec.allOnes_xor, BitVec.toNat_xor, BitVec.toNat_ofNat, Nat.mod_eq_of_lt (by simpa using h)] at h1
    exact h1
  have := xor_u32 4294967295 s (by decide) h
  rw [e] at this
  exact this

set_option maxHeartbeats 1000000 in
theorem of_any (a : Option Addr) (cap : Nat) (zs : List Int) (w : World) (hz : Bytes zs) (hr : Rd .u8 w a zs) (hl : zs.length ≤ 9223372036854775807) :
    Calls Try.prog 11 #[.slice a zs.length cap] w fun e w' => e = .returned (.tuple #[.int .u32 (ofV zs).1, .int .i64 (ofV zs).2]) ∧ Below w.heap.size w w' := by
  by_cases h : 1048576 < zs.length
  · have H := Lib.hid (ofV_hi h)
    have HG := Lib.hid (goV_hi (s := 4294967295) h)
    go_enter Try.func11, Try.ntmps11
    go_wp2_with fail
    refine (go_any 4294967295 a cap zs w (by decide) (by decide) hz hr hl).mono ?_
    rintro e w' ⟨rfl, hb⟩
    rw [show (4294967295 : Int).toNat = 4294967295 from rfl, HG.out]
    go_wp2
    go_ret2
    exact ⟨ret_un (by rw [H.out]), hb⟩
  · have H := Lib.hid (ofV_lo h)
    have HG := Lib.hid (goV_lo (s := 4294967295) h)
    have hlt := behind_lt (s := 4294967295) (by decide) hz
    have HS := Lib.hid (show sumV zs = 4294967295 - behind 4294967295 zs from rfl)
    go_enter Try.func11, Try.ntmps11
    go_wp2_with fail
    refine (go_any 4294967295 a cap zs w (by decide) (by decide) hz hr hl).mono ?_
    rintro e w' ⟨rfl, hb⟩
    rw [show (4294967295 : Int).toNat = 4294967295 from rfl, HG.out]
    generalize behind 4294967295 zs = t at *
    have hn := not_u32 t hlt
    go_wp2
    go_ret2
    refine ⟨ret_un (by rw [H.out, HS.out]), hb⟩

end Go.Proofs.Ytdddgbgfdaokiaa.Crc
