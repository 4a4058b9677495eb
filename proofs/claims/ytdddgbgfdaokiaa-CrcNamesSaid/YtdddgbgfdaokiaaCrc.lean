/- Contracts of the functions of package crc, and of the document's answer for it. -/
import Derived.Test.YtdddgbgfdaokiaaRd
import Derived.Test.YtdddgbgfdaokiaaCrcPlain
import Derived.Test.YtdddgbgfdaokiaaProg
import Derived.Deep.QuietTactic
import Derived.BigQuiet
namespace Go.Proofs.Ytdddgbgfdaokiaa.Crc
open Go.RowKit Go.Proofs.Ytdddgbgfdaokiaa

/-! ### Bits of 32 -/
theorem and_one (s : Nat) (h : s < 4294967296) : bits .and .u32 (s : Int) 1 = ((s % 2 : Nat) : Int) := by
  have e := (bits_nat .u32 32 (by decide) (fun m m0 m1 => by rw [IntKind.wrap_u32]; omega) s 1 (by omega) (by decide)).1
  have e2 : s &&& 1 = s % 2 := Nat.and_one_is_mod s
  rw [e2] at e; exact e
theorem xor_u32 (a b : Nat) (ha : a < 4294967296) (hb : b < 4294967296) : bits .xor .u32 (a : Int) (b : Int) = ((a ^^^ b : Nat) : Int) := by
  have ha' : a % 2 ^ IntKind.u32.bits = a := Nat.mod_eq_of_lt (by simpa [IntKind.bits] using ha)
  have hb' : b % 2 ^ IntKind.u32.bits = b := Nat.mod_eq_of_lt (by simpa [IntKind.bits] using hb)
  simp only [bits, BitVec.ofInt_natCast, BitVec.toNat_xor, BitVec.toNat_ofNat, ha', hb']
  rw [IntKind.wrap_u32]
  have := xor_lt32 ha hb
  omega

theorem turn_one {s : Nat} (h : s % 2 = 1) : turn s = s / 2 ^^^ 3988292384 := by unfold turn; rw [if_pos h]
theorem turn_zero {s : Nat} (h : ¬ s % 2 = 1) : turn s = s / 2 := by unfold turn; rw [if_neg h]
theorem half_cast (s : Nat) : (s : Int) / 2 = ((s / 2 : Nat) : Int) := by omega

set_option maxHeartbeats 400000 in
theorem turn_any (s : Nat) (hs : s < 4294967296) (W : World) :
    Calls Try.prog 31 #[.pointer (some ⟨W.heap.size, 0, Option.none⟩)] (W.alloc (.cells #[.int .u32 s] 22)) fun e w' => e = .returned (.tuple #[]) ∧ W.alloc (.cells #[.int .u32 (turn s)] 22) = w' := by
  by_cases h : s % 2 = 1
  · have h1 : bits .and .u32 (s : Int) 1 = 1 := by rw [and_one s hs, h]; rfl
    have hx : bits .xor .u32 ((s : Int) / 2) 3988292384 = ((turn s : Nat) : Int) := by rw [turn_one h, half_cast]; exact xor_u32 (s / 2) 3988292384 (by omega) (by decide)
    clear h
    go_enter Try.func31, Try.ntmps31
    go_wp2
    go_end0
    exact ⟨rfl, rfl⟩
  · have h1 : bits .and .u32 (s : Int) 1 = 0 := by rw [and_one s hs]; omega
    have hx := Lib.hid (show ((turn s : Nat) : Int) = (s : Int) / 2 by rw [turn_zero h, half_cast])
    clear h
    go_enter Try.func31, Try.ntmps31
    go_wp2
    go_end0
    exact ⟨rfl, by rw [hx.out]⟩

theorem step_ne {s b : Nat} (h : s % 2 ≠ b) : step s b = s / 2 ^^^ 3988292384 := by unfold step; rw [if_pos h]
theorem step_eq {s b : Nat} (h : ¬ s % 2 ≠ b) : step s b = s / 2 := by unfold step; rw [if_neg h]

set_option maxHeartbeats 400000 in
theorem step_any (s c : Nat) (hs : s < 4294967296) (w : World) :
    Calls Try.prog 32 #[.int .u32 s, .int .u32 c] w fun e w' => e = .returned (.int .u32 (step s c)) ∧ w = w' := by
  by_cases h : s % 2 ≠ c
  · have h1 : ((s : Int) % 2 != (c : Int)) = true := by rw [bne_iff_ne]; omega
    have hx : bits .xor .u32 ((s : Int) / 2) 3988292384 = ((step s c : Nat) : Int) := by rw [step_ne h, half_cast]; exact xor_u32 (s / 2) 3988292384 (by omega) (by decide)
    clear h
    go_enter Try.func32, Try.ntmps32
    go_wp2
    go_ret
    exact ⟨rfl, rfl⟩
  · have h1 : ((s : Int) % 2 != (c : Int)) = false := by simp; omega
    have hx := Lib.hid (show ((step s c : Nat) : Int) = (s : Int) / 2 by rw [step_eq h, half_cast])
    clear h
    go_enter Try.func32, Try.ntmps32
    go_wp2
    go_ret
    exact ⟨ret_int hx.out.symm, rfl⟩

/-- The bytes fit. -/
def Bytes (zs : List Int) : Prop := ∀ z ∈ zs, 0 ≤ z ∧ z < 256
theorem Bytes.at {zs : List Int} (h : Bytes zs) {k : Nat} (hk : k < zs.length) : 0 ≤ zs.getD k 0 ∧ zs.getD k 0 < 256 := by
  have : zs.getD k 0 = zs[k] := by simp [List.getD_eq_getElem?_getD, hk]
  rw [this]; exact h _ (List.getElem_mem _)
theorem Bytes.take {zs : List Int} (h : Bytes zs) (k : Nat) : Bytes (zs.take k) := fun z hz => h z (List.mem_of_mem_take hz)

set_option maxRecDepth 100000 in
set_option maxHeartbeats 1000000 in
theorem refBehind_any (s : Int) (a : Option Addr) (cap : Nat) (zs : List Int) (w : World) (h0 : 0 ≤ s) (h1 : s < 4294967296) (hz : Bytes zs) (hr : Rd .u8 w a zs) (hl : zs.length ≤ 9223372036854775807) :
    Calls Try.prog 22 #[.int .u32 s, .slice a zs.length cap] w fun e w' => e = .returned (.int .u32 (behind s.toNat zs)) ∧ w = w' := by
  obtain ⟨s, rfl⟩ := Int.eq_ofNat_of_zero_le h0
  rw [Int.toNat_natCast]
  have hs : s < 4294967296 := by omega
  clear h0 h1
  go_enter Try.func22, Try.ntmps22
  go_wp2
  go_loop [0, 5, 6, 7] (fun x i _ _ => ∃ k : Nat, k ≤ zs.length ∧ i = .int .i64 k ∧ x = .int .u32 (behind s (zs.take k))) (fun _ i _ _ => zs.length - (intOf i).toNat)
  case atStart => exact ⟨0, Nat.zero_le _, rfl, rfl⟩
  case round =>
    obtain ⟨k, hk, rfl, rfl⟩ := hrel
    by_cases hlt : k < zs.length
    · have hcell : ∃ b off, a = some ⟨b, off, Option.none⟩ ∧ w.cell? ⟨b, off + k, Option.none⟩ = some (.int .u8 (zs.getD k 0)) := by
        rcases hr with h | ⟨b, off, ha, _, hc⟩
        · subst h; simp at hlt
        · exact ⟨b, off, ha, hc k hlt⟩
      obtain ⟨b, off, rfl, hcell⟩ := hcell
      obtain ⟨z0, z1⟩ := hz.at hlt
      have hb := behind_lt hs (hz.take k)
      have Hsn := Lib.hid (show behind s (zs.take (k + 1)) = byte (behind s (zs.take k)) (zs.getD k 0).toNat by rw [take_snoc zs k hlt, behind_snoc])
      clear hr
      generalize zs.getD k 0 = z at *
      obtain ⟨c, rfl⟩ := Int.eq_ofNat_of_zero_le z0
      rw [Int.toNat_natCast] at Hsn
      generalize behind s (zs.take k) = t at *
      clear hz z0
      go_wp2
      go_loop [0, 6, 7] (fun x y i => ∃ j : Nat, j ≤ 8 ∧ i = .int .i64 j ∧ x = .int .u32 (steps j t c) ∧ y = .int .u32 ((c / 2 ^ j : Nat) : Int)) (fun _ _ i => 8 - (intOf i).toNat)
      case atStart => exact ⟨0, by omega, rfl, rfl, by simp⟩
      case round =>
        obtain ⟨j, hj, rfl, rfl, rfl⟩ := hrel
        have hst := steps_lt (k := j) (c := c) hb
        by_cases hj8 : j < 8
        · have hm : ((c / 2 ^ j : Nat) : Int) % 2 = ((c / 2 ^ j % 2 : Nat) : Int) := by omega
          have Hs := Lib.hid (steps_succ j t c)
          have Hd := Lib.hid (show c / 2 ^ (j + 1) = c / 2 ^ j / 2 by rw [Nat.pow_succ, Nat.div_div_eq_div_mul])
          have hd0 : c / 2 ^ j < 256 := Nat.lt_of_le_of_lt (Nat.div_le_self _ _) (by omega)
          generalize c / 2 ^ j = d at *
          generalize steps j t c = u at *
          clear hm
          go_wp2_with fail
          rw [show (d : Int) % 2 = ((d % 2 : Nat) : Int) by omega]
          refine (step_any u (d % 2) hst _).mono ?_
          rintro e w' ⟨rfl, rfl⟩
          go_wp2
          go_round
          case rel => exact ⟨j + 1, by omega, by go_num, by rw [Hs.out], by rw [Hd.out]; go_num⟩
          case measure => simp [intOf]; omega
        · obtain rfl : j = 8 := by omega
          have Hb := Lib.hid (byte_steps t c (by omega))
          generalize c / 2 ^ 8 = d at *
          go_wp2
          go_round
          case rel => exact ⟨k + 1, by omega, by go_num, by rw [Hsn.out, Hb.out]⟩
          case measure => simp [intOf]; omega
    · obtain rfl : k = zs.length := by omega
      clear hr hz
      go_wp2
      go_ret
      exact ⟨rfl, rfl⟩

theorem turns_add (j s : Nat) : turns (j + 1) s = turn (turns j s) := turns_succ j s

set_option maxRecDepth 100000 in
set_option maxHeartbeats 1000000 in
theorem behind_any (s : Int) (a : Option Addr) (cap : Nat) (zs : List Int) (w : World) (h0 : 0 ≤ s) (h1 : s < 4294967296) (hz : Bytes zs) (hr : Rd .u8 w a zs) (hl : zs.length ≤ 9223372036854775807) :
    Calls Try.prog 21 #[.int .u32 s, .slice a zs.length cap] w fun e w' => e = .returned (.int .u32 (behind s.toNat zs)) ∧ Below w.heap.size w w' := by
  obtain ⟨s, rfl⟩ := Int.eq_ofNat_of_zero_le h0
  rw [Int.toNat_natCast]
  have hs : s < 4294967296 := by omega
  clear h0 h1
  go_enter Try.func21, Try.ntmps21
  go_wp2
  go_loopw [7, 11] (fun _ i wr => ∃ k : Nat, k ≤ zs.length ∧ i = .int .i64 k ∧ wr = w.alloc (.cells #[.int .u32 (behind s (zs.take k))] 22)) (fun _ i _ => zs.length - (intOf i).toNat)
  case atStart => exact ⟨0, Nat.zero_le _, rfl, rfl⟩
  case round =>
    obtain ⟨k, hk, rfl, rfl⟩ := hrel
    by_cases hlt : k < zs.length
    · have hcell : ∃ b off, a = some ⟨b, off, Option.none⟩ ∧ ∀ o, (w.alloc o).cell? ⟨b, off + k, Option.none⟩ = some (.int .u8 (zs.getD k 0)) := by
        rcases hr with h | ⟨b, off, ha, hb, hc⟩
        · subst h; simp at hlt
        · exact ⟨b, off, ha, fun o => ((Below.refl w.heap.size w).alloc (Nat.le_refl _) o).cell (p := ⟨b, off + k, Option.none⟩) hb ▸ hc k hlt⟩
      obtain ⟨b, off, rfl, hcell⟩ := hcell
      obtain ⟨z0, z1⟩ := hz.at hlt
      have hb := behind_lt hs (hz.take k)
      have Hsn := Lib.hid (show behind s (zs.take (k + 1)) = byte (behind s (zs.take k)) (zs.getD k 0).toNat by rw [take_snoc zs k hlt, behind_snoc])
      clear hr
      generalize zs.getD k 0 = z at *
      obtain ⟨c, rfl⟩ := Int.eq_ofNat_of_zero_le z0
      rw [Int.toNat_natCast] at Hsn
      generalize behind s (zs.take k) = t at *
      clear hz z0
      have hc2 : c < 4294967296 := by omega
      have hx := xor_u32 t c hb hc2
      have hxl := xor_lt32 hb hc2
      go_wp2_with fail
      clear hx hcell hc2
      generalize hxx : t ^^^ c = x at *
      have Hxx := Lib.hid hxx
      clear hxx
      go_loopw [19] (fun i wr => ∃ j : Nat, j ≤ 8 ∧ i = .int .i64 j ∧ wr = w.alloc (.cells #[.int .u32 (turns j x)] 22)) (fun i _ => 8 - (intOf i).toNat)
      case atStart => exact ⟨0, by omega, rfl, rfl⟩
      case round =>
        obtain ⟨j, hj, rfl, rfl⟩ := hrel
        have hst := turns_lt (k := j) hxl
        by_cases hj8 : j < 8
        · have Hs := Lib.hid (turns_add j x)
          generalize turns j x = u at *
          go_wp2_with fail
          refine (turn_any u hst w).mono ?_
          rintro e w' ⟨rfl, rfl⟩
          go_wp2
          go_roundw
          case rel => exact ⟨j + 1, by omega, by go_num, by rw [Hs.out]⟩
          case measure => simp [intOf]; omega
        · obtain rfl : j = 8 := by omega
          have Hb := Lib.hid (show byte t c = turns 8 x by rw [← Hxx.out]; rfl)
          generalize turns 8 x = u at *
          go_wp2
          go_roundw
          case rel => exact ⟨k + 1, by omega, by go_num, by rw [Hsn.out, Hb.out]⟩
          case measure => simp [intOf]; omega
    · obtain rfl : k = zs.length := by omega
      clear hr hz
      go_wp2
      go_ret
      exact ⟨rfl, (Below.refl _ _).alloc (Nat.le_refl _) _⟩

end Go.Proofs.Ytdddgbgfdaokiaa.Crc
