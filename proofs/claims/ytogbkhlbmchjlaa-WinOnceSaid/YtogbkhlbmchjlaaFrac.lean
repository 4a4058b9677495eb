/- Contracts of the functions of package frac, and of the document's answer for it. -/
import Derived.Test.YtogbkhlbmchjlaaProg
import Derived.WalkKit
import Derived.WalkSpells
import Derived.WalkLawsBesides
import Derived.Deep.QuietTactic
import Derived.BigQuiet
import Derived.Lib.Hide
import Derived.Test.YtogbkhlbmchjlaaKit
import Derived.Test.YtogbkhlbmchjlaaFl
import Derived.Test.YtogbkhlbmchjlaaFracPlain
import Derived.Test.YtogbkhlbmchjlaaFracPlain2
import Derived.Test.YtogbkhlbmchjlaaShelf
namespace Go.Proofs.Ytogbkhlbmchjlaa.Frac
open Go.RowKit Go.Proofs.Ytogbkhlbmchjlaa

theorem all_take_succ (zs : List Int) (k : Nat) (h : k < zs.length) : (zs.take (k + 1)).all smallB = ((zs.take k).all smallB && smallB (zs.getD k 0)) := by
  rw [List.take_succ_eq_append_getElem h, List.all_append]
  simp [List.getD_eq_getElem?_getD, h]

/-! ### frac.Cross -/
theorem cross_bits (a b c d : Int) (ha : smallB a = true) (hb : smallB b = true) (hc : smallB c = true) (hd : smallB d = true) :
    ∃ re im, cMulBits (floatOfInt .f64 a) (floatOfInt .f64 b) (floatOfInt .f64 c) (Op.negFloat .f64 (floatOfInt .f64 d)) = some (re, im) ∧ Ieee.double.order im 0 = some (compare (b * c - a * d) 0) := by
  rw [smallB_iff] at ha hb hc hd
  have key : ∀ x y : Int, (-67108864 < x ∧ x < 67108864) → (-67108864 < y ∧ y < 67108864) → (x * y).natAbs ≤ 67108863 * 67108863 := fun x y hx hy => by
    rw [Int.natAbs_mul]
    exact Nat.mul_le_mul (by omega) (by omega)
  have ia := Fl.isInt_ofInt a (by omega)
  have ib := Fl.isInt_ofInt b (by omega)
  have ic := Fl.isInt_ofInt c (by omega)
  have id := Fl.isInt_neg (Fl.isInt_ofInt d (by omega))
  have hd' : -67108864 < -d ∧ -d < 67108864 := by omega
  have k1 := key a c ha hc
  have k2 := key b (-d) hb hd'
  have k3 := key a (-d) ha hd'
  have k4 := key b c hb hc
  obtain ⟨ac, e1, i1⟩ := Fl.isInt_mul ia ic (by omega)
  obtain ⟨bd, e2, i2⟩ := Fl.isInt_mul ib id (by omega)
  obtain ⟨ad, e3, i3⟩ := Fl.isInt_mul ia id (by omega)
  obtain ⟨bc, e4, i4⟩ := Fl.isInt_mul ib ic (by omega)
  obtain ⟨re, e5, _⟩ := Fl.isInt_sub i1 i2 (by omega)
  obtain ⟨im, e6, i6⟩ := Fl.isInt_add i3 i4 (by omega)
  refine ⟨re, im, ?_, ?_⟩
  · unfold cMulBits
    simp only [e1, e2, e3, e4, e5, e6, Option.bind_some]
  · have := Fl.order_zero i6
    rw [this, show a * -d + b * c = b * c - a * d by rw [Int.mul_neg]; omega]

theorem cross_ways (a b c d : Int) (im : Nat) (hord : Ieee.double.order im 0 = some (compare (b * c - a * d) 0)) :
    ((FloatKind.f64.format.order im 0 == some .gt) = true ∧ sgn (a * d - b * c) = -1) ∨ ((FloatKind.f64.format.order im 0 == some .gt) = false ∧ (FloatKind.f64.format.order im 0 == some .lt) = true ∧ sgn (a * d - b * c) = 1) ∨ ((FloatKind.f64.format.order im 0 == some .gt) = false ∧ (FloatKind.f64.format.order im 0 == some .lt) = false ∧ sgn (a * d - b * c) = 0) := by
  rw [show FloatKind.f64.format = Ieee.double from rfl, hord]
  rcases Int.lt_trichotomy (b * c - a * d) 0 with h | h | h
  · rw [Int.compare_eq_lt.2 h]
    exact .inr (.inl ⟨rfl, rfl, by unfold sgn; rw [if_neg (by omega), if_pos (by omega)]⟩)
  · rw [h]
    exact .inr (.inr ⟨rfl, rfl, by unfold sgn; rw [if_neg (by omega), if_neg (by omega)]⟩)
  · rw [Int.compare_eq_gt.2 h]
    exact .inl ⟨rfl, by unfold sgn; rw [if_pos (by omega)]⟩

theorem smallS {n : Int} : smallB n = true ∨ smallB n = false := by cases smallB n <;> simp

theorem addV_yes {a b : Int} (h : -9223372036854775808 ≤ a + b ∧ a + b ≤ 9223372036854775807) : addV a b = (a + b, 0) := by unfold addV; rw [if_pos (fits_yes h)]
theorem addV_no {a b : Int} (h : ¬ (-9223372036854775808 ≤ a + b ∧ a + b ≤ 9223372036854775807)) : addV a b = (0, 10) := by unfold addV; rw [fits_no h]; rfl

theorem mulV_yes {a b : Int} (h : -9223372036854775808 ≤ a * b ∧ a * b ≤ 9223372036854775807) : mulV a b = (a * b, 0) := by unfold mulV; rw [if_pos (fits_yes h)]
theorem mulV_no {a b : Int} (h : ¬ (-9223372036854775808 ≤ a * b ∧ a * b ≤ 9223372036854775807)) : mulV a b = (0, 10) := by unfold mulV; rw [fits_no h]; rfl

/-- A product by the sizes of its factors. -/
theorem mul_sizes (a b : Int) : ((!decide (a < 0) == decide (b < 0)) = false ∧ a * b = ((a.natAbs * b.natAbs : Nat) : Int)) ∨ ((!decide (a < 0) == decide (b < 0)) = true ∧ a * b = -((a.natAbs * b.natAbs : Nat) : Int)) := by
  rw [Int.natCast_mul]
  by_cases ha : a < 0 <;> by_cases hb : b < 0
  · left; refine ⟨by simp [ha, hb], ?_⟩
    rw [show ((a.natAbs : Nat) : Int) = -a by omega, show ((b.natAbs : Nat) : Int) = -b by omega, Int.neg_mul_neg]
  · right; refine ⟨by simp [ha, hb], ?_⟩
    rw [show ((a.natAbs : Nat) : Int) = -a by omega, show ((b.natAbs : Nat) : Int) = b by omega, Int.neg_mul, Int.neg_neg]
  · right; refine ⟨by simp [ha, hb], ?_⟩
    rw [show ((a.natAbs : Nat) : Int) = a by omega, show ((b.natAbs : Nat) : Int) = -b by omega, Int.mul_neg, Int.neg_neg]
  · left; refine ⟨by simp [ha, hb], ?_⟩
    rw [show ((a.natAbs : Nat) : Int) = a by omega, show ((b.natAbs : Nat) : Int) = b by omega]

/-! ### Logarithms and powers -/
set_option maxHeartbeats 400000 in
theorem refLog_any (n : Int) (w : World) (h1 : n ≤ 9223372036854775807) :
    Calls Try.prog 33 #[.int .i64 n] w fun e w' => e = .returned (.int .i64 (n.toNat.log2 : Nat)) ∧ w = w' := by
  have hL := log2_lt63 n h1
  go_enter Try.func33, Try.ntmps33
  go_wp2
  go_loop [0, 3] (fun x i => ∃ (m : Int) (k : Nat), x = .int .i64 m ∧ i = .int .i64 k ∧ m ≤ 9223372036854775807 ∧ m.toNat.log2 + k = n.toNat.log2) (fun x _ => (intOf x).toNat)
  case atStart => exact ⟨n, 0, rfl, rfl, h1, by omega⟩
  case round =>
    obtain ⟨m, k, rfl, rfl, hm, hk⟩ := hrel
    have Hk := Lib.hid hk
    have hk63 : k < 63 := by omega
    clear hk hL
    by_cases hlt : 1 < m
    · go_wp2
      go_round
      case rel => exact ⟨m / 2, k + 1, rfl, by go_num, by omega, by have := Hk.out; rw [log2_step (n := m.toNat) (by omega)] at this; rw [show (m / 2).toNat = m.toNat / 2 by omega]; omega⟩
      case measure => simp [intOf]; omega
    · go_wp2
      go_ret
      exact ⟨ret_int (by have := Hk.out; rw [log2_small (n := m.toNat) (by omega)] at this; omega), rfl⟩

set_option maxHeartbeats 400000 in
theorem refPow_any (k : Nat) (w : World) (hk : k < 63) :
    Calls Try.prog 30 #[.int .i64 k] w fun e w' => e = .returned (.int .i64 (2 ^ k : Nat)) ∧ w = w' := by
  go_enter Try.func30, Try.ntmps30
  go_wp2
  go_loop [3, 4] (fun x i => ∃ (p : Int) (j : Nat), x = .int .i64 p ∧ i = .int .i64 j ∧ j ≤ k ∧ p = ((2 ^ j : Nat) : Int)) (fun _ i => k - (intOf i).toNat)
  case atStart => exact ⟨1, 0, rfl, rfl, Nat.zero_le _, rfl⟩
  case round =>
    obtain ⟨p, j, rfl, rfl, hj, hp⟩ := hrel
    have Hp := Lib.hid hp
    by_cases hlt : j < k
    · obtain ⟨q, hq⟩ : ∃ q : Nat, 2 ^ j = q := ⟨_, rfl⟩
      obtain ⟨q2, hq2⟩ : ∃ q : Nat, 2 ^ (j + 1) = q := ⟨_, rfl⟩
      have hsn := Nat.pow_succ (n := 2) (m := j)
      have hbq := pow_lt63 (k := j) (by omega)
      have hbq2 := pow_lt63 (k := j + 1) (by omega)
      rw [hq] at hp hsn hbq
      rw [hq2] at hsn hbq2
      have hb : 0 ≤ p ∧ p ≤ 4611686018427387904 := by omega
      have hs : ((2 ^ (j + 1) : Nat) : Int) = 2 * p := by rw [hq2]; omega
      have hb2 : 2 * p ≤ 4611686018427387904 := by omega
      clear hbq hbq2 hsn hq hq2
      have Hs := Lib.hid hs
      clear hp hs
      go_wp2
      go_round
      case rel => exact ⟨2 * p, j + 1, rfl, by go_num, by omega, Hs.out.symm⟩
      case measure => simp [intOf]; omega
    · obtain rfl : j = k := by omega
      clear hp
      go_wp2
      go_ret
      exact ⟨ret_int Hp.out, rfl⟩

theorem clog_one : clog 1 = 0 := rfl

theorem upV_no {n : Int} (h : n < 1) : upV n = (0, 2) := by unfold upV; rw [if_pos h]
theorem upV_yes {n : Int} (h : ¬ n < 1) : upV n = (((clog n.toNat : Nat) : Int), 0) := by unfold upV; rw [if_neg h]
theorem downV_no {n : Int} (h : n < 1) : downV n = (0, 2) := by unfold downV; rw [if_pos h]
theorem downV_yes {n : Int} (h : ¬ n < 1) : downV n = (((n.toNat.log2 : Nat) : Int), 0) := by unfold downV; rw [if_neg h]

theorem powB_no {n : Int} (h : n ≤ 0) : powB n = false := by unfold powB; simp; omega

set_option maxHeartbeats 400000 in
theorem refPower_any (n : Int) (w : World) (wn : (Lit.int .i64 n).wf = true) :
    Calls Try.prog 32 #[.int .i64 n] w fun e w' => e = .returned (.bool (powB n)) ∧ w = w' := by
  have bn := bd64 wn
  clear wn
  by_cases h : n < 1
  · have HV := Lib.hid (powB_no (n := n) (by omega))
    go_enter Try.func32, Try.ntmps32
    go_wp2
    go_ret
    exact ⟨ret_bool HV.out.symm, rfl⟩
  · have hL := log2_lt63 n (by omega)
    have HV := Lib.hid (show powB n = (((2 ^ n.toNat.log2 : Nat) : Int) == n) by
      unfold powB
      have : decide (0 < n) = true := by simp; omega
      rw [this, Bool.true_and]
      rfl)
    go_enter Try.func32, Try.ntmps32
    go_wp2_with (first | (go_at_call 33; refine (refLog_any _ _ (by omega)).mono ?_; rintro e w' ⟨rfl, rfl⟩) | (go_at_call 30; refine (refPow_any _ _ (by omega)).mono ?_; rintro e w' ⟨rfl, rfl⟩))
    go_ret
    exact ⟨ret_bool (by rw [HV.out, Int.natCast_pow]; rfl), rfl⟩

set_option maxHeartbeats 400000 in
theorem power_any (n : Int) (w : World) (wn : (Lit.int .i64 n).wf = true) :
    Calls Try.prog 21 #[.int .i64 n] w fun e w' => e = .returned (.bool (powB n)) ∧ w = w' := by
  have bn := bd64 wn
  clear wn
  by_cases h : n ≤ 0
  · have HV := Lib.hid (powB_no h)
    go_enter Try.func21, Try.ntmps21
    go_wp2
    go_ret
    exact ⟨ret_bool HV.out.symm, rfl⟩
  · have HV := Lib.hid (powB_and n (by omega) bn.2)
    go_enter Try.func21, Try.ntmps21
    go_wp2
    go_ret
    exact ⟨ret_bool HV.out, rfl⟩

def DownJ (n : Int) (w : World) (a' : Act) (w' : World) : Prop :=
  w' = w ∧ ∃ (m : Int) (k : Nat) (u4 u5 u6 u7 u8 u9 u10 u11 : Value), a' = { tmps := #[.int .i64 m, undef, .int .i64 k, .int .i64 0, u4, u5, u6, u7, u8, u9, u10, u11, undef], defers := [] } ∧ 1 ≤ m ∧ m ≤ 9223372036854775807 ∧ m.toNat.log2 + k = n.toNat.log2
def DownM (a' : Act) (_ : World) : Nat := (intOf (a'.tmps.getD 0 undef)).toNat

set_option maxHeartbeats 400000 in
theorem down_any (n : Int) (w : World) (wn : (Lit.int .i64 n).wf = true) :
    Calls Try.prog 22 #[.int .i64 n] w fun e w' => e = .returned (.tuple #[.int .i64 (downV n).1, .int .i64 (downV n).2]) ∧ w = w' := by
  have bn := bd64 wn
  clear wn
  by_cases h : n < 1
  · have HV := Lib.hid (downV_no h)
    have hn1 : ¬ 1 < n := by omega
    go_enter Try.func22, Try.ntmps22
    go_wp2
    refine wp_scope_jumps 0 (fun a' w' => False) (fun a' _ => 0) rfl ?_ ?_
    · go_wp2
      simp only [Exit.jump]
      go_ret2
      exact ⟨ret_pair HV.out, rfl⟩
    · rintro a' w' hF; exact hF.elim
  · have HV := Lib.hid (downV_yes h)
    have hL := log2_lt63 n (by omega)
    have h1 : 1 ≤ n := by omega
    clear h
    go_enter Try.func22, Try.ntmps22
    go_wp2
    refine wp_scope_jumps 0 (DownJ n w) DownM rfl ?_ ?_
    · by_cases hlt : 1 < n
      · go_wp2
        go_step3
        go_wp2
        go_step3
        exact ⟨rfl, rfl, n / 2, 1, _, _, _, _, _, _, _, _, rfl, by omega, by omega, by rw [log2_step (n := n.toNat) (by omega), show (n / 2).toNat = n.toNat / 2 by omega]⟩
      · go_wp2
        go_step3
        go_wp2
        simp only [Exit.jump]
        go_ret2
        exact ⟨ret_pair (HV.out.trans (by rw [log2_small (n := n.toNat) (by omega)]; rfl)), rfl⟩
    · rintro a' w' ⟨rfl, m, k, u4, u5, u6, u7, u8, u9, u10, u11, rfl, hm1, hm, hk⟩
      have Hk := Lib.hid hk
      have hk63 : k < 63 := by omega
      clear hk hL
      by_cases hlt : 1 < m
      · go_wp2
        go_step3
        refine ⟨rfl, ⟨rfl, m / 2, k + 1, _, _, _, _, _, _, _, _, rfl, by omega, by omega, ?_⟩, by simp [DownM, intOf]; omega⟩
        have := Hk.out
        rw [log2_step (n := m.toNat) (by omega)] at this
        rw [show (m / 2).toNat = m.toNat / 2 by omega]
        omega
      · go_wp2
        simp only [Exit.jump]
        go_ret2
        have hf : n.toNat.log2 = k := by
          have := Hk.out
          rw [log2_small (n := m.toNat) (by omega)] at this
          omega
        exact ⟨ret_pair (HV.out.trans (by rw [hf])), rfl⟩

theorem betweenV_arg {low high at_ steps : Int} (h : steps < 1 ∨ at_ < 0 ∨ steps < at_) : betweenV low high at_ steps = (0, 2) := by
  unfold betweenV; rw [if_pos (by simp; omega)]
theorem betweenV_over {low high at_ steps : Int} (h : ¬ (steps < 1 ∨ at_ < 0 ∨ steps < at_)) (h2 : [low, high, at_, steps].all smallB = false) : betweenV low high at_ steps = (0, 10) := by
  unfold betweenV; rw [if_neg (by simp; omega), if_neg (by intro c; simp at c; simp [c] at h2)]
theorem betweenV_ok {low high at_ steps : Int} (h : ¬ (steps < 1 ∨ at_ < 0 ∨ steps < at_)) (h2 : [low, high, at_, steps].all smallB = true) : betweenV low high at_ steps = (low * (steps - at_) + high * at_, 0) := by
  unfold betweenV; rw [if_neg (by simp; omega), if_pos (by simp at h2; simp [h2])]

theorem small_mul {x y : Int} (hx : -67108864 < x ∧ x < 67108864) (hy : -67108864 < y ∧ y < 67108864) : -4503599493152769 ≤ x * y ∧ x * y ≤ 4503599493152769 := by
  have : (x * y).natAbs ≤ 67108863 * 67108863 := by
    rw [Int.natAbs_mul]
    exact Nat.mul_le_mul (by omega) (by omega)
  omega

end Go.Proofs.Ytogbkhlbmchjlaa.Frac
