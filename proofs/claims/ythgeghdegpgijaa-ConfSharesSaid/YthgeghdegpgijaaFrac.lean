/- Contracts of the functions of package frac, and of the document's answer for it. -/
import Derived.Test.YthgeghdegpgijaaProg
import Derived.WalkKit
import Derived.WalkSpells
import Derived.WalkLawsBesides
import Derived.Deep.QuietTactic
import Derived.BigQuiet
import Derived.Lib.Hide
import Derived.Test.YthgeghdegpgijaaKit
import Derived.Test.YthgeghdegpgijaaFl
import Derived.Test.YthgeghdegpgijaaFracPlain
import Derived.Test.YthgeghdegpgijaaFracPlain2
import Derived.Test.YthgeghdegpgijaaShelf
namespace Go.Proofs.Ythgeghdegpgijaa.Frac
open Go.RowKit Go.Proofs.Ythgeghdegpgijaa

theorem all_take_succ (zs : List Int) (k : Nat) (h : k < zs.length) : (zs.take (k + 1)).all smallB = ((zs.take k).all smallB && smallB (zs.getD k 0)) := by
  rw [List.take_succ_eq_append_getElem h, List.all_append]
  simp [List.getD_eq_getElem?_getD, h]

set_option maxHeartbeats 400000 in
theorem small_any (b off cap : Nat) (zs : List Int) (w : World) (hl : zs.length ≤ 9223372036854775807) (hc : ∀ i, i < zs.length → w.cell? ⟨b, off + i, Option.none⟩ = some (.int .i64 (zs.getD i 0))) :
    Calls Try.prog 44 #[.slice (some ⟨b, off, Option.none⟩) zs.length cap] w fun e w' => e = .returned (.bool (zs.all smallB)) ∧ w = w' := by
  go_enter Try.func44, Try.ntmps44
  go_wp2
  go_loop [4, 7] (fun _ i => ∃ k : Nat, k ≤ zs.length ∧ i = .int .i64 k ∧ (zs.take k).all smallB = true) (fun _ i => zs.length - (intOf i).toNat)
  case atStart => exact ⟨0, Nat.zero_le _, rfl, rfl⟩
  case round =>
    obtain ⟨k, hk, rfl, hall⟩ := hrel
    have Hall := Lib.hid hall
    clear hall
    by_cases hlt : k < zs.length
    · have hcell := hc k hlt
      have Hs := Lib.hid (all_take_succ zs k hlt)
      clear hc
      generalize hz : zs.getD k 0 = z at hcell
      have Hz := Lib.hid hz
      clear hz
      have hno : smallB z = false → zs.all smallB = false := fun h => by
        rw [List.all_eq_false]
        refine ⟨zs[k], List.getElem_mem _, ?_⟩
        have := Hz.out
        simp [List.getD_eq_getElem?_getD, hlt] at this
        rw [this, h]; simp
      have Hno := Lib.hid hno
      clear hno
      by_cases h1 : -67108864 < z
      · by_cases h2 : z < 67108864
        · go_wp2
          go_round
          case rel => exact ⟨k + 1, by omega, by go_num, by rw [Hs.out, Hall.out, Hz.out, smallB_yes ⟨h1, h2⟩]; rfl⟩
          case measure => simp [intOf]; omega
        · go_wp2
          go_ret
          exact ⟨ret_bool (Hno.out (smallB_no (by omega))).symm, rfl⟩
      · go_wp2
        go_ret
        exact ⟨ret_bool (Hno.out (smallB_no (by omega))).symm, rfl⟩
    · have : k = zs.length := by omega
      subst this
      clear hc
      go_wp2
      go_ret
      exact ⟨ret_bool (by have := Hall.out; rw [List.take_length] at this; exact this.symm), rfl⟩

/-! ### frac.Cross -/
theorem cross_bits (a b c d : Int) (ha : smallB a = true) (hb : smallB b = true) (hc : smallB c = true) (hd : smallB d = true) :
    ∃ re im, cMulBits (floatOfInt .f64 a) (floatOfInt .f64 b) (floatOfInt .f64 c) (Op.negFloat .f64 (floatOfInt .f64 d)) = some (re, im) ∧ Ieee.double.order im 0 = some (compare (b * c - a * d) 0) := by
  rw [smallB_iff] at ha hb hc hd
  have key : ∀ x y : Int, (-67108864 < x ∧ x < 67108864) → (-67108864 < y ∧ y < 67108864) → (x * y).natAbs ≤ 67108863 * 67108863 := fun x y hx hy => by
    rw [Int.natAbs_mul]
    exact Nat.mul_le_mul (by omega) (by omega)
  have ia := Fl.isInt_ofInt a (by omega)
  have ib := Fl.isInt_ofInt b (by omega)
  have ic := Fl.isInt_ofInt c (by omega)
  have id := Fl.isInt_neg (Fl.isInt_ofInt d (by omega))
  have hd' : -67108864 < -d ∧ -d < 67108864 := by omega
  have k1 := key a c ha hc
  have k2 := key b (-d) hb hd'
  have k3 := key a (-d) ha hd'
  have k4 := key b c hb hc
  obtain ⟨ac, e1, i1⟩ := Fl.isInt_mul ia ic (by omega)
  obtain ⟨bd, e2, i2⟩ := Fl.isInt_mul ib id (by omega)
  obtain ⟨ad, e3, i3⟩ := Fl.isInt_mul ia id (by omega)
  obtain ⟨bc, e4, i4⟩ := Fl.isInt_mul ib ic (by omega)
  obtain ⟨re, e5, _⟩ := Fl.isInt_sub i1 i2 (by omega)
  obtain ⟨im, e6, i6⟩ := Fl.isInt_add i3 i4 (by omega)
  refine ⟨re, im, ?_, ?_⟩
  · unfold cMulBits
    simp only [e1, e2, e3, e4, e5, e6, Option.bind_some]
  · have := Fl.order_zero i6
    rw [this, show a * -d + b * c = b * c - a * d by rw [Int.mul_neg]; omega]

theorem small_is (b cap : Nat) (x y z t : Int) (w : World) (r : Bool) (hr : [x, y, z, t].all smallB = r)
    (h0 : w.cell? ⟨b, 0, Option.none⟩ = some (.int .i64 x)) (h1 : w.cell? ⟨b, 1, Option.none⟩ = some (.int .i64 y)) (h2 : w.cell? ⟨b, 2, Option.none⟩ = some (.int .i64 z)) (h3 : w.cell? ⟨b, 3, Option.none⟩ = some (.int .i64 t)) :
    Calls Try.prog 44 #[.slice (some ⟨b, 0, Option.none⟩) 4 cap] w fun e w' => e = .returned (.bool r) ∧ w = w' := by
  subst hr
  refine small_any b 0 cap [x, y, z, t] w (by simp) fun i hi => ?_
  match i, hi with
  | 0, _ => exact h0
  | 1, _ => exact h1
  | 2, _ => exact h2
  | 3, _ => exact h3

theorem cross_ways (a b c d : Int) (im : Nat) (hord : Ieee.double.order im 0 = some (compare (b * c - a * d) 0)) :
    ((FloatKind.f64.format.order im 0 == some .gt) = true ∧ sgn (a * d - b * c) = -1) ∨ ((FloatKind.f64.format.order im 0 == some .gt) = false ∧ (FloatKind.f64.format.order im 0 == some .lt) = true ∧ sgn (a * d - b * c) = 1) ∨ ((FloatKind.f64.format.order im 0 == some .gt) = false ∧ (FloatKind.f64.format.order im 0 == some .lt) = false ∧ sgn (a * d - b * c) = 0) := by
  rw [show FloatKind.f64.format = Ieee.double from rfl, hord]
  rcases Int.lt_trichotomy (b * c - a * d) 0 with h | h | h
  · rw [Int.compare_eq_lt.2 h]
    exact .inr (.inl ⟨rfl, rfl, by unfold sgn; rw [if_neg (by omega), if_pos (by omega)]⟩)
  · rw [h]
    exact .inr (.inr ⟨rfl, rfl, by unfold sgn; rw [if_neg (by omega), if_neg (by omega)]⟩)
  · rw [Int.compare_eq_gt.2 h]
    exact .inl ⟨rfl, by unfold sgn; rw [if_pos (by omega)]⟩

set_option maxHeartbeats 1000000 in
theorem cross_any (a b c d : Int) (w : World) :
    Calls Try.prog 37 #[.int .i64 a, .int .i64 b, .int .i64 c, .int .i64 d] w fun e w' => e = .returned (.tuple #[.int .i64 (crossV a b c d).1, .int .i64 (crossV a b c d).2]) ∧ Below w.heap.size w w' := by
  have hneg : ∀ (x : Nat) (w : World), (Op.unary .neg (.float .f64 x)).run Try.prog w = .ok (.float .f64 (Op.negFloat .f64 x)) w := fun _ _ => rfl
  by_cases hs : ([a, b, c, d].all smallB) = true
  · have hs' : smallB a = true ∧ smallB b = true ∧ smallB c = true ∧ smallB d = true := by simpa using hs
    obtain ⟨re, im, hmul, hord⟩ := cross_bits a b c d hs'.1 hs'.2.1 hs'.2.2.1 hs'.2.2.2
    have hV : crossV a b c d = (sgn (a * d - b * c), 0) := by unfold crossV; rw [if_pos (by simp [hs'])]
    have Hs := Lib.hid hs; clear hs
    have HV := Lib.hid hV; clear hV
    clear hs'
    have hrun := fun w => run_complex_mul (P := Try.prog) w 56 _ _ _ _ re im hmul
    clear hmul
    rcases cross_ways a b c d im hord with ⟨o1, hsgn⟩ | ⟨o1, o2, hsgn⟩ | ⟨o1, o2, hsgn⟩
    all_goals
      have Hsgn := Lib.hid hsgn
      clear hord hsgn
      go_enter Try.func37, Try.ntmps37
      go_wp2_with fail
      refine (small_is w.heap.size 4 a b c d _ true Hs.out ?h0 ?h1 ?h2 ?h3).mono ?_
      case h0 => go_simp
      case h1 => go_simp
      case h2 => go_simp
      case h3 => go_simp
      rintro e w' ⟨rfl, rfl⟩
      go_wp2
      go_ret2
      exact ⟨ret_pair (HV.out.trans (by rw [Hsgn.out])), (Below.refl _ _).alloc (Nat.le_refl _) _⟩
  · have hs2 : [a, b, c, d].all smallB = false := by simpa using hs
    have hV : crossV a b c d = (0, 10) := by unfold crossV; rw [if_neg (by simpa using hs)]
    have Hs := Lib.hid hs2; clear hs2 hs
    have HV := Lib.hid hV; clear hV
    go_enter Try.func37, Try.ntmps37
    go_wp2_with fail
    refine (small_is w.heap.size 4 a b c d _ false Hs.out ?h0 ?h1 ?h2 ?h3).mono ?_
    case h0 => go_simp
    case h1 => go_simp
    case h2 => go_simp
    case h3 => go_simp
    rintro e w' ⟨rfl, rfl⟩
    go_wp2
    go_ret2
    exact ⟨ret_pair HV.out, (Below.refl _ _).alloc (Nat.le_refl _) _⟩

theorem smallS {n : Int} : smallB n = true ∨ smallB n = false := by cases smallB n <;> simp

theorem addV_yes {a b : Int} (h : -9223372036854775808 ≤ a + b ∧ a + b ≤ 9223372036854775807) : addV a b = (a + b, 0) := by unfold addV; rw [if_pos (fits_yes h)]
theorem addV_no {a b : Int} (h : ¬ (-9223372036854775808 ≤ a + b ∧ a + b ≤ 9223372036854775807)) : addV a b = (0, 10) := by unfold addV; rw [fits_no h]; rfl

theorem mulV_yes {a b : Int} (h : -9223372036854775808 ≤ a * b ∧ a * b ≤ 9223372036854775807) : mulV a b = (a * b, 0) := by unfold mulV; rw [if_pos (fits_yes h)]
theorem mulV_no {a b : Int} (h : ¬ (-9223372036854775808 ≤ a * b ∧ a * b ≤ 9223372036854775807)) : mulV a b = (0, 10) := by unfold mulV; rw [fits_no h]; rfl

/-- A product by the sizes of its factors. -/
theorem mul_sizes (a b : Int) : ((!decide (a < 0) == decide (b < 0)) = false ∧ a * b = ((a.natAbs * b.natAbs : Nat) : Int)) ∨ ((!decide (a < 0) == decide (b < 0)) = true ∧ a * b = -((a.natAbs * b.natAbs : Nat) : Int)) := by
  rw [Int.natCast_mul]
  by_cases ha : a < 0 <;> by_cases hb : b < 0
  · left; refine ⟨by simp [ha, hb], ?_⟩
    rw [show ((a.natAbs : Nat) : Int) = -a by omega, show ((b.natAbs : Nat) : Int) = -b by omega, Int.neg_mul_neg]
  · right; refine ⟨by simp [ha, hb], ?_⟩
    rw [show ((a.natAbs : Nat) : Int) = -a by omega, show ((b.natAbs : Nat) : Int) = b by omega, Int.neg_mul, Int.neg_neg]
  · right; refine ⟨by simp [ha, hb], ?_⟩
    rw [show ((a.natAbs : Nat) : Int) = a by omega, show ((b.natAbs : Nat) : Int) = -b by omega, Int.mul_neg, Int.neg_neg]
  · left; refine ⟨by simp [ha, hb], ?_⟩
    rw [show ((a.natAbs : Nat) : Int) = a by omega, show ((b.natAbs : Nat) : Int) = b by omega]

/-! ### Logarithms and powers -/
set_option maxHeartbeats 400000 in
theorem refLog_any (n : Int) (w : World) (h1 : n ≤ 9223372036854775807) :
    Calls Try.prog 41 #[.int .i64 n] w fun e w' => e = .returned (.int .i64 (n.toNat.log2 : Nat)) ∧ w = w' := by
  have hL := log2_lt63 n h1
  go_enter Try.func41, Try.ntmps41
  go_wp2
  go_loop [0, 3] (fun x i => ∃ (m : Int) (k : Nat), x = .int .i64 m ∧ i = .int .i64 k ∧ m ≤ 9223372036854775807 ∧ m.toNat.log2 + k = n.toNat.log2) (fun x _ => (intOf x).toNat)
  case atStart => exact ⟨n, 0, rfl, rfl, h1, by omega⟩
  case round =>
    obtain ⟨m, k, rfl, rfl, hm, hk⟩ := hrel
    have Hk := Lib.hid hk
    have hk63 : k < 63 := by omega
    clear hk hL
    by_cases hlt : 1 < m
    · go_wp2
      go_round
      case rel => exact ⟨m / 2, k + 1, rfl, by go_num, by omega, by have := Hk.out; rw [log2_step (n := m.toNat) (by omega)] at this; rw [show (m / 2).toNat = m.toNat / 2 by omega]; omega⟩
      case measure => simp [intOf]; omega
    · go_wp2
      go_ret
      exact ⟨ret_int (by have := Hk.out; rw [log2_small (n := m.toNat) (by omega)] at this; omega), rfl⟩

set_option maxHeartbeats 400000 in
theorem refPow_any (k : Nat) (w : World) (hk : k < 63) :
    Calls Try.prog 46 #[.int .i64 k] w fun e w' => e = .returned (.int .i64 (2 ^ k : Nat)) ∧ w = w' := by
  go_enter Try.func46, Try.ntmps46
  go_wp2
  go_loop [3, 4] (fun x i => ∃ (p : Int) (j : Nat), x = .int .i64 p ∧ i = .int .i64 j ∧ j ≤ k ∧ p = ((2 ^ j : Nat) : Int)) (fun _ i => k - (intOf i).toNat)
  case atStart => exact ⟨1, 0, rfl, rfl, Nat.zero_le _, rfl⟩
  case round =>
    obtain ⟨p, j, rfl, rfl, hj, hp⟩ := hrel
    have Hp := Lib.hid hp
    by_cases hlt : j < k
    · obtain ⟨q, hq⟩ : ∃ q : Nat, 2 ^ j = q := ⟨_, rfl⟩
      obtain ⟨q2, hq2⟩ : ∃ q : Nat, 2 ^ (j + 1) = q := ⟨_, rfl⟩
      have hsn := Nat.pow_succ (n := 2) (m := j)
      have hbq := pow_lt63 (k := j) (by omega)
      have hbq2 := pow_lt63 (k := j + 1) (by omega)
      rw [hq] at hp hsn hbq
      rw [hq2] at hsn hbq2
      have hb : 0 ≤ p ∧ p ≤ 4611686018427387904 := by omega
      have hs : ((2 ^ (j + 1) : Nat) : Int) = 2 * p := by rw [hq2]; omega
      have hb2 : 2 * p ≤ 4611686018427387904 := by omega
      clear hbq hbq2 hsn hq hq2
      have Hs := Lib.hid hs
      clear hp hs
      go_wp2
      go_round
      case rel => exact ⟨2 * p, j + 1, rfl, by go_num, by omega, Hs.out.symm⟩
      case measure => simp [intOf]; omega
    · obtain rfl : j = k := by omega
      clear hp
      go_wp2
      go_ret
      exact ⟨ret_int Hp.out, rfl⟩

theorem clog_one : clog 1 = 0 := rfl

theorem upV_no {n : Int} (h : n < 1) : upV n = (0, 2) := by unfold upV; rw [if_pos h]
theorem upV_yes {n : Int} (h : ¬ n < 1) : upV n = (((clog n.toNat : Nat) : Int), 0) := by unfold upV; rw [if_neg h]
theorem downV_no {n : Int} (h : n < 1) : downV n = (0, 2) := by unfold downV; rw [if_pos h]
theorem downV_yes {n : Int} (h : ¬ n < 1) : downV n = (((n.toNat.log2 : Nat) : Int), 0) := by unfold downV; rw [if_neg h]

theorem powB_no {n : Int} (h : n ≤ 0) : powB n = false := by unfold powB; simp; omega

set_option maxHeartbeats 400000 in
theorem refPower_any (n : Int) (w : World) (wn : (Lit.int .i64 n).wf = true) :
    Calls Try.prog 45 #[.int .i64 n] w fun e w' => e = .returned (.bool (powB n)) ∧ w = w' := by
  have bn := bd64 wn
  clear wn
  by_cases h : n < 1
  · have HV := Lib.hid (powB_no (n := n) (by omega))
    go_enter Try.func45, Try.ntmps45
    go_wp2
    go_ret
    exact ⟨ret_bool HV.out.symm, rfl⟩
  · have hL := log2_lt63 n (by omega)
    have HV := Lib.hid (show powB n = (((2 ^ n.toNat.log2 : Nat) : Int) == n) by
      unfold powB
      have : decide (0 < n) = true := by simp; omega
      rw [this, Bool.true_and]
      rfl)
    go_enter Try.func45, Try.ntmps45
    go_wp2_with (first | (go_at_call 41; refine (refLog_any _ _ (by omega)).mono ?_; rintro e w' ⟨rfl, rfl⟩) | (go_at_call 46; refine (refPow_any _ _ (by omega)).mono ?_; rintro e w' ⟨rfl, rfl⟩))
    go_ret
    exact ⟨ret_bool (by rw [HV.out, Int.natCast_pow]; rfl), rfl⟩

set_option maxHeartbeats 400000 in
theorem power_any (n : Int) (w : World) (wn : (Lit.int .i64 n).wf = true) :
    Calls Try.prog 39 #[.int .i64 n] w fun e w' => e = .returned (.bool (powB n)) ∧ w = w' := by
  have bn := bd64 wn
  clear wn
  by_cases h : n ≤ 0
  · have HV := Lib.hid (powB_no h)
    go_enter Try.func39, Try.ntmps39
    go_wp2
    go_ret
    exact ⟨ret_bool HV.out.symm, rfl⟩
  · have HV := Lib.hid (powB_and n (by omega) bn.2)
    go_enter Try.func39, Try.ntmps39
    go_wp2
    go_ret
    exact ⟨ret_bool HV.out, rfl⟩

def DownJ (n : Int) (w : World) (a' : Act) (w' : World) : Prop :=
  w' = w ∧ ∃ (m : Int) (k : Nat) (u4 u5 u6 u7 u8 u9 u10 u11 : Value), a' = { tmps := #[.int .i64 m, undef, .int .i64 k, .int .i64 0, u4, u5, u6, u7, u8, u9, u10, u11, undef], defers := [] } ∧ 1 ≤ m ∧ m ≤ 9223372036854775807 ∧ m.toNat.log2 + k = n.toNat.log2
def DownM (a' : Act) (_ : World) : Nat := (intOf (a'.tmps.getD 0 undef)).toNat

set_option maxHeartbeats 400000 in
theorem down_any (n : Int) (w : World) (wn : (Lit.int .i64 n).wf = true) :
    Calls Try.prog 40 #[.int .i64 n] w fun e w' => e = .returned (.tuple #[.int .i64 (downV n).1, .int .i64 (downV n).2]) ∧ w = w' := by
  have bn := bd64 wn
  clear wn
  by_cases h : n < 1
  · have HV := Lib.hid (downV_no h)
    have hn1 : ¬ 1 < n := by omega
    go_enter Try.func40, Try.ntmps40
    go_wp2
    refine wp_scope_jumps 0 (fun a' w' => False) (fun a' _ => 0) rfl ?_ ?_
    · go_wp2
      simp only [Exit.jump]
      go_ret2
      exact ⟨ret_pair HV.out, rfl⟩
    · rintro a' w' hF; exact hF.elim
  · have HV := Lib.hid (downV_yes h)
    have hL := log2_lt63 n (by omega)
    have h1 : 1 ≤ n := by omega
    clear h
    go_enter Try.func40, Try.ntmps40
    go_wp2
    refine wp_scope_jumps 0 (DownJ n w) DownM rfl ?_ ?_
    · by_cases hlt : 1 < n
      · go_wp2
        go_step3
        go_wp2
        go_step3
        exact ⟨rfl, rfl, n / 2, 1, _, _, _, _, _, _, _, _, rfl, by omega, by omega, by rw [log2_step (n := n.toNat) (by omega), show (n / 2).toNat = n.toNat / 2 by omega]⟩
      · go_wp2
        go_step3
        go_wp2
        simp only [Exit.jump]
        go_ret2
        exact ⟨ret_pair (HV.out.trans (by rw [log2_small (n := n.toNat) (by omega)]; rfl)), rfl⟩
    · rintro a' w' ⟨rfl, m, k, u4, u5, u6, u7, u8, u9, u10, u11, rfl, hm1, hm, hk⟩
      have Hk := Lib.hid hk
      have hk63 : k < 63 := by omega
      clear hk hL
      by_cases hlt : 1 < m
      · go_wp2
        go_step3
        refine ⟨rfl, ⟨rfl, m / 2, k + 1, _, _, _, _, _, _, _, _, rfl, by omega, by omega, ?_⟩, by simp [DownM, intOf]; omega⟩
        have := Hk.out
        rw [log2_step (n := m.toNat) (by omega)] at this
        rw [show (m / 2).toNat = m.toNat / 2 by omega]
        omega
      · go_wp2
        simp only [Exit.jump]
        go_ret2
        have hf : n.toNat.log2 = k := by
          have := Hk.out
          rw [log2_small (n := m.toNat) (by omega)] at this
          omega
        exact ⟨ret_pair (HV.out.trans (by rw [hf])), rfl⟩

theorem betweenV_arg {low high at_ steps : Int} (h : steps < 1 ∨ at_ < 0 ∨ steps < at_) : betweenV low high at_ steps = (0, 2) := by
  unfold betweenV; rw [if_pos (by simp; omega)]
theorem betweenV_over {low high at_ steps : Int} (h : ¬ (steps < 1 ∨ at_ < 0 ∨ steps < at_)) (h2 : [low, high, at_, steps].all smallB = false) : betweenV low high at_ steps = (0, 10) := by
  unfold betweenV; rw [if_neg (by simp; omega), if_neg (by intro c; simp at c; simp [c] at h2)]
theorem betweenV_ok {low high at_ steps : Int} (h : ¬ (steps < 1 ∨ at_ < 0 ∨ steps < at_)) (h2 : [low, high, at_, steps].all smallB = true) : betweenV low high at_ steps = (low * (steps - at_) + high * at_, 0) := by
  unfold betweenV; rw [if_neg (by simp; omega), if_pos (by simp at h2; simp [h2])]

theorem small_mul {x y : Int} (hx : -67108864 < x ∧ x < 67108864) (hy : -67108864 < y ∧ y < 67108864) : -4503599493152769 ≤ x * y ∧ x * y ≤ 4503599493152769 := by
  have : (x * y).natAbs ≤ 67108863 * 67108863 := by
    rw [Int.natAbs_mul]
    exact Nat.mul_le_mul (by omega) (by omega)
  omega

set_option maxHeartbeats 1000000 in
theorem between_any (low high at_ steps : Int) (w : World) :
    Calls Try.prog 42 #[.int .i64 low, .int .i64 high, .int .i64 at_, .int .i64 steps] w fun e w' => e = .returned (.tuple #[.int .i64 (betweenV low high at_ steps).1, .int .i64 (betweenV low high at_ steps).2]) ∧ Below w.heap.size w w' := by
  by_cases h : steps < 1 ∨ at_ < 0 ∨ steps < at_
  · have HV := Lib.hid (betweenV_arg (low := low) (high := high) h)
    have hw : steps < 1 ∨ (¬ steps < 1 ∧ at_ < 0) ∨ (¬ steps < 1 ∧ ¬ at_ < 0 ∧ steps < at_) := by omega
    clear h
    rcases hw with h | ⟨h, h2⟩ | ⟨h, h2, h3⟩
    all_goals
      go_enter Try.func42, Try.ntmps42
      go_wp2
      go_ret2
      exact ⟨ret_pair HV.out, Below.refl _ _⟩
  · have h1 : ¬ steps < 1 := by omega
    have h2 : ¬ at_ < 0 := by omega
    have h3 : ¬ steps < at_ := by omega
    cases hs : [low, high, at_, steps].all smallB
    · have HV := Lib.hid (betweenV_over h hs)
      have Hs := Lib.hid hs
      clear h hs
      go_enter Try.func42, Try.ntmps42
      go_wp2_with fail
      refine (small_is w.heap.size 4 low high at_ steps _ false Hs.out ?h0 ?h1 ?h2 ?h3).mono ?_
      case h0 => go_simp
      case h1 => go_simp
      case h2 => go_simp
      case h3 => go_simp
      rintro e w' ⟨rfl, rfl⟩
      go_wp2
      go_ret2
      exact ⟨ret_pair HV.out, (Below.refl _ _).alloc (Nat.le_refl _) _⟩
    · have HV := Lib.hid (betweenV_ok h hs)
      have Hs := Lib.hid hs
      have hs' : smallB low = true ∧ smallB high = true ∧ smallB at_ = true ∧ smallB steps = true := by simpa using hs
      simp only [smallB_iff] at hs'
      obtain ⟨s1, s2, s3, s4⟩ := hs'
      have e : low * steps + (high - low) * at_ = low * (steps - at_) + high * at_ := by
        rw [Int.sub_mul, Int.mul_sub]; omega
      have He := Lib.hid e
      have m1 := small_mul s1 s4
      have m2 := small_mul s2 s3
      have m3 := small_mul s1 s3
      have m4 : -9007198986305538 ≤ (high - low) * at_ ∧ (high - low) * at_ ≤ 9007198986305538 := by
        rw [Int.sub_mul]; omega
      clear h hs e m2 m3
      go_enter Try.func42, Try.ntmps42
      go_wp2_with fail
      refine (small_is w.heap.size 4 low high at_ steps _ true Hs.out ?h4 ?h5 ?h6 ?h7).mono ?_
      case h4 => go_simp
      case h5 => go_simp
      case h6 => go_simp
      case h7 => go_simp
      rintro e w' ⟨rfl, rfl⟩
      go_wp2
      go_ret2
      exact ⟨ret_pair (HV.out.trans (by rw [He.out])), (Below.refl _ _).alloc (Nat.le_refl _) _⟩

end Go.Proofs.Ythgeghdegpgijaa.Frac
