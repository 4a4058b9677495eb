/- Lists of windows: Row. -/
import Derived.Test.YtogbkhlbmchjlaaWin6
namespace Go.Proofs.Ytogbkhlbmchjlaa.Win
open Go.RowKit Go.Shelf Go.Proofs.Ytogbkhlbmchjlaa Go.Proofs.Ytogbkhlbmchjlaa.Frac

def rowP (k i : Nat) : Int × Int := (((i * 2 ^ k : Nat) : Int), ((i * 2 ^ k + 2 ^ k : Nat) : Int))
def rowL (a c h : Nat) : List (Int × Int) := upto (rowP (a + h)) (2 ^ (c - h))
def hOk (seg size h : Int) : Prop := okB seg size = true ∧ 0 ≤ h ∧ h ≤ ((highN seg size : Nat) : Int)
instance (seg size h : Int) : Decidable (hOk seg size h) := by unfold hOk; infer_instance
def rowV (seg size h : Int) : List (Int × Int) × Int := if hOk seg size h then (rowL seg.toNat.log2 (highN seg size) h.toNat, 0) else ([], 2)

theorem lowW_mul (k i : Nat) : lowW k (i * 2 ^ k) = i * 2 ^ k := by
  unfold lowW; rw [Nat.mul_div_cancel _ (Nat.pow_pos (by decide))]
theorem asked_none (seg size : Int) (w : World) :
    Calls Try.prog 25 #[.int .i64 seg, .int .i64 size, .slice Option.none 0 0] w fun e w' => e = .returned (.tuple #[.int .i64 (highV seg size).1, .int .i64 (highV seg size).2]) ∧ w = w' := by
  have h := asked_any seg size Option.none 0 [] w Rd.nil (by simp)
  have e : askedV seg size [] = highV seg size := by unfold askedV highV; simp
  rw [e] at h
  exact h

set_option maxRecDepth 100000 in
set_option maxHeartbeats 4000000 in
theorem row_ok (a c h : Nat) (w : World) (q1 : 2 ≤ a) (q2 : a ≤ 6) (q3 : a + c ≤ 16) (hh : h ≤ c) : Calls Try.prog 16 #[.int .i64 ((2 ^ a : Nat) : Int), .int .i64 ((2 ^ (a + c) : Nat) : Int), .int .i64 h] w fun e w' => AnsP (rowL a c h, 0) w e w' := by
  obtain ⟨i0, hi, hz0, hz1, hz2⟩ := info_parts info2
  have HA : Hid (highV ((2 ^ a : Nat) : Int) ((2 ^ (a + c) : Nat) : Int) = ((c : Int), 0)) := Lib.hid (by
    unfold highV; rw [if_pos (okB_of q1 q2 q3), highN_of])
  have hs16 : 2 ^ (a + c) ≤ 65536 := Nat.le_trans (Nat.pow_le_pow_right (by decide) q3) (by decide)
  have hp16 : 2 ^ (a + h) ≤ 65536 := Nat.le_trans (Nat.pow_le_pow_right (by decide) (show a + h ≤ 16 by omega)) (by decide)
  have hp0 : 0 < 2 ^ (a + h) := Nat.pow_pos (by decide)
  have hmul : ((2 ^ a : Nat) : Int) * (2 : Int) ^ h = ((2 ^ (a + h) : Nat) : Int) := by rw [Nat.pow_add]; simp
  have hn : 2 ^ (a + c) = 2 ^ (c - h) * 2 ^ (a + h) := by rw [← Nat.pow_add]; congr 1; omega
  have HN := Lib.hid hn
  have HAR : Hid (∀ i, i * 2 ^ (a + h) ≤ 65536 → ∀ w, Calls Try.prog 26 #[.int .i64 ((2 ^ (a + h) : Nat) : Int), .int .i64 ((i * 2 ^ (a + h) : Nat) : Int)] w fun e w' => e = .returned (.agg #[.int .i64 ((i * 2 ^ (a + h) : Nat) : Int), .int .i64 ((i * 2 ^ (a + h) + 2 ^ (a + h) : Nat) : Int)]) ∧ Below w.heap.size w w') := Lib.hid (fun i hi w => by
    have := around_any (a + h) (i * 2 ^ (a + h)) w (by omega) hi
    rwa [lowW_mul] at this)
  have HP : Hid (∀ i, rowP (a + h) i = (((i * 2 ^ (a + h) : Nat) : Int), ((i * 2 ^ (a + h) + 2 ^ (a + h) : Nat) : Int))) := Lib.hid (fun _ => rfl)
  clear hn
  generalize (2 ^ (a + c) : Nat) = pn at *
  generalize (2 ^ (a + h) : Nat) = p at *
  generalize hcc : (2 ^ (c - h) : Nat) = cc at *
  have HCC := Lib.hid hcc
  generalize (2 ^ a : Nat) = pa at *
  clear hcc
  have hcn : cc ≤ pn := by rw [HN.out]; exact Nat.le_mul_of_pos_right _ hp0
  have hd1 : decide ((h : Int) < 0) = false := by rw [decide_eq_false_iff_not]; omega
  have hd2 : decide (c < h) = false := by rw [decide_eq_false_iff_not]; omega
  go_enter Try.func16, Try.ntmps16
  go_wp2_with fail
  refine (asked_none _ _ _).mono ?_
  rintro e w' ⟨rfl, rfl⟩
  rw [HA.out]
  go_wp2_with fail
  go_outline
  go_loopw [6, 9] (fun v i wr => ∃ k : Nat, k ≤ cc ∧ i = .int .i64 ((k * p : Nat) : Int) ∧ wr.ownsRow w.heap.size 38 2 v k (pcells (upto (rowP (a + h)) k)) ∧ Below w.heap.size w wr) (fun _ i _ => pn - (intOf i).toNat)
  case atStart => exact ⟨0, Nat.zero_le _, by simp, World.ownsRow_nil _ _ _ _, Below.refl _ _⟩
  case round =>
    obtain ⟨k, hk, rfl, hown, hbl⟩ := hrel
    have HO := Lib.hid hown
    have HB := Lib.hid hbl
    have hkp : k * p ≤ pn := by rw [HN.out]; exact Nat.mul_le_mul_right _ hk
    by_cases hlt : k < cc
    · have hlt2 : k * p < pn := by rw [HN.out]; exact Nat.mul_lt_mul_of_pos_right hlt hp0
      have HF := Lib.hid (HAR.out k (by omega))
      have HPk := Lib.hid (HP.out k)
      have HS : Hid ((k + 1) * p = k * p + p) := Lib.hid (by rw [Nat.add_mul, Nat.one_mul])
      clear hown hbl
      generalize k * p = x at *
      have hxp : ((x + p : Nat) : Int) = (x : Int) + (p : Int) := by omega
      go_wp2_with fail
      refine (HF.out _).mono ?_
      rintro e w1 ⟨rfl, hb1⟩
      have HO1 := Lib.hid (HO.out.kept (grown0 hb1) (by cases hv : Value.ownBlock _ with
        | none => exact .inl rfl
        | some k => exact .inr (by simp)))
      have HB1 := Lib.hid (bstep HB.out hb1)
      clear hb1 hxp
      go_wp2_with (at_builtin; refine wpList_append_pair HO1.out HB1.out.size rfl _ _ 31 rfl i0 Try.underlying31 hi hz0 hz1 hz2 _ _ 1 rfl rfl (by unfold maxLen; omega) (by omega) ?_)
      intro v' w2 hown' hb'
      have HO2 := Lib.hid hown'
      have HB2 := Lib.hid (HB1.out.trans hb')
      clear hown' hb'
      go_wp2
      go_roundw
      case rel => exact ⟨k + 1, by omega, by rw [HS.out]; go_num, by rw [upto_succ, HPk.out]; exact HO2.out, HB2.out⟩
      case measure => simp [intOf]; omega
    · obtain rfl : k = cc := by omega
      have hge : k * p = pn := HN.out.symm
      rw [hge]
      have hnl : ¬ ((pn : Int) < (pn : Int)) := by omega
      clear hown hbl hkp hge
      go_wp2
      go_ret2
      exact AnsP.some (n := k) rfl ((upto_length _ _).trans HCC.out) (by unfold rowL; rw [HCC.out]; exact HO.out) HB.out

set_option maxRecDepth 100000 in
set_option maxHeartbeats 4000000 in
theorem row_bad (seg size h : Int) (w : World) (hb : ¬ hOk seg size h) : Calls Try.prog 16 #[.int .i64 seg, .int .i64 size, .int .i64 h] w fun e w' => AnsP ([], 2) w e w' := by
  by_cases ho : okB seg size = true
  · have HA := Lib.hid (show highV seg size = (((highN seg size : Nat) : Int), 0) from if_pos ho)
    by_cases h1 : 0 ≤ h
    · have h2 : ¬ h ≤ ((highN seg size : Nat) : Int) := fun g => hb ⟨ho, h1, g⟩
      clear ho hb
      generalize highN seg size = H at *
      go_enter Try.func16, Try.ntmps16
      go_wp2_with fail
      refine (asked_none _ _ _).mono ?_
      rintro e w' ⟨rfl, rfl⟩
      rw [HA.out]
      go_wp2
      go_ret2
      exact AnsP.nil rfl (Below.refl _ _)
    · clear ho hb
      generalize highN seg size = H at *
      go_enter Try.func16, Try.ntmps16
      go_wp2_with fail
      refine (asked_none _ _ _).mono ?_
      rintro e w' ⟨rfl, rfl⟩
      rw [HA.out]
      go_wp2
      go_ret2
      exact AnsP.nil rfl (Below.refl _ _)
  · have HA := Lib.hid (show highV seg size = (0, 2) from if_neg ho)
    clear ho hb
    go_enter Try.func16, Try.ntmps16
    go_wp2_with fail
    refine (asked_none _ _ _).mono ?_
    rintro e w' ⟨rfl, rfl⟩
    rw [HA.out]
    go_wp2
    go_ret2
    exact AnsP.nil rfl (Below.refl _ _)

/-! ### The document's -/
theorem askA_row {seg size h : Int} : askA seg size h 0 = true ↔ hOk seg size h := by
  rw [askA_iff]
  constructor
  · rintro ⟨h1, _, h3, h4⟩
    exact ⟨h1, h3, h4⟩
  · rintro ⟨h1, h3, h4⟩
    obtain ⟨a, c, _, h2, _⟩ := okB_form h1
    exact ⟨h1, inR_iff.2 ⟨Int.le_refl _, by rw [h2]; have : 0 < 2 ^ (a + c) := Nat.pow_pos (by decide)
                                            omega⟩, h3, h4⟩

set_option maxRecDepth 100000 in
set_option maxHeartbeats 4000000 in
theorem refRow_ok (a c h : Nat) (w : World) (q1 : 2 ≤ a) (q2 : a ≤ 6) (q3 : a + c ≤ 16) (hh : h ≤ c) : Calls Try.prog 17 #[.int .i64 ((2 ^ a : Nat) : Int), .int .i64 ((2 ^ (a + c) : Nat) : Int), .int .i64 h] w fun e w' => AnsP (rowL a c h, 0) w e w' := by
  obtain ⟨i0, hi, hz0, hz1, hz2⟩ := info_parts info2
  have HA : Hid (∀ w, Calls Try.prog 27 #[.int .i64 ((2 ^ a : Nat) : Int), .int .i64 ((2 ^ (a + c) : Nat) : Int), .int .i64 h, .int .i64 0] w fun e w' => e = .returned (.int .i64 0) ∧ w = w') := Lib.hid (fun w => by
    have := refAsked_any ((2 ^ a : Nat) : Int) ((2 ^ (a + c) : Nat) : Int) h 0 w
    rw [if_pos (askA_row.2 ⟨okB_of q1 q2 q3, by omega, by rw [highN_of]; omega⟩)] at this
    exact this)
  have hs16 : 2 ^ (a + c) ≤ 65536 := Nat.le_trans (Nat.pow_le_pow_right (by decide) q3) (by decide)
  have hp16 : 2 ^ (a + h) ≤ 65536 := Nat.le_trans (Nat.pow_le_pow_right (by decide) (show a + h ≤ 16 by omega)) (by decide)
  have hp0 : 0 < 2 ^ (a + h) := Nat.pow_pos (by decide)
  have hmul : ((2 ^ a : Nat) : Int) * ((2 ^ h : Nat) : Int) = ((2 ^ (a + h) : Nat) : Int) := by rw [Nat.pow_add]; exact (Int.natCast_mul _ _).symm
  have hn : 2 ^ (a + c) = 2 ^ (c - h) * 2 ^ (a + h) := by rw [← Nat.pow_add]; congr 1; omega
  have HN := Lib.hid hn
  have HPW := Lib.hid (refPow_any h · (by omega))
  have HP : Hid (∀ i, rowP (a + h) i = (((i * 2 ^ (a + h) : Nat) : Int), ((i * 2 ^ (a + h) + 2 ^ (a + h) : Nat) : Int))) := Lib.hid (fun _ => rfl)
  clear hn
  generalize (2 ^ (a + c) : Nat) = pn at *
  generalize (2 ^ (a + h) : Nat) = p at *
  generalize hcc : (2 ^ (c - h) : Nat) = cc at *
  have HCC := Lib.hid hcc
  generalize (2 ^ a : Nat) = pa at *
  generalize (2 ^ h : Nat) = ph at *
  clear hcc
  have hcn : cc ≤ pn := by rw [HN.out]; exact Nat.le_mul_of_pos_right _ hp0
  go_enter Try.func17, Try.ntmps17
  go_wp2_with fail
  refine (HA.out _).mono ?_
  rintro e w' ⟨rfl, rfl⟩
  go_wp2_with fail
  refine (HPW.out _).mono ?_
  rintro e w' ⟨rfl, rfl⟩
  go_wp2_with fail
  go_loopw [9, 11] (fun v i wr => ∃ k : Nat, k ≤ cc ∧ i = .int .i64 ((k * p : Nat) : Int) ∧ wr.ownsRow w.heap.size 38 2 v k (pcells (upto (rowP (a + h)) k)) ∧ Below w.heap.size w wr) (fun _ i _ => pn - (intOf i).toNat)
  case atStart => exact ⟨0, Nat.zero_le _, by simp, World.ownsRow_nil _ _ _ _, Below.refl _ _⟩
  case round =>
    obtain ⟨k, hk, rfl, hown, hbl⟩ := hrel
    have HO := Lib.hid hown
    have HB := Lib.hid hbl
    have hkp : k * p ≤ pn := by rw [HN.out]; exact Nat.mul_le_mul_right _ hk
    by_cases hlt : k < cc
    · have hlt2 : k * p < pn := by rw [HN.out]; exact Nat.mul_lt_mul_of_pos_right hlt hp0
      have HPk := Lib.hid (HP.out k)
      have HS : Hid ((k + 1) * p = k * p + p) := Lib.hid (by rw [Nat.add_mul, Nat.one_mul])
      clear hown hbl
      generalize k * p = x at *
      have HXP : Hid (((x + p : Nat) : Int) = (x : Int) + (p : Int)) := Lib.hid (by omega)
      go_wp2_with (at_builtin; refine wpList_append_pair HO.out HB.out.size rfl _ _ 31 rfl i0 Try.underlying31 hi hz0 hz1 hz2 _ _ 1 rfl rfl (by unfold maxLen; omega) (by omega) ?_)
      intro v' w2 hown' hb'
      have HO2 := Lib.hid hown'
      have HB2 := Lib.hid (HB.out.trans hb')
      clear hown' hb'
      go_wp2
      go_roundw
      case rel => exact ⟨k + 1, by omega, by rw [HS.out]; go_num, by rw [upto_succ, HPk.out, HXP.out]; exact HO2.out, HB2.out⟩
      case measure => simp [intOf]; omega
    · obtain rfl : k = cc := by omega
      have hge : k * p = pn := HN.out.symm
      rw [hge]
      have hnl : ¬ ((pn : Int) < (pn : Int)) := by omega
      clear hown hbl hkp hge
      go_wp2
      go_ret2
      exact AnsP.some (n := k) rfl ((upto_length _ _).trans HCC.out) (by unfold rowL; rw [HCC.out]; exact HO.out) HB.out

set_option maxRecDepth 100000 in
set_option maxHeartbeats 2000000 in
theorem refRow_bad (seg size h : Int) (w : World) (hb : ¬ hOk seg size h) : Calls Try.prog 17 #[.int .i64 seg, .int .i64 size, .int .i64 h] w fun e w' => AnsP ([], 2) w e w' := by
  have HA : Hid (∀ w, Calls Try.prog 27 #[.int .i64 seg, .int .i64 size, .int .i64 h, .int .i64 0] w fun e w' => e = .returned (.int .i64 2) ∧ w = w') := Lib.hid (fun w => by
    have := refAsked_any seg size h 0 w
    rw [if_neg (fun g => hb (askA_row.1 g))] at this
    exact this)
  clear hb
  go_enter Try.func17, Try.ntmps17
  go_wp2_with fail
  refine (HA.out _).mono ?_
  rintro e w' ⟨rfl, rfl⟩
  go_wp2
  go_ret2
  exact AnsP.nil rfl (Below.refl _ _)

theorem row_V {seg size h : Int} (hh : hOk seg size h) : ∃ a c h' : Nat, seg = ((2 ^ a : Nat) : Int) ∧ size = ((2 ^ (a + c) : Nat) : Int) ∧ h = (h' : Int) ∧ 2 ≤ a ∧ a ≤ 6 ∧ a + c ≤ 16 ∧ h' ≤ c ∧ rowV seg size h = (rowL a c h', 0) := by
  obtain ⟨g0, g1, g2⟩ := hh
  obtain ⟨a, c, h1, h2, q1, q2, q3⟩ := okB_form g0
  obtain ⟨h', hh'⟩ := Int.eq_ofNat_of_zero_le g1
  refine ⟨a, c, h', h1, h2, hh', q1, q2, q3, by rw [h1, h2, highN_of] at g2; omega, ?_⟩
  unfold rowV
  rw [if_pos ⟨g0, g1, g2⟩, h1, h2, hh', highN_of, Int.toNat_natCast, Nat.log2_two_pow, Int.toNat_natCast]
theorem Row_any (seg size h : Int) (w : World) : Calls Try.prog 16 #[.int .i64 seg, .int .i64 size, .int .i64 h] w fun e w' => AnsP (rowV seg size h) w e w' := by
  by_cases hh : hOk seg size h
  · obtain ⟨a, c, h', h1, h2, h3, q1, q2, q3, h4, h5⟩ := row_V hh
    rw [h5, h1, h2, h3]
    exact row_ok a c h' w q1 q2 q3 h4
  · rw [show rowV seg size h = ([], 2) from if_neg hh]
    exact row_bad seg size h w hh
theorem refRow_any (seg size h : Int) (w : World) : Calls Try.prog 17 #[.int .i64 seg, .int .i64 size, .int .i64 h] w fun e w' => AnsP (rowV seg size h) w e w' := by
  by_cases hh : hOk seg size h
  · obtain ⟨a, c, h', h1, h2, h3, q1, q2, q3, h4, h5⟩ := row_V hh
    rw [h5, h1, h2, h3]
    exact refRow_ok a c h' w q1 q2 q3 h4
  · rw [show rowV seg size h = ([], 2) from if_neg hh]
    exact refRow_bad seg size h w hh

end Go.Proofs.Ytogbkhlbmchjlaa.Win
