/- Contracts of the document's answer for package spread. -/
import Derived.Test.YtlcagdidhdkpdaaSpread4
import Derived.Test.YtlcagdidhdkpdaaLists
namespace Go.Proofs.Ytlcagdidhdkpdaa.Spr
open Go.RowKit Go.Shelf Go.Proofs.Ytlcagdidhdkpdaa

def inB (f t x : Int) : Bool := decide (f ≤ x) && decide (x < t)
theorem countP_take_succ (p : Int → Bool) (zs : List Int) (k : Nat) (h : k < zs.length) : (zs.take (k + 1)).countP p = (zs.take k).countP p + if p (zs.getD k 0) = true then 1 else 0 := by
  rw [take_snoc zs k h, List.countP_append, List.countP_cons, List.countP_nil]; omega

set_option maxRecDepth 100000 in
set_option maxHeartbeats 2000000 in
theorem within_any (a : Option Addr) (ca : Nat) (zs : List Int) (f t : Int) (w : World) (hr : Rd .i64 w a zs) (hl : zs.length ≤ 1000000) :
    Calls Try.prog 24 #[.slice a zs.length ca, .int .i64 f, .int .i64 t] w fun e w' => e = .returned (.int .i64 ((zs.countP (inB f t) : Nat) : Int)) ∧ w = w' := by
  go_enter Try.func24, Try.ntmps24
  go_wp2
  go_loop [7, 8] (fun n i => ∃ k : Nat, k ≤ zs.length ∧ i = .int .i64 k ∧ n = .int .i64 (((zs.take k).countP (inB f t) : Nat) : Int)) (fun _ i => zs.length - (intOf i).toNat)
  case atStart => exact ⟨0, Nat.zero_le _, rfl, rfl⟩
  case round =>
    obtain ⟨k, hk, rfl, rfl⟩ := hrel
    have hle : (zs.take k).countP (inB f t) ≤ k := Nat.le_trans List.countP_le_length (List.length_take_le _ _)
    by_cases hlt : k < zs.length
    · obtain ⟨b1, o1, rfl, c1⟩ := Rd.at hr (Below.refl _ _) (Nat.le_refl _) hlt
      have HC := Lib.hid (countP_take_succ (inB f t) zs k hlt)
      clear hr
      generalize zs.getD k 0 = x at *
      generalize (zs.take k).countP (inB f t) = c at *
      by_cases h1 : f ≤ x
      · by_cases h2 : x < t
        · have HI : Hid (inB f t x = true) := Lib.hid (by simp [inB, h1, h2])
          go_wp2
          go_round
          case rel => exact ⟨k + 1, by omega, by go_num, by rw [HC.out, HI.out]; go_num⟩
          case measure => simp [intOf]; omega
        · have HI : Hid (inB f t x = false) := Lib.hid (by simp [inB, h2])
          go_wp2
          go_round
          case rel => exact ⟨k + 1, by omega, by go_num, by rw [HC.out, HI.out]; rfl⟩
          case measure => simp [intOf]; omega
      · have HI : Hid (inB f t x = false) := Lib.hid (by simp [inB, h1])
        go_wp2
        go_round
        case rel => exact ⟨k + 1, by omega, by go_num, by rw [HC.out, HI.out]; rfl⟩
        case measure => simp [intOf]; omega
    · obtain rfl : k = zs.length := by omega
      have HT : Hid (zs.take zs.length = zs) := Lib.hid (List.take_of_length_le (Nat.le_refl _))
      clear hr
      go_wp2
      go_ret
      exact ⟨rfl, rfl⟩

/-- What is counted of places between two slots. -/
theorem within_cnt (n f d : Nat) (y z : Int) : (placesL n f d).countP (inB y z) + (placesL n f d).countP (fun x => decide (x < min y z)) = (placesL n f d).countP (fun x => decide (x < z)) := by
  generalize placesL n f d = l
  induction l with
  | nil => rfl
  | cons x l ih =>
    simp only [List.countP_cons]
    have e : (if inB y z x = true then 1 else 0) + (if decide (x < min y z) = true then 1 else 0) = (if decide (x < z) = true then 1 else 0) := by
      unfold inB
      by_cases h1 : y ≤ x <;> by_cases h2 : x < z
      · simp [h1, h2]; omega
      · simp [h1, h2]; omega
      · simp [h1, h2]; omega
      · simp [h1, h2]; omega
    omega
theorem within_rank (n f d y : Nat) (hy : f ≤ y) : (placesL n f d).countP (inB f y) = cnt n d (y - f) := by
  have h := within_cnt n f d f y
  rw [cnt_places n f d y hy] at h
  have h0 : (placesL n f d).countP (fun x => decide (x < min (f : Int) (y : Int))) = 0 := by
    rw [List.countP_eq_zero]
    intro z hz
    have := places_ge n f d z hz
    simp; omega
  omega
theorem within_share (n f d y z : Nat) (hy : f ≤ y) (hz : y ≤ z) : (placesL n f d).countP (inB y z) = cnt n d (z - f) - cnt n d (y - f) := by
  have h := within_cnt n f d y z
  rw [cnt_places n f d z (by omega), show min (y : Int) (z : Int) = (y : Int) by omega, cnt_places n f d y hy] at h
  omega

set_option maxHeartbeats 1000000 in
theorem refPlaces_any (n f t : Int) (w : World) : Calls Try.prog 9 #[.int .i64 n, .int .i64 f, .int .i64 t] w fun e w' => AnsI (placesV n f t) w e w' := by
  by_cases h : mayB n f t = true
  · have H : Hid (placesV n f t = (placesL n.toNat f.toNat (t - f).toNat, 0)) := Lib.hid (if_pos h)
    have HM := Lib.hid h
    obtain ⟨h1, h2, h3, h4, h5⟩ := mayB_iff.1 h
    obtain ⟨n, rfl⟩ := Int.eq_ofNat_of_zero_le h4
    obtain ⟨f, rfl⟩ := Int.eq_ofNat_of_zero_le h1
    obtain ⟨t, rfl⟩ := Int.eq_ofNat_of_zero_le (show 0 ≤ t by omega)
    have HD : Hid (((t : Int) - (f : Int)).toNat = t - f) := Lib.hid (by omega)
    clear h
    go_enter Try.func9, Try.ntmps9
    go_wp2_with fail
    refine (refMay_any _ _ _ _).mono ?_
    rintro e w' ⟨rfl, rfl⟩
    rw [HM.out]
    go_wp2_with fail
    refine (refOf_any n f (t - f) t w (by omega) (by omega) (by omega)).mono ?_
    rintro e w1 ⟨v, rfl, hv, hb⟩
    have HV := Lib.hid hv
    have HB := Lib.hid hb
    clear hv hb
    go_wp2
    go_ret2
    refine AnsI.some ?_ HV.out HB.out
    rw [H.out, Int.toNat_natCast, Int.toNat_natCast, HD.out]
  · have H : Hid (placesV n f t = ([], 2)) := Lib.hid (if_neg h)
    have HM : Hid (mayB n f t = false) := Lib.hid (by simpa using h)
    clear h
    go_enter Try.func9, Try.ntmps9
    go_wp2_with fail
    refine (refMay_any _ _ _ _).mono ?_
    rintro e w' ⟨rfl, rfl⟩
    rw [HM.out]
    go_wp2
    go_ret2
    exact AnsI.nil H.out (Below.refl _ _)

theorem Rank_any (n f t y : Int) (w : World) : Calls Try.prog 13 #[.int .i64 n, .int .i64 f, .int .i64 t, .int .i64 y] w fun e w' => e = .returned (.tuple #[.int .i64 (rankV n f t y).1, .int .i64 (rankV n f t y).2]) ∧ Below w.heap.size w w' := by
  by_cases h : mayB n f t = true ∧ f ≤ y ∧ y ≤ t
  · have hv : rankV n f t y = (((cnt n.toNat (t - f).toNat (y - f).toNat : Nat) : Int), 0) := if_pos h
    rw [hv]
    obtain ⟨hm, h1, h2⟩ := h
    obtain ⟨m1, m2, m3, m4, m5⟩ := mayB_iff.1 hm
    obtain ⟨n, rfl⟩ := Int.eq_ofNat_of_zero_le m4
    obtain ⟨f, rfl⟩ := Int.eq_ofNat_of_zero_le m1
    obtain ⟨t, rfl⟩ := Int.eq_ofNat_of_zero_le (show 0 ≤ t by omega)
    obtain ⟨y, rfl⟩ := Int.eq_ofNat_of_zero_le (show 0 ≤ y by omega)
    have := rank_ok n f t y (t - f) w (by omega) (by omega) (by omega) (by omega) (by omega)
    rw [show ((n : Int)).toNat = n from rfl, show ((t : Int) - (f : Int)).toNat = t - f by omega, show ((y : Int) - (f : Int)).toNat = y - f by omega]
    exact this
  · rw [show rankV n f t y = (0, 2) from if_neg h]
    exact rank_bad n f t y w h

set_option maxRecDepth 100000 in
set_option maxHeartbeats 1000000 in
theorem refRank_any (n f t y : Int) (w : World) : Calls Try.prog 14 #[.int .i64 n, .int .i64 f, .int .i64 t, .int .i64 y] w fun e w' => e = .returned (.tuple #[.int .i64 (rankV n f t y).1, .int .i64 (rankV n f t y).2]) ∧ Below w.heap.size w w' := by
  by_cases h : mayB n f t = true ∧ f ≤ y ∧ y ≤ t
  · have H : Hid (rankV n f t y = (((cnt n.toNat (t - f).toNat (y - f).toNat : Nat) : Int), 0)) := Lib.hid (if_pos h)
    obtain ⟨hm, h1, h2⟩ := h
    have HM := Lib.hid hm
    obtain ⟨m1, m2, m3, m4, m5⟩ := mayB_iff.1 hm
    obtain ⟨n, rfl⟩ := Int.eq_ofNat_of_zero_le m4
    obtain ⟨f, rfl⟩ := Int.eq_ofNat_of_zero_le m1
    obtain ⟨t, rfl⟩ := Int.eq_ofNat_of_zero_le (show 0 ≤ t by omega)
    obtain ⟨y, rfl⟩ := Int.eq_ofNat_of_zero_le (show 0 ≤ y by omega)
    have HW := Lib.hid (within_rank n f (t - f) y (by omega))
    have HD : Hid (((t : Int) - (f : Int)).toNat = t - f ∧ ((y : Int) - (f : Int)).toNat = y - f) := Lib.hid (by omega)
    have HL := Lib.hid (placesL_length n f (t - f))
    clear hm
    go_enter Try.func14, Try.ntmps14
    go_wp2_with fail
    refine (refMay_any _ _ _ _).mono ?_
    rintro e w' ⟨rfl, rfl⟩
    rw [HM.out]
    go_wp2_with fail
    refine (refOf_any n f (t - f) t w (by omega) (by omega) (by omega)).mono ?_
    rintro e w1 ⟨v, rfl, hv, hb⟩
    obtain ⟨a1, c1, rfl, _, hr1, _⟩ := owns_arg hv
    have HB := Lib.hid hb
    clear hv hb
    go_wp2_with fail
    refine (within_any a1 c1 (placesL n f (t - f)) f y w1 hr1 (by rw [HL.out]; omega)).mono ?_
    rintro e w2 ⟨rfl, rfl⟩
    rw [HW.out]
    clear hr1
    go_wp2
    go_ret2
    refine ⟨ret_pair ?_, HB.out⟩
    rw [H.out, Int.toNat_natCast, HD.out.1, HD.out.2]
  · have H : Hid (rankV n f t y = (0, 2)) := Lib.hid (if_neg h)
    by_cases hm : mayB n f t = true
    · have HM := Lib.hid hm
      by_cases h1 : f ≤ y
      · have h2 : ¬ y ≤ t := fun g => h ⟨hm, h1, g⟩
        clear h hm
        go_enter Try.func14, Try.ntmps14
        go_wp2_with fail
        refine (refMay_any _ _ _ _).mono ?_
        rintro e w' ⟨rfl, rfl⟩
        rw [HM.out]
        go_wp2
        go_ret2
        exact ⟨ret_pair H.out, Below.refl _ _⟩
      · clear h hm
        go_enter Try.func14, Try.ntmps14
        go_wp2_with fail
        refine (refMay_any _ _ _ _).mono ?_
        rintro e w' ⟨rfl, rfl⟩
        rw [HM.out]
        go_wp2
        go_ret2
        exact ⟨ret_pair H.out, Below.refl _ _⟩
    · have HM : Hid (mayB n f t = false) := Lib.hid (by simpa using hm)
      clear h hm
      go_enter Try.func14, Try.ntmps14
      go_wp2_with fail
      refine (refMay_any _ _ _ _).mono ?_
      rintro e w' ⟨rfl, rfl⟩
      rw [HM.out]
      go_wp2
      go_ret2
      exact ⟨ret_pair H.out, Below.refl _ _⟩

end Go.Proofs.Ytlcagdidhdkpdaa.Spr
