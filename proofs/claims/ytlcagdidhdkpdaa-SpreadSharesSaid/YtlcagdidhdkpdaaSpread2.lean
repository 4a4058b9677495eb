/- Contracts of package spread, and of the document's answer for it. -/
import Derived.Test.YtlcagdidhdkpdaaSpread1
import Derived.Test.YtlcagdidhdkpdaaCollect
import Derived.Test.YtlcagdidhdkpdaaSpreadPlain
namespace Go.Proofs.Ytlcagdidhdkpdaa.Spr
open Go.RowKit Go.Shelf Go.Proofs.Ytlcagdidhdkpdaa

set_option maxHeartbeats 1000000 in
theorem may_any (n f t : Int) (w : World) : Calls Try.prog 18 #[.int .i64 n, .int .i64 f, .int .i64 t] w fun e w' => e = .returned (.bool (mayB n f t)) ∧ w = w' := by
  by_cases h : 0 ≤ f ∧ f ≤ t ∧ t ≤ 65536 ∧ 0 ≤ n ∧ n ≤ t - f
  · rw [mayB_iff.2 h]
    obtain ⟨h1, h2, h3, h4, h5⟩ := h
    go_enter Try.func18, Try.ntmps18
    go_wp2
    go_ret
    exact ⟨rfl, rfl⟩
  · rw [mayB_false h]
    by_cases h1 : 0 ≤ f
    · by_cases h2 : f ≤ t
      · by_cases h3 : t ≤ 65536
        · by_cases h4 : 0 ≤ n
          · have h5 : ¬ n ≤ t - f := fun g => h ⟨h1, h2, h3, h4, g⟩
            clear h
            go_enter Try.func18, Try.ntmps18
            go_wp2
            go_ret
            exact ⟨rfl, rfl⟩
          · clear h
            go_enter Try.func18, Try.ntmps18
            go_wp2
            go_ret
            exact ⟨rfl, rfl⟩
        · clear h
          go_enter Try.func18, Try.ntmps18
          go_wp2
          go_ret
          exact ⟨rfl, rfl⟩
      · clear h
        go_enter Try.func18, Try.ntmps18
        go_wp2
        go_ret
        exact ⟨rfl, rfl⟩
    · clear h
      go_enter Try.func18, Try.ntmps18
      go_wp2
      go_ret
      exact ⟨rfl, rfl⟩

set_option maxHeartbeats 1000000 in
theorem refMay_any (n f t : Int) (w : World) : Calls Try.prog 21 #[.int .i64 n, .int .i64 f, .int .i64 t] w fun e w' => e = .returned (.bool (mayB n f t)) ∧ w = w' := by
  by_cases h : 0 ≤ f ∧ f ≤ t ∧ t ≤ 65536 ∧ 0 ≤ n ∧ n ≤ t - f
  · rw [mayB_iff.2 h]
    obtain ⟨h1, h2, h3, h4, h5⟩ := h
    go_enter Try.func21, Try.ntmps21
    go_wp2
    go_ret
    exact ⟨rfl, rfl⟩
  · rw [mayB_false h]
    by_cases h1 : 0 ≤ f
    · by_cases h2 : f ≤ t
      · by_cases h3 : t ≤ 65536
        · by_cases h4 : 0 ≤ n
          · have h5 : ¬ n ≤ t - f := fun g => h ⟨h1, h2, h3, h4, g⟩
            clear h
            go_enter Try.func21, Try.ntmps21
            go_wp2
            go_ret
            exact ⟨rfl, rfl⟩
          · clear h
            go_enter Try.func21, Try.ntmps21
            go_wp2
            go_ret
            exact ⟨rfl, rfl⟩
        · clear h
          go_enter Try.func21, Try.ntmps21
          go_wp2
          go_ret
          exact ⟨rfl, rfl⟩
      · clear h
        go_enter Try.func21, Try.ntmps21
        go_wp2
        go_ret
        exact ⟨rfl, rfl⟩
    · clear h
      go_enter Try.func21, Try.ntmps21
      go_wp2
      go_ret
      exact ⟨rfl, rfl⟩

/-- What is answered: numbers that are new, and an error. -/
def AnsI (V : List Int × Int) (w : World) (e : Ending) (w' : World) : Prop :=
  ∃ v, e = .returned (.tuple #[v, .int .i64 V.2]) ∧ w'.ownsRow w.heap.size 3 1 v V.1.length (V.1.map (Value.int .i64)) ∧ Below w.heap.size w w'
theorem AnsI.nil {V : List Int × Int} {w w' : World} {c : Int} (h : V = ([], c)) (hb : Below w.heap.size w w') : AnsI V w (.returned (.tuple #[.slice Option.none 0 0, .int .i64 c])) w' := by
  subst h
  exact ⟨_, rfl, World.ownsRow_nil _ _ _ _, hb⟩
theorem AnsI.some {V : List Int × Int} {w w' : World} {zs : List Int} {c : Int} {v : Value} (h : V = (zs, c)) (hv : w'.ownsRow w.heap.size 3 1 v zs.length (zs.map (Value.int .i64))) (hb : Below w.heap.size w w') : AnsI V w (.returned (.tuple #[v, .int .i64 c])) w' := by
  subst h
  exact ⟨_, rfl, hv, hb⟩
def placesV (n f t : Int) : List Int × Int := if mayB n f t = true then (placesL n.toNat f.toNat (t - f).toNat, 0) else ([], 2)

set_option maxHeartbeats 1000000 in
theorem Places_any (n f t : Int) (w : World) : Calls Try.prog 8 #[.int .i64 n, .int .i64 f, .int .i64 t] w fun e w' => AnsI (placesV n f t) w e w' := by
  by_cases h : mayB n f t = true
  · have H : Hid (placesV n f t = (placesL n.toNat f.toNat (t - f).toNat, 0)) := Lib.hid (if_pos h)
    have HM := Lib.hid h
    obtain ⟨h1, h2, h3, h4, h5⟩ := mayB_iff.1 h
    obtain ⟨n, rfl⟩ := Int.eq_ofNat_of_zero_le h4
    obtain ⟨f, rfl⟩ := Int.eq_ofNat_of_zero_le h1
    obtain ⟨t, rfl⟩ := Int.eq_ofNat_of_zero_le (show 0 ≤ t by omega)
    have HD : Hid (((t : Int) - (f : Int)).toNat = t - f) := Lib.hid (by omega)
    have HSq := Lib.hid (places_stops 1 (w.heap.size + 3) n f t (t - f) w (by omega) (by omega) (by omega))
    have HZ := Lib.hid (boxed_size w n f t)
    have HBX := Lib.hid (boxed_below w n f t)
    clear h
    go_enter Try.func8, Try.ntmps8
    go_wp2_with fail
    refine (may_any _ _ _ _).mono ?_
    rintro e w' ⟨rfl, rfl⟩
    rw [HM.out]
    go_wp2_with fail
    refine (places_any n f t w).mono ?_
    rintro e w' ⟨rfl, rfl⟩
    go_wp2_with fail
    refine (collect_ints 26 _ (enters_of Try.func26 (by kernel_rfl) rfl) _ _ _ n _ _ (boxed w n f t) (by rw [HZ.out]; omega) (by rw [HZ.out]; omega) (by omega) HSq.out).mono ?_
    rintro e w1 ⟨v, xs, rfl, rfl, hv, hb⟩
    have HV := Lib.hid (hv.mono (by rw [HZ.out]; omega) : w1.ownsRow w.heap.size 3 1 v (placesL n f (t - f)).length ((placesL n f (t - f)).map (Value.int .i64)))
    have HB := Lib.hid (bstep HBX.out hb)
    clear hv hb
    go_wp2
    go_ret2
    refine AnsI.some ?_ HV.out HB.out
    rw [H.out, Int.toNat_natCast, Int.toNat_natCast, HD.out]
  · have H : Hid (placesV n f t = ([], 2)) := Lib.hid (if_neg h)
    have HM : Hid (mayB n f t = false) := Lib.hid (by simpa using h)
    clear h
    go_enter Try.func8, Try.ntmps8
    go_wp2_with fail
    refine (may_any _ _ _ _).mono ?_
    rintro e w' ⟨rfl, rfl⟩
    rw [HM.out]
    go_wp2
    go_ret2
    exact AnsI.nil H.out (Below.refl _ _)

theorem placeI (n f d k : Nat) : ((place n f d k : Nat) : Int) = (f : Int) + (k : Int) * (d : Int) / (n : Int) := by unfold place; simp

set_option maxRecDepth 100000 in
set_option maxHeartbeats 2000000 in
theorem refOf_any (n f d t : Nat) (w : World) (ht : t = f + d) (h2 : t ≤ 65536) (h3 : n ≤ d) : Calls Try.prog 22 #[.int .i64 n, .int .i64 f, .int .i64 t] w fun e w' => ∃ v, e = .returned v ∧ w'.ownsRow w.heap.size 3 1 v (placesL n f d).length ((placesL n f d).map (Value.int .i64)) ∧ Below w.heap.size w w' := by
  obtain ⟨i0, hi, hz0, hz1, hz2⟩ := info_parts infoI
  have hdi : (t : Int) - (f : Int) = (d : Int) := by omega
  clear ht
  go_enter Try.func22, Try.ntmps22
  go_wp2
  go_loopw [7, 8] (fun v i wr => ∃ k : Nat, k ≤ n ∧ i = .int .i64 k ∧ wr.ownsRow w.heap.size 3 1 v k ((upto (fun i => ((place n f d i : Nat) : Int)) k).map (Value.int .i64)) ∧ Below w.heap.size w wr) (fun _ i _ => n - (intOf i).toNat)
  case atStart => exact ⟨0, Nat.zero_le _, rfl, World.ownsRow_nil _ _ _ _, Below.refl _ _⟩
  case round =>
    obtain ⟨k, hk, rfl, hown, hbl⟩ := hrel
    by_cases hlt : k < n
    · have p0 : 0 ≤ (k : Int) * (d : Int) := Int.mul_nonneg (by omega) (by omega)
      have p1 : (k : Int) * (d : Int) ≤ 65536 * 65536 := Int.mul_le_mul (by omega) (by omega) (by omega) (by omega)
      have q0 : 0 ≤ (k : Int) * (d : Int) / (n : Int) := Int.ediv_nonneg p0 (by omega)
      have q1 : (k : Int) * (d : Int) / (n : Int) ≤ 65536 * 65536 := Int.le_trans (Int.ediv_le_self _ p0) p1
      have HP := Lib.hid (placeI n f d k)
      have HO := Lib.hid hown
      have HB := Lib.hid hbl
      clear hown hbl
      go_wp2_with (at_builtin; refine wpList_append_news HO.out HB.out.size rfl _ _ 22 rfl i0 (.int .i64 0) 8 Try.underlying22 hi hz0 hz1 hz2 rfl _ 1 rfl rfl (by intro u hu; simp at hu; subst hu; rfl) (by unfold maxLen; simp; omega) (by simp; omega) ?_)
      intro v' w1 hown' hb'
      have HO2 := Lib.hid hown'
      have HB2 := Lib.hid (HB.out.trans hb')
      clear hown' hb'
      go_wp2
      go_roundw
      case rel => exact ⟨k + 1, by omega, by go_num, by rw [upto_succ, List.map_append, List.map_cons, HP.out]; exact HO2.out, HB2.out⟩
      case measure => simp [intOf]; omega
    · obtain rfl : k = n := by omega
      have HO := Lib.hid hown
      have HB := Lib.hid hbl
      clear hown hbl
      go_wp2
      go_ret
      exact ⟨_, rfl, by rw [placesL_length]; exact HO.out, HB.out⟩

end Go.Proofs.Ytlcagdidhdkpdaa.Spr
