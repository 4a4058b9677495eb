/- The check of a config, to its end; and the functions above it. -/
import Derived.Test.YthgeghdegpgijaaConf
namespace Go.Proofs.Ythgeghdegpgijaa.Conf
open Go.RowKit Go.Sort Go.Proofs.Ythgeghdegpgijaa Go.Proofs.Ythgeghdegpgijaa.Frac

/-- A region that draws its order, whose operations only read and whose callees only make memory; the world under a name. -/
theorem region_qb {P : Program} {id : Nat} {Q : Exit → Act → World → Prop} {a : Act} {w : World} {l : List Oper} (w0 : World) (n : Nat) (hb : Below n w0 w) (hm : P.follows .mixedOrders = true) (hB : Region.lexB .any l.toArray = true)
    (h : ∀ w5, Below n w0 w5 → wpQuiet P l.toArray (fun w' => ∃ p : Regrown, w' = grow (redrawn w5 p.d) p.os) (fun a' => ∀ w', (∃ p : Regrown, w' = grow (redrawn w5 p.d) p.os) → Q .normal a' w') l a) : (Code.region id l.toArray true).wp P Q a w :=
  wp_region_quiet_below hm hB (h w hb)

set_option maxRecDepth 100000 in
set_option maxHeartbeats 8000000 in
theorem check_last (c : Cfg) (w : World) (W : c.Wf) (hs : sizesB c = true) (hp : partsB c = true) (hr : restB c = true) :
    Calls Try.prog 13 #[.agg #[.int .u8 c.tag, .int .i64 c.most, .int .i64 c.seg, .int .i64 c.least, .int .i64 c.den, .int .i64 c.ll, .int .i64 c.rl, .int .i64 c.rh, .int .i64 c.lh]] w fun e w' => e = .returned (.int .i64 (checkV c)) ∧ Below w.heap.size w w' := by
  have HF := Lib.hid (fine_of hs hp hr)
  have HS := Lib.hid ((sizes_all c).trans hs)
  have HP := Lib.hid ((parts_all c).trans hp)
  have HR := Lib.hid ((rest_all c).trans hr)
  have HW := Lib.hid W
  obtain ⟨⟨d1, d2, r1, r2, r3, r4, r5, r6, r7, r8⟩, ⟨g1, g2, g3, g4⟩, ⟨q1, q2⟩, ⟨q3, q4⟩⟩ := sp_bounds hs hp
  obtain ⟨H, hH, hH0, hH1⟩ : ∃ H, heightV c (takesV c c.most) = H ∧ 0 ≤ H ∧ H ≤ 63 := by
    refine ⟨_, rfl, Int.natCast_nonneg _, ?_⟩
    have := takesV_bounds HF.out (n := c.most) (by have := HF.out.m1; omega) HF.out.m2
    have hb : takesV c c.most / c.seg ≤ 9223372036854775807 := by
      have := Int.ediv_le_self c.seg (show 0 ≤ takesV c c.most by omega); omega
    have := log2_lt63 (takesV c c.most / c.seg) hb
    unfold heightV; omega
  have j1 : 0 ≤ c.den * H := Int.mul_nonneg (by omega) hH0
  have j2 : c.den * H ≤ 64 * 63 := Int.mul_le_mul d2 hH1 hH0 (by omega)
  have hV : checkV c = if c.den * H ≤ (c.lh - c.rh) * c.seg then 0 else 50 := by
    unfold checkV okB
    rw [hs, hp, hr, hH]; simp
  have HV := Lib.hid hV
  have HH := Lib.hid hH
  clear hs hp hr hV hH
  go_enter Try.func13, Try.ntmps13
  go_wp2
  refine region_still_tail 26 mixed (by kernel_rfl) ?_
  simp only [List.take_succ_cons, List.take_zero, List.drop_succ_cons, List.drop_zero]
  repeat still_step
  still_call ((power_any _ _ _ _ HW.out.seg).mono fun _ _ h => ⟨h.1, h.2.symm⟩)
  repeat still_step
  still_call ((power_any _ _ _ _ HW.out.least).mono fun _ _ h => ⟨h.1, h.2.symm⟩)
  repeat still_step
  refine wpStill_nil ?_
  go_wp2_with fail
  refine (all_is (w.heap.size + 1) 8 [decide (1 ≤ c.tag), decide (c.tag ≤ 3), decide (1 ≤ c.most), decide (c.most ≤ 16384), powIn c.seg 4 64, powIn c.least c.seg 256, decide (1 ≤ c.den), decide (c.den ≤ 64)] _ _ (by simp) HS.out ?_).mono ?_
  · intro i hi
    match i, hi with
    | 0, _ => go_simp
    | 1, _ => go_simp
    | 2, _ => go_simp
    | 3, _ => go_simp
    | 4, _ => go_simp
    | 5, _ => go_simp
    | 6, _ => go_simp
    | 7, _ => go_simp
  rintro e w' ⟨rfl, rfl⟩
  go_wp2_with fail
  refine (all_is (w.heap.size + 2) 5 [decide (0 ≤ c.ll), decide (c.ll < c.rl), decide (c.rl < c.rh), decide (c.rh < c.lh), decide (c.lh ≤ c.den)] _ _ (by simp) HP.out ?_).mono ?_
  · intro i hi
    match i, hi with
    | 0, _ => go_simp
    | 1, _ => go_simp
    | 2, _ => go_simp
    | 3, _ => go_simp
    | 4, _ => go_simp
  rintro e w' ⟨rfl, rfl⟩
  go_wp2_with fail
  refine (all_is (w.heap.size + 3) 3 [decide (c.den ≤ 2 * c.rh), decide (8 * c.rl ≤ c.den), decide (2 * c.den ≤ c.rl * c.least)] _ _ (by simp) HR.out ?_).mono ?_
  · intro i hi
    match i, hi with
    | 0, _ => go_simp
    | 1, _ => go_simp
    | 2, _ => go_simp
  rintro e w' ⟨rfl, rfl⟩
  go_wp2
  refine region_qb (w.alloc (.cells #[.int .u8 c.tag, .int .i64 c.most, .int .i64 c.seg, .int .i64 c.least, .int .i64 c.den, .int .i64 c.ll, .int .i64 c.rl, .int .i64 c.rh, .int .i64 c.lh] 23)) (w.heap.size + 1) (by repeat (first | exact Below.refl _ _ | apply Below.drew | (refine Below.alloc ?_ (by simp; try omega) _))) mixed (by kernel_rfl) fun w5 hB => ?_
  have cl : ∀ o, w5.cell? ⟨w.heap.size, o, Option.none⟩ = ((w.alloc (.cells #[.int .u8 c.tag, .int .i64 c.most, .int .i64 c.seg, .int .i64 c.least, .int .i64 c.den, .int .i64 c.ll, .int .i64 c.rl, .int .i64 c.rh, .int .i64 c.lh] 23))).cell? ⟨w.heap.size, o, Option.none⟩ := fun o => hB.cell (p := ⟨w.heap.size, o, Option.none⟩) (by simp)
  have k0 := cell_regrown (show w5.cell? ⟨w.heap.size, 0, Option.none⟩ = some (.int .u8 c.tag) by rw [cl]; go_simp)
  have k1 := cell_regrown (show w5.cell? ⟨w.heap.size, 1, Option.none⟩ = some (.int .i64 c.most) by rw [cl]; go_simp)
  have k2 := cell_regrown (show w5.cell? ⟨w.heap.size, 2, Option.none⟩ = some (.int .i64 c.seg) by rw [cl]; go_simp)
  have k3 := cell_regrown (show w5.cell? ⟨w.heap.size, 3, Option.none⟩ = some (.int .i64 c.least) by rw [cl]; go_simp)
  have k4 := cell_regrown (show w5.cell? ⟨w.heap.size, 4, Option.none⟩ = some (.int .i64 c.den) by rw [cl]; go_simp)
  have k5 := cell_regrown (show w5.cell? ⟨w.heap.size, 5, Option.none⟩ = some (.int .i64 c.ll) by rw [cl]; go_simp)
  have k6 := cell_regrown (show w5.cell? ⟨w.heap.size, 6, Option.none⟩ = some (.int .i64 c.rl) by rw [cl]; go_simp)
  have k7 := cell_regrown (show w5.cell? ⟨w.heap.size, 7, Option.none⟩ = some (.int .i64 c.rh) by rw [cl]; go_simp)
  have k8 := cell_regrown (show w5.cell? ⟨w.heap.size, 8, Option.none⟩ = some (.int .i64 c.lh) by rw [cl]; go_simp)
  clear cl
  have cT : ∀ d os, Calls Try.prog 24 #[.agg #[.int .u8 c.tag, .int .i64 c.most, .int .i64 c.seg, .int .i64 c.least, .int .i64 c.den, .int .i64 c.ll, .int .i64 c.rl, .int .i64 c.rh, .int .i64 c.lh], .int .i64 c.most] (grow (redrawn w5 d) os) fun e w'' => e = .returned (.int .i64 (takesV c c.most)) ∧ ∃ p : Regrown, w'' = grow (redrawn w5 p.d) p.os := fun d os => Calls.regrown_of (takes_any c c.most _ HF.out (by have := HF.out.m1; omega) HF.out.m2)
  have cH : ∀ d os, Calls Try.prog 28 #[.agg #[.int .u8 c.tag, .int .i64 c.most, .int .i64 c.seg, .int .i64 c.least, .int .i64 c.den, .int .i64 c.ll, .int .i64 c.rl, .int .i64 c.rh, .int .i64 c.lh], .int .i64 (takesV c c.most)] (grow (redrawn w5 d) os) fun e w'' => e = .returned (.int .i64 H) ∧ ∃ p : Regrown, w'' = grow (redrawn w5 p.d) p.os := fun d os => by
    have hb := takesV_bounds HF.out (n := c.most) (by have := HF.out.m1; omega) HF.out.m2
    rw [← HH.out]
    exact Calls.regrown_of (height_any c (takesV c c.most) _ (by have := HF.out.s1; omega) (by omega) (by omega))
  have HT := Lib.hid cT
  have HHt := Lib.hid cH
  clear cT cH
  repeat (quiet_step (first | exact HT.out _ _ | exact HHt.out _ _))
  refine wpQuiet_nil ?_
  intro _ hw'
  obtain ⟨⟨dq, osq⟩, hw''⟩ := hw'
  subst hw''
  have hB2 : Below w.heap.size w (grow (redrawn w5 dq) osq) := (((Below.refl _ w).alloc (Nat.le_refl _) _).trans (hB.mono (by omega))).trans ((below_regrown w5 dq osq).mono (by have := hB.size; simp at this; omega))
  clear k0 k1 k2 k3 k4 k5 k6 k7 k8 HT HHt
  go_wp2
  all_goals
    go_ret
    refine ⟨ret_int ?_, hB2⟩
    have e1 : IntKind.i64.wrap (c.den * H) = c.den * H := IntWalk.i64_in _ (by omega)
    have e2 : IntKind.i64.wrap (c.lh - c.rh) = c.lh - c.rh := IntWalk.i64_in _ (by omega)
    have e3 : IntKind.i64.wrap ((c.lh - c.rh) * c.seg) = (c.lh - c.rh) * c.seg := IntWalk.i64_in _ (by omega)
    simp only [e1, e2, e3] at *
    rw [HV.out]
    split <;> omega

/-- What Check answers, whatever the config. -/
theorem check_any (c : Cfg) (w : World) (W : c.Wf) :
    Calls Try.prog 13 #[.agg #[.int .u8 c.tag, .int .i64 c.most, .int .i64 c.seg, .int .i64 c.least, .int .i64 c.den, .int .i64 c.ll, .int .i64 c.rl, .int .i64 c.rh, .int .i64 c.lh]] w fun e w' => e = .returned (.int .i64 (checkV c)) ∧ Below w.heap.size w w' := by
  cases hs : sizesB c
  · rw [checkV_no (by unfold okB; rw [hs]; rfl)]; exact check_bad1 c w W (.inl hs)
  · cases hp : partsB c
    · rw [checkV_no (by unfold okB; rw [hs, hp]; rfl)]; exact check_bad1 c w W (.inr hp)
    · cases hr : restB c
      · rw [checkV_no (by unfold okB; rw [hs, hp, hr]; rfl)]; exact check_rest c w W hs hp hr
      · exact check_last c w W hs hp hr

end Go.Proofs.Ythgeghdegpgijaa.Conf
