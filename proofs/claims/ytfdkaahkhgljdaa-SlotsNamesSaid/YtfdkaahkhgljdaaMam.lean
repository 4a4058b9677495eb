/- Contracts of package slots: the document's Lay and Clear. Contracts of package slots: the document's Of, part, Pairs. -/
import Derived.Test.YtfdkaahkhgljdaaMal
import Derived.Lib.QuietBelow
set_option linter.unusedSimpArgs false
set_option linter.unusedVariables false
namespace Go.Proofs.Ytfdkaahkhgljdaa.Slo
open Go.RowKit Go.Shelf Go.Sort Go.Proofs.Ytfdkaahkhgljdaa Go.Proofs.Ytfdkaahkhgljdaa.Occ Go.Proofs.Ytfdkaahkhgljdaa.Frac
attribute [local go_sem] Oper.semAt_some

theorem BoxC.al {W : World} {b : Nat} {v0 v1 v2 v3 v4 v5 : Value} (h : BoxC W b v0 v1 v2 v3 v4 v5) {o : Obj} (hb : b < W.heap.size) : BoxC (W.alloc o) b v0 v1 v2 v3 v4 v5 := h.below ((Below.refl _ W).alloc (Nat.le_refl _) o) hb
set_option maxRecDepth 100000 in
set_option maxHeartbeats 4000000 in
theorem refLay_any (s : Sl) (h : Hd) (a x y : Int) (w : World) (W : s.Wf) (R : SRd w s h) (N : HNo h) :
    Calls Try.prog 29 #[sval s h, .int .i64 a, .agg #[.int .i64 x, .int .i64 y]] w fun e w' => AnsS (laySV s a x y) w e w' := by
  have HM := Lib.hid (sMay_any s h (withW w s h x y) W (R.mono (withW_below w s h x y) (Nat.le_refl _)))
  have HB0 := Lib.hid (withW_below w s h x y)
  have HX0 := Lib.hid (withW_box w s h x y)
  have HP0 := Lib.hid (withW_res w s h x y)
  have HZ0 := Lib.hid (withW_zero w s h x y)
  have HS0 := Lib.hid (withW_size w s h x y)
  have lk := W.lk
  by_cases hv : askS s (atB s.ks.length a) = 0
  · have HV : Hid (laySV s a x y = (layV s a.toNat x y, 0)) := Lib.hid (if_pos hv)
    obtain ⟨hok, hat⟩ := askS_ok hv
    obtain ⟨h0, h1⟩ := atB_iff.1 hat
    obtain ⟨a, rfl⟩ := Int.eq_ofNat_of_zero_le h0
    rw [Int.toNat_natCast] at HV
    obtain ⟨g, q, o⟩ := okS_iff.1 hok
    have ha : a < s.ks.length := by omega
    have HW := Lib.hid (fun w1 (hb : Below w.heap.size w w1) => refWith_any s h g q a x y w1 W (R.mono hb (Nat.le_refl _)) N o ha)
    rw [hok] at HM
    clear W R N hv hok hat h0 h1 o
    generalize hL : laySV s a x y = LV at *
    clear hL
    generalize layV s a x y = V at *
    unfold sval at *
    go_enter Try.func29, Try.ntmps29
    go_wp2_with fail
    rw [withW_fold]
    refine HM.out.mono ?_
    rintro e w1 ⟨rfl, hb⟩
    have HB1 : Hid (Below w.heap.size w w1) := Lib.hid (HB0.out.trans (hb.mono HB0.out.size))
    have HP1 := Lib.hid (HP0.out.below hb (by have := HS0.out; omega))
    have HX1 := Lib.hid (HX0.out.below hb (by have := HS0.out; omega))
    have HD1 := Lib.hid (HZ0.out.below hb (by have := HS0.out; omega))
    have HL1 : Hid (w.heap.size + 3 ≤ w1.heap.size) := Lib.hid (by have := hb.size; have := HS0.out; omega)
    clear hb HB0 HX0 HP0 HM HS0 HZ0
    have c0 := HX1.out.c0; have c1 := HX1.out.c1; have c2 := HX1.out.c2; have c3 := HX1.out.c3; have c4 := HX1.out.c4; have c5 := HX1.out.c5
    have p0 := HP1.out.a0; have p1 := HP1.out.a1
    go_wp2_with fail
    refine (HW.out w1 HB1.out).mono ?_
    rintro e w2 ⟨h2, rfl, ho, hb⟩
    have HB2 : Hid (Below w.heap.size w w2) := Lib.hid (HB1.out.trans (hb.mono HB1.out.size))
    have HD2 := Lib.hid (HD1.out.below hb (by have := HL1.out; omega))
    have HO2 := Lib.hid ho
    clear hb ho c0 c1 c2 c3 c4 c5 p0 p1 HW HX1 HP1 HD1 HB1
    have d0 := HD2.out.c0; have d1 := HD2.out.c1; have d2 := HD2.out.c2; have d3 := HD2.out.c3; have d4 := HD2.out.c4; have d5 := HD2.out.c5
    have f0 := HD2.out.f 0; have f1 := HD2.out.f 1; have f2 := HD2.out.f 2; have f3 := HD2.out.f 3; have f4 := HD2.out.f 4; have f5 := HD2.out.f 5
    go_wp2
    rw [stS_fold]
    have q0 := (stS_box (s := V) (h := h2) HD2.out).c0; have q1 := (stS_box (s := V) (h := h2) HD2.out).c1; have q2 := (stS_box (s := V) (h := h2) HD2.out).c2; have q3 := (stS_box (s := V) (h := h2) HD2.out).c3; have q4 := (stS_box (s := V) (h := h2) HD2.out).c4; have q5 := (stS_box (s := V) (h := h2) HD2.out).c5
    refine bodyPost_ret (v := .tuple #[sval V h2, .int .i64 0]) (by simp [results, Try.results29, sval, go_sem, q0, q1, q2, q3, q4, q5]) rfl ⟨h2, by rw [HV.out], ?_, ?_⟩
    · rw [HV.out]
      exact (stS_own HO2.out (by have := HL1.out; omega)).mono (by have := HL1.out; omega) (by rw [stS_size]; exact Nat.le_refl _)
    · exact stS_below HB2.out (by omega)
  · have HV : Hid (laySV s a x y = (noneS, askS s (atB s.ks.length a))) := Lib.hid (if_neg hv)
    clear W R N
    generalize hL : laySV s a x y = LV at *
    clear hL
    cases hok : okS s
    case false =>
      rw [askS_none hok] at HV
      rw [hok] at HM
      clear hok hv
      unfold sval at *
      go_enter Try.func29, Try.ntmps29
      go_wp2_with fail
      rw [withW_fold]
      refine HM.out.mono ?_
      rintro e w1 ⟨rfl, hb⟩
      have HB1 : Hid (Below w.heap.size w w1) := Lib.hid (HB0.out.trans (hb.mono HB0.out.size))
      have HD1 := Lib.hid (HZ0.out.below hb (by have := HS0.out; omega))
      clear hb HB0 HX0 HP0 HM HS0 HZ0
      have d0 := HD1.out.c0; have d1 := HD1.out.c1; have d2 := HD1.out.c2; have d3 := HD1.out.c3; have d4 := HD1.out.c4; have d5 := HD1.out.c5
      have f0 := HD1.out.f 0; have f1 := HD1.out.f 1; have f2 := HD1.out.f 2; have f3 := HD1.out.f 3; have f4 := HD1.out.f 4; have f5 := HD1.out.f 5
      go_wp2
      rw [stZ_fold]
      have q0 := (stS_box (s := noneS) (h := noneH) HD1.out).c0; have q1 := (stS_box (s := noneS) (h := noneH) HD1.out).c1; have q2 := (stS_box (s := noneS) (h := noneH) HD1.out).c2; have q3 := (stS_box (s := noneS) (h := noneH) HD1.out).c3; have q4 := (stS_box (s := noneS) (h := noneH) HD1.out).c4; have q5 := (stS_box (s := noneS) (h := noneH) HD1.out).c5
      refine bodyPost_ret (v := .tuple #[sval noneS noneH, .int .i64 8]) (by simp [results, Try.results29, sval, go_sem, q0, q1, q2, q3, q4, q5]) rfl ⟨noneH, by rw [HV.out], by rw [HV.out]; exact noneS_own _ _ _, stS_below HB1.out (by omega)⟩
    case true =>
      have hf : atB (s.ks.length : Int) a = false := by
        cases hb : atB (s.ks.length : Int) a
        · rfl
        · rw [hb, askS_in hok] at hv; exact absurd rfl hv
      rw [hf, askS_out hok] at HV
      have hne : a < 0 ∨ 0 ≤ a ∧ (s.ks.length : Int) ≤ a := by unfold atB at hf; simp at hf; omega
      rw [hok] at HM
      clear hok hv hf
      have HNE := Lib.hid hne
      clear hne
      unfold sval at *
      go_enter Try.func29, Try.ntmps29
      go_wp2_with fail
      rw [withW_fold]
      refine HM.out.mono ?_
      rintro e w1 ⟨rfl, hb⟩
      have HB1 : Hid (Below w.heap.size w w1) := Lib.hid (HB0.out.trans (hb.mono HB0.out.size))
      have HX1 := Lib.hid (HX0.out.below hb (by have := HS0.out; omega))
      have HD1 := Lib.hid (HZ0.out.below hb (by have := HS0.out; omega))
      clear hb HB0 HX0 HP0 HM HS0 HZ0
      have c2 := HX1.out.c2
      have d0 := HD1.out.c0; have d1 := HD1.out.c1; have d2 := HD1.out.c2; have d3 := HD1.out.c3; have d4 := HD1.out.c4; have d5 := HD1.out.c5
      have f0 := HD1.out.f 0; have f1 := HD1.out.f 1; have f2 := HD1.out.f 2; have f3 := HD1.out.f 3; have f4 := HD1.out.f 4; have f5 := HD1.out.f 5
      have q0 := (stS_box (s := noneS) (h := noneH) HD1.out).c0; have q1 := (stS_box (s := noneS) (h := noneH) HD1.out).c1; have q2 := (stS_box (s := noneS) (h := noneH) HD1.out).c2; have q3 := (stS_box (s := noneS) (h := noneH) HD1.out).c3; have q4 := (stS_box (s := noneS) (h := noneH) HD1.out).c4; have q5 := (stS_box (s := noneS) (h := noneH) HD1.out).c5
      have Q := Lib.hid (And.intro q0 (And.intro q1 (And.intro q2 (And.intro q3 (And.intro q4 q5)))))
      clear q0 q1 q2 q3 q4 q5
      rcases HNE.out with h0 | ⟨h0, h1⟩
      all_goals
        try have h00 : ¬ a < 0 := by omega
        go_wp2
        rw [stZ_fold]
        obtain ⟨q0, q1, q2, q3, q4, q5⟩ := Q.out
        refine bodyPost_ret (v := .tuple #[sval noneS noneH, .int .i64 2]) (by simp [results, Try.results29, sval, go_sem, q0, q1, q2, q3, q4, q5]) rfl ⟨noneH, by rw [HV.out], by rw [HV.out]; exact noneS_own _ _ _, stS_below HB1.out (by omega)⟩

set_option maxRecDepth 100000 in
set_option maxHeartbeats 4000000 in
theorem refClear_any (s : Sl) (h : Hd) (a : Int) (w : World) (W : s.Wf) (R : SRd w s h) (N : HNo h) :
    Calls Try.prog 31 #[sval s h, .int .i64 a] w fun e w' => AnsS (clearSV s a) w e w' := by
  have HC := Lib.hid (refAt_any s h a (twoW w s h (.cells #[.int .i64 0, .slice Option.none 0 0, .slice Option.none 0 0, .slice Option.none 0 0, .slice Option.none 0 0, .int .u64 0] 27)) W (R.mono (twoW_below w s h _) (Nat.le_refl _)))
  have HB0 := Lib.hid (twoW_below w s h (.cells #[.int .i64 0, .slice Option.none 0 0, .slice Option.none 0 0, .slice Option.none 0 0, .slice Option.none 0 0, .int .u64 0] 27))
  have HX0 := Lib.hid (twoW_box w s h (.cells #[.int .i64 0, .slice Option.none 0 0, .slice Option.none 0 0, .slice Option.none 0 0, .slice Option.none 0 0, .int .u64 0] 27))
  have HZ0 := Lib.hid (twoW_zero w s h)
  have HS0 := Lib.hid (twoW_size w s h (.cells #[.int .i64 0, .slice Option.none 0 0, .slice Option.none 0 0, .slice Option.none 0 0, .slice Option.none 0 0, .int .u64 0] 27))
  have lk := W.lk
  by_cases hv : (atV s a).2 = 0
  · have HV : Hid (clearSV s a = (takeV s a.toNat, 0)) := Lib.hid (if_pos hv)
    obtain ⟨hask, -, hpv⟩ := atV_ok hv
    obtain ⟨hok, hat⟩ := askS_ok hask
    obtain ⟨h0, h1⟩ := atB_iff.1 hat
    obtain ⟨a, rfl⟩ := Int.eq_ofNat_of_zero_le h0
    rw [Int.toNat_natCast] at HV hpv
    obtain ⟨g, q, o⟩ := okS_iff.1 hok
    have ha : a < s.ks.length := by omega
    have HW := Lib.hid (fun w1 (hb : Below w.heap.size w w1) => refEmptied_any s h g q a w1 W (R.mono hb (Nat.le_refl _)) N o ha)
    rw [hpv] at HC
    clear W R N hv hok hat h0 h1 o hask hpv
    generalize hL : clearSV s a = LV at *
    clear hL
    generalize takeV s a = V at *
    generalize pairAt s a = xy at *
    obtain ⟨x, y⟩ := xy
    unfold sval at *
    go_enter Try.func31, Try.ntmps31
    go_wp2_with fail
    rw [twoW_fold]
    refine HC.out.mono ?_
    rintro e w1 ⟨rfl, hb⟩
    have HB1 : Hid (Below w.heap.size w w1) := Lib.hid (HB0.out.trans (hb.mono HB0.out.size))
    have HX1 := Lib.hid (HX0.out.below hb (by have := HS0.out; omega))
    have HD1 := Lib.hid (HZ0.out.below hb (by have := HS0.out; omega))
    have HL1 : Hid (w.heap.size + 2 ≤ w1.heap.size) := Lib.hid (by have := hb.size; have := HS0.out; omega)
    clear hb HB0 HX0 HC HS0 HZ0
    have HBA : Hid (∀ o, Below w1.heap.size w1 (w1.alloc o)) := Lib.hid fun o => (Below.refl _ _).alloc (Nat.le_refl _) o
    have c0 := HX1.out.c0; have c1 := HX1.out.c1; have c2 := HX1.out.c2; have c3 := HX1.out.c3; have c4 := HX1.out.c4; have c5 := HX1.out.c5
    have hz1 : w.heap.size < w1.heap.size := by have := HL1.out; omega
    go_wp2_with fail
    refine (HW.out _ (HB1.out.trans ((HBA.out _).mono HB1.out.size))).mono ?_
    rintro e w2 ⟨h2, rfl, ho, hb⟩
    have HB2 : Hid (Below w.heap.size w w2) := Lib.hid ((HB1.out.trans ((HBA.out _).mono HB1.out.size)).trans (hb.mono (by have := HL1.out; simp; omega)))
    have HD2 := Lib.hid ((HD1.out.below (HBA.out _) (by have := HL1.out; omega)).below hb (by have := HL1.out; simp; omega))
    have HO2 := Lib.hid ho
    clear hb ho c0 c1 c2 c3 c4 c5 HW HX1 HD1 HB1 HBA
    have d0 := HD2.out.c0; have d1 := HD2.out.c1; have d2 := HD2.out.c2; have d3 := HD2.out.c3; have d4 := HD2.out.c4; have d5 := HD2.out.c5
    have f0 := HD2.out.f 0; have f1 := HD2.out.f 1; have f2 := HD2.out.f 2; have f3 := HD2.out.f 3; have f4 := HD2.out.f 4; have f5 := HD2.out.f 5
    go_wp2
    rw [stS_fold]
    have q0 := (stS_box (s := V) (h := h2) HD2.out).c0; have q1 := (stS_box (s := V) (h := h2) HD2.out).c1; have q2 := (stS_box (s := V) (h := h2) HD2.out).c2; have q3 := (stS_box (s := V) (h := h2) HD2.out).c3; have q4 := (stS_box (s := V) (h := h2) HD2.out).c4; have q5 := (stS_box (s := V) (h := h2) HD2.out).c5
    refine bodyPost_ret (v := .tuple #[sval V h2, .int .i64 0]) (by simp [results, Try.results31, sval, go_sem, q0, q1, q2, q3, q4, q5]) rfl ⟨h2, by rw [HV.out], ?_, ?_⟩
    · rw [HV.out]
      have hO := HO2.out
      simp only [World.size_alloc] at hO
      exact (stS_own hO (by have := HL1.out; omega)).mono (by have := HL1.out; omega) (by rw [stS_size]; exact Nat.le_refl _)
    · exact stS_below HB2.out (by omega)
  · have HV : Hid (clearSV s a = (noneS, (atV s a).2)) := Lib.hid (if_neg hv)
    clear W R N
    generalize hL : clearSV s a = LV at *
    clear hL
    generalize atV s a = xye at *
    obtain ⟨⟨x, y⟩, c⟩ := xye
    dsimp only at hv
    have hne : (c != 0) = true := by rw [bne_iff_ne]; exact hv
    clear hv
    unfold sval at *
    go_enter Try.func31, Try.ntmps31
    go_wp2_with fail
    rw [twoW_fold]
    refine HC.out.mono ?_
    rintro e w1 ⟨rfl, hb⟩
    have HB1 : Hid (Below w.heap.size w w1) := Lib.hid (HB0.out.trans (hb.mono HB0.out.size))
    have HD1 := Lib.hid (HZ0.out.below hb (by have := HS0.out; omega))
    have HL1 : Hid (w.heap.size + 2 ≤ w1.heap.size) := Lib.hid (by have := hb.size; have := HS0.out; omega)
    clear hb HB0 HX0 HC HS0 HZ0
    have d0 := HD1.out.c0; have d1 := HD1.out.c1; have d2 := HD1.out.c2; have d3 := HD1.out.c3; have d4 := HD1.out.c4; have d5 := HD1.out.c5
    have f0 := HD1.out.f 0; have f1 := HD1.out.f 1; have f2 := HD1.out.f 2; have f3 := HD1.out.f 3; have f4 := HD1.out.f 4; have f5 := HD1.out.f 5
    have hz1 : w.heap.size + 1 < w1.heap.size := by have := HL1.out; omega
    have hza : w.heap.size + 1 ≠ w1.heap.size := by omega
    go_wp2
    rw [stZ_fold]
    have hQ := (stS_box (s := noneS) (h := noneH) HD1.out).al (o := .cells #[.int .i64 x, .int .i64 y] 43) (by rw [stS_size]; omega)
    have q0 := hQ.c0; have q1 := hQ.c1; have q2 := hQ.c2; have q3 := hQ.c3; have q4 := hQ.c4; have q5 := hQ.c5
    refine bodyPost_ret (v := .tuple #[sval noneS noneH, .int .i64 c]) (by simp [results, Try.results31, sval, go_sem, q0, q1, q2, q3, q4, q5]) rfl ⟨noneH, by rw [HV.out], by rw [HV.out]; exact noneS_own _ _ _, (stS_below HB1.out (by omega)).alloc (by rw [stS_size]; omega) _⟩

theorem HNo.of {w : World} {lo hi : Nat} {s : Sl} {h : Hd} (o : SOwn w lo hi s h) : HNo h := o.no
set_option maxRecDepth 100000 in
set_option maxHeartbeats 4000000 in
theorem refMove_any (s : Sl) (h : Hd) (a b : Int) (w : World) (W : s.Wf) (R : SRd w s h) (N : HNo h) :
    Calls Try.prog 33 #[sval s h, .int .i64 a, .int .i64 b] w fun e w' => AnsS (moveSV s a b) w e w' := by
  have HC := Lib.hid (refAt_any s h a (twoW w s h (.cells #[.int .i64 0, .slice Option.none 0 0, .slice Option.none 0 0, .slice Option.none 0 0, .slice Option.none 0 0, .int .u64 0] 27)) W (R.mono (twoW_below w s h _) (Nat.le_refl _)))
  have HB0 := Lib.hid (twoW_below w s h (.cells #[.int .i64 0, .slice Option.none 0 0, .slice Option.none 0 0, .slice Option.none 0 0, .slice Option.none 0 0, .int .u64 0] 27))
  have HX0 := Lib.hid (twoW_box w s h (.cells #[.int .i64 0, .slice Option.none 0 0, .slice Option.none 0 0, .slice Option.none 0 0, .slice Option.none 0 0, .int .u64 0] 27))
  have HZ0 := Lib.hid (twoW_zero w s h)
  have HS0 := Lib.hid (twoW_size w s h (.cells #[.int .i64 0, .slice Option.none 0 0, .slice Option.none 0 0, .slice Option.none 0 0, .slice Option.none 0 0, .int .u64 0] 27))
  have lk := W.lk
  by_cases hv : (atV s a).2 = 0
  · obtain ⟨hask, -, hpv⟩ := atV_ok hv
    obtain ⟨hok, hat⟩ := askS_ok hask
    obtain ⟨h0, h1⟩ := atB_iff.1 hat
    obtain ⟨a, rfl⟩ := Int.eq_ofNat_of_zero_le h0
    obtain ⟨g, q, o⟩ := okS_iff.1 hok
    have ha : a < s.ks.length := by omega
    by_cases hr : b < 0 ∨ (s.ks.length : Int) ≤ b
    · have HV : Hid (moveSV s a b = (noneS, 2)) := Lib.hid (by unfold moveSV; rw [if_neg (by simp [hv]), if_pos hr])
      have HR := Lib.hid (show b < 0 ∨ 0 ≤ b ∧ (s.ks.length : Int) ≤ b by omega)
      rw [hpv] at HC
      clear W R N hv hok hat h0 h1 o hask hpv hr
      generalize hL : moveSV s a b = LV at *
      clear hL
      generalize pairAt s (a : Int).toNat = xy at *
      obtain ⟨x, y⟩ := xy
      unfold sval at *
      go_enter Try.func33, Try.ntmps33
      go_wp2_with fail
      rw [twoW_fold]
      refine HC.out.mono ?_
      rintro e w1 ⟨rfl, hb⟩
      have HB1 : Hid (Below w.heap.size w w1) := Lib.hid (HB0.out.trans (hb.mono HB0.out.size))
      have HX1 := Lib.hid (HX0.out.below hb (by have := HS0.out; omega))
      have HD1 := Lib.hid (HZ0.out.below hb (by have := HS0.out; omega))
      have HL1 : Hid (w.heap.size + 2 ≤ w1.heap.size) := Lib.hid (by have := hb.size; have := HS0.out; omega)
      clear hb HB0 HX0 HC HS0 HZ0
      have c2 := HX1.out.c2
      have d0 := HD1.out.c0; have d1 := HD1.out.c1; have d2 := HD1.out.c2; have d3 := HD1.out.c3; have d4 := HD1.out.c4; have d5 := HD1.out.c5
      have f0 := HD1.out.f 0; have f1 := HD1.out.f 1; have f2 := HD1.out.f 2; have f3 := HD1.out.f 3; have f4 := HD1.out.f 4; have f5 := HD1.out.f 5
      have hz0 : w.heap.size < w1.heap.size := by have := HL1.out; omega
      have hz1 : w.heap.size + 1 < w1.heap.size := by have := HL1.out; omega
      have hza : w.heap.size + 1 ≠ w1.heap.size := by omega
      have HQ := Lib.hid ((stS_box (s := noneS) (h := noneH) HD1.out).al (o := .cells #[.int .i64 x, .int .i64 y] 43) (by rw [stS_size]; omega))
      rcases HR.out with h0 | ⟨h0, h1⟩
      all_goals
        try have h00 : ¬ b < 0 := by omega
        go_wp2
        rw [stZ_fold]
        have q0 := HQ.out.c0; have q1 := HQ.out.c1; have q2 := HQ.out.c2; have q3 := HQ.out.c3; have q4 := HQ.out.c4; have q5 := HQ.out.c5
        refine bodyPost_ret (v := .tuple #[sval noneS noneH, .int .i64 2]) (by simp [results, Try.results33, sval, go_sem, q0, q1, q2, q3, q4, q5]) rfl ⟨noneH, by rw [HV.out], by rw [HV.out]; exact noneS_own _ _ _, (stS_below HB1.out (by omega)).alloc (by rw [stS_size]; omega) _⟩
    · obtain ⟨b, rfl⟩ := Int.eq_ofNat_of_zero_le (show 0 ≤ b by omega)
      have hbl : b < s.ks.length := by omega
      have HV1 : Hid (¬ ((b : Int) ≠ a ∧ occB s.ws b = true) → moveSV s a b = (layV (takeV s a) b (pairAt s a).1 (pairAt s a).2, 0)) := Lib.hid fun hf => by
        unfold moveSV; rw [if_neg (by simp [hv]), if_neg hr, if_neg (by simpa using hf), Int.toNat_natCast, Int.toNat_natCast]
      have HV2 : Hid (((b : Int) ≠ a ∧ occB s.ws b = true) → moveSV s a b = (noneS, 9)) := Lib.hid fun hf => by
        unfold moveSV; rw [if_neg (by simp [hv]), if_neg hr, if_pos (by simpa using hf)]
      rw [hpv, Int.toNat_natCast] at HC
      have hr2 : ¬ (b : Int) < 0 := by omega
      have hr3 : ¬ (s.ks.length : Int) ≤ (b : Int) := by omega
      have hib := o.in hbl
      have HI := Lib.hid (fun w1 (hb : Below w.heap.size w w1) => sIs_any s h b w1 W.u (R.mono hb (Nat.le_refl _)).fw W.lw hib)
      have HE := Lib.hid (fun w1 (hb : Below w.heap.size w w1) => refEmptied_any s h g q a w1 W (R.mono hb (Nat.le_refl _)) N o ha)
      have HW := Lib.hid (fun h2 w1 (R2 : SRd w1 (takeV s a) h2) (N2 : HNo h2) => refWith_any (takeV s a) h2 g q b (pairAt s a).1 (pairAt s a).2 w1 ((o.take W.u ha).wf (take_u W.u a) W.laid) R2 N2 (o.take W.u ha) (by rw [take_len]; exact hbl))
      clear W R N hv hok hat h0 h1 o hask hpv hr ha hib
      generalize hL : moveSV s a b = LV at *
      clear hL
      generalize takeV s a = T at *
      generalize pairAt s a = xy at *
      obtain ⟨x, y⟩ := xy
      generalize layV T b x y = L at *
      dsimp only at HV1 HW
      generalize occB s.ws b = ob at *
      unfold sval at *
      go_enter Try.func33, Try.ntmps33
      go_wp2_with fail
      rw [twoW_fold]
      refine HC.out.mono ?_
      rintro e w1 ⟨rfl, hb⟩
      have HB1 : Hid (Below w.heap.size w w1) := Lib.hid (HB0.out.trans (hb.mono HB0.out.size))
      have HX1 := Lib.hid (HX0.out.below hb (by have := HS0.out; omega))
      have HD1 := Lib.hid (HZ0.out.below hb (by have := HS0.out; omega))
      have HL1 : Hid (w.heap.size + 2 ≤ w1.heap.size) := Lib.hid (by have := hb.size; have := HS0.out; omega)
      clear hb HB0 HX0 HC HS0 HZ0
      have HP1 := Lib.hid (Res.new w1 x y 43)
      have HB1a : Hid (Below w.heap.size w (w1.alloc (.cells #[.int .i64 x, .int .i64 y] 43))) := Lib.hid (HB1.out.alloc HB1.out.size _)
      have HX1a := Lib.hid (HX1.out.al (o := .cells #[.int .i64 x, .int .i64 y] 43) (by have := HL1.out; omega))
      have HD1a := Lib.hid (HD1.out.al (o := .cells #[.int .i64 x, .int .i64 y] 43) (by have := HL1.out; omega))
      have hz0 : w.heap.size < w1.heap.size := by have := HL1.out; omega
      have hz1 : w.heap.size + 1 < w1.heap.size := by have := HL1.out; omega
      have hza : w.heap.size + 1 ≠ w1.heap.size := by omega
      have c0 := HX1.out.c0; have c1 := HX1.out.c1; have c2 := HX1.out.c2; have c3 := HX1.out.c3; have c4 := HX1.out.c4; have c5 := HX1.out.c5
      by_cases hba : b = a
      · have HV := Lib.hid (HV1.out (by subst hba; simp))
        subst hba
        go_wp2_with fail
        generalize hw2 : w1.alloc (.cells #[.int .i64 x, .int .i64 y] 43) = w2 at *
        have hsz2 : w2.heap.size = w1.heap.size + 1 := by rw [← hw2]; simp
        clear hw2 c0 c1 c2 c3 c4 c5
        have c0 := HX1a.out.c0; have c1 := HX1a.out.c1; have c2 := HX1a.out.c2; have c3 := HX1a.out.c3; have c4 := HX1a.out.c4; have c5 := HX1a.out.c5
        have p0 := HP1.out.a0; have p1 := HP1.out.a1
        have k0 := cell_regrown c0; have k1 := cell_regrown c1; have k2 := cell_regrown c2; have k3 := cell_regrown c3; have k4 := cell_regrown c4; have k5 := cell_regrown c5
        have l0 := cell_regrown p0; have l1 := cell_regrown p1
        refine Mix.wp_region_plan (fun w' => ∃ p : Regrown, w' = grow (redrawn w2 p.d) p.os) [5, 6, 7] [.free [false, true, false, true], .dep [true, false, false, false, true], .run [false, false, true]]
          #[true, true, true, true, true, false, false, false] 3 mixed' (by kernel_rfl) (by kernel_rfl) (by kernel_rfl) (fun _ _ _ _ _ h => h) ⟨⟨w2.drawn + 1, #[]⟩, by rw [grow_empty]; rfl⟩ ?_
        simp only [Mix.wpPlan, Mix.maskL]
        repeat (go_big_quiet_step (fail))
        refine wpQuiet_nil ?_
        repeat (go_big_quiet_step (fail))
        refine wpQuiet_nil ?_
        unfold Mix.wpListS
        go_wp2_with fail
        refine (HE.out _ HB1a.out.drew).mono ?_
        rintro e w3 ⟨h3, rfl, ho, hb⟩
        have HB3 : Hid (Below w2.heap.size w2 w3) := Lib.hid ((Below.refl _ w2).drew.trans hb)
        have HO3 := Lib.hid ho
        clear ho hb
        go_wp2_with fail
        refine ⟨regrown_of_below HB3.out, ?_⟩
        unfold Mix.wpListS
        refine Mix.wpAny_tail [false, false, false, false, false, true, true, true] (Array.replicate 8 true) (by kernel_rfl) (by kernel_rfl) ?_
        simp only [Mix.maskL]
        go_wp2_with fail
        refine (HW.out h3 w3 HO3.out.rd HO3.out.no).mono ?_
        rintro e w4 ⟨h4, rfl, ho, hb⟩
        have HL3 : Hid (w.heap.size + 2 ≤ w2.heap.size) := Lib.hid (by have := HL1.out; omega)
        have HB4 : Hid (Below w.heap.size w w4) := Lib.hid (HB1a.out.trans ((HB3.out.trans (hb.mono HB3.out.size)).mono HB1a.out.size))
        have HD4 := Lib.hid ((HD1a.out.below HB3.out (by have := HL3.out; omega)).below hb (by have := HL3.out; have := HB3.out.size; omega))
        have HO4 := Lib.hid ho
        have HL4 : Hid (w.heap.size + 2 ≤ w3.heap.size) := Lib.hid (by have := HL3.out; have := HB3.out.size; omega)
        clear hb ho c0 c1 c2 c3 c4 c5 p0 p1 k0 k1 k2 k3 k4 k5 l0 l1 HW HX1a HP1 HD1a
        have d0 := HD4.out.c0; have d1 := HD4.out.c1; have d2 := HD4.out.c2; have d3 := HD4.out.c3; have d4 := HD4.out.c4; have d5 := HD4.out.c5
        have f0 := HD4.out.f 0; have f1 := HD4.out.f 1; have f2 := HD4.out.f 2; have f3 := HD4.out.f 3; have f4 := HD4.out.f 4; have f5 := HD4.out.f 5
        go_wp2
        rw [stS_fold]
        have q0 := (stS_box (s := L) (h := h4) HD4.out).c0; have q1 := (stS_box (s := L) (h := h4) HD4.out).c1; have q2 := (stS_box (s := L) (h := h4) HD4.out).c2; have q3 := (stS_box (s := L) (h := h4) HD4.out).c3; have q4 := (stS_box (s := L) (h := h4) HD4.out).c4; have q5 := (stS_box (s := L) (h := h4) HD4.out).c5
        refine bodyPost_ret (v := .tuple #[sval L h4, .int .i64 0]) (by simp [results, Try.results33, sval, go_sem, q0, q1, q2, q3, q4, q5]) rfl ⟨h4, by rw [HV.out], ?_, ?_⟩
        · rw [HV.out]
          exact (stS_own HO4.out (by have := HL4.out; omega)).mono (by have := HL4.out; omega) (by rw [stS_size]; exact Nat.le_refl _)
        · exact stS_below HB4.out (by omega)
      · have hbi : (b : Int) ≠ (a : Int) := by omega
        go_wp2_with fail
        refine (HI.out _ HB1a.out).mono ?_
        rintro e w9 ⟨rfl, hb⟩
        have HB9 : Hid (Below w.heap.size w w9) := Lib.hid (HB1a.out.trans (hb.mono HB1a.out.size))
        have HP9 := Lib.hid (HP1.out.below hb (by simp))
        have HX9 := Lib.hid (HX1a.out.below hb (by have := HL1.out; simp; omega))
        have HD9 := Lib.hid (HD1a.out.below hb (by have := HL1.out; simp; omega))
        have HZ9 : Hid (w1.heap.size + 1 ≤ w9.heap.size) := Lib.hid (by have := hb.size; simp at this; omega)
        clear hb c0 c1 c2 c3 c4 c5 HB1 HX1 HD1
        cases ob
        · have HV := Lib.hid (HV1.out (by simp))
          have c0 := HX9.out.c0; have c1 := HX9.out.c1; have c2 := HX9.out.c2; have c3 := HX9.out.c3; have c4 := HX9.out.c4; have c5 := HX9.out.c5
          go_wp2_with fail
          have p0 := HP9.out.a0; have p1 := HP9.out.a1
          have k0 := cell_regrown c0; have k1 := cell_regrown c1; have k2 := cell_regrown c2; have k3 := cell_regrown c3; have k4 := cell_regrown c4; have k5 := cell_regrown c5
          have l0 := cell_regrown p0; have l1 := cell_regrown p1
          refine Mix.wp_region_plan (fun w' => ∃ p : Regrown, w' = grow (redrawn w9 p.d) p.os) [5, 6, 7] [.free [false, true, false, true], .dep [true, false, false, false, true], .run [false, false, true]]
            #[true, true, true, true, true, false, false, false] 3 mixed' (by kernel_rfl) (by kernel_rfl) (by kernel_rfl) (fun _ _ _ _ _ h => h) ⟨⟨w9.drawn + 1, #[]⟩, by rw [grow_empty]; rfl⟩ ?_
          simp only [Mix.wpPlan, Mix.maskL]
          repeat (go_big_quiet_step (fail))
          refine wpQuiet_nil ?_
          repeat (go_big_quiet_step (fail))
          refine wpQuiet_nil ?_
          unfold Mix.wpListS
          go_wp2_with fail
          refine (HE.out _ HB9.out.drew).mono ?_
          rintro e w3 ⟨h3, rfl, ho, hb⟩
          have HB3 : Hid (Below w9.heap.size w9 w3) := Lib.hid ((Below.refl _ w9).drew.trans hb)
          have HO3 := Lib.hid ho
          clear ho hb
          go_wp2_with fail
          refine ⟨regrown_of_below HB3.out, ?_⟩
          unfold Mix.wpListS
          refine Mix.wpAny_tail [false, false, false, false, false, true, true, true] (Array.replicate 8 true) (by kernel_rfl) (by kernel_rfl) ?_
          simp only [Mix.maskL]
          go_wp2_with fail
          refine (HW.out h3 w3 HO3.out.rd HO3.out.no).mono ?_
          rintro e w4 ⟨h4, rfl, ho, hb⟩
          have HL3 : Hid (w.heap.size + 2 ≤ w9.heap.size) := Lib.hid (by have := HL1.out; have := HZ9.out; omega)
          have HB4 : Hid (Below w.heap.size w w4) := Lib.hid (HB9.out.trans ((HB3.out.trans (hb.mono HB3.out.size)).mono HB9.out.size))
          have HD4 := Lib.hid ((HD9.out.below HB3.out (by have := HL3.out; omega)).below hb (by have := HL3.out; have := HB3.out.size; omega))
          have HO4 := Lib.hid ho
          have HL4 : Hid (w.heap.size + 2 ≤ w3.heap.size) := Lib.hid (by have := HL3.out; have := HB3.out.size; omega)
          clear hb ho c0 c1 c2 c3 c4 c5 p0 p1 k0 k1 k2 k3 k4 k5 l0 l1 HW HX9 HP9 HD9
          have d0 := HD4.out.c0; have d1 := HD4.out.c1; have d2 := HD4.out.c2; have d3 := HD4.out.c3; have d4 := HD4.out.c4; have d5 := HD4.out.c5
          have f0 := HD4.out.f 0; have f1 := HD4.out.f 1; have f2 := HD4.out.f 2; have f3 := HD4.out.f 3; have f4 := HD4.out.f 4; have f5 := HD4.out.f 5
          go_wp2
          rw [stS_fold]
          have q0 := (stS_box (s := L) (h := h4) HD4.out).c0; have q1 := (stS_box (s := L) (h := h4) HD4.out).c1; have q2 := (stS_box (s := L) (h := h4) HD4.out).c2; have q3 := (stS_box (s := L) (h := h4) HD4.out).c3; have q4 := (stS_box (s := L) (h := h4) HD4.out).c4; have q5 := (stS_box (s := L) (h := h4) HD4.out).c5
          refine bodyPost_ret (v := .tuple #[sval L h4, .int .i64 0]) (by simp [results, Try.results33, sval, go_sem, q0, q1, q2, q3, q4, q5]) rfl ⟨h4, by rw [HV.out], ?_, ?_⟩
          · rw [HV.out]
            exact (stS_own HO4.out (by have := HL4.out; omega)).mono (by have := HL4.out; omega) (by rw [stS_size]; exact Nat.le_refl _)
          · exact stS_below HB4.out (by omega)
        · have HV := Lib.hid (HV2.out ⟨hbi, rfl⟩)
          have d0 := HD9.out.c0; have d1 := HD9.out.c1; have d2 := HD9.out.c2; have d3 := HD9.out.c3; have d4 := HD9.out.c4; have d5 := HD9.out.c5
          have f0 := HD9.out.f 0; have f1 := HD9.out.f 1; have f2 := HD9.out.f 2; have f3 := HD9.out.f 3; have f4 := HD9.out.f 4; have f5 := HD9.out.f 5
          go_wp2
          rw [stZ_fold]
          have q0 := (stS_box (s := noneS) (h := noneH) HD9.out).c0; have q1 := (stS_box (s := noneS) (h := noneH) HD9.out).c1; have q2 := (stS_box (s := noneS) (h := noneH) HD9.out).c2; have q3 := (stS_box (s := noneS) (h := noneH) HD9.out).c3; have q4 := (stS_box (s := noneS) (h := noneH) HD9.out).c4; have q5 := (stS_box (s := noneS) (h := noneH) HD9.out).c5
          refine bodyPost_ret (v := .tuple #[sval noneS noneH, .int .i64 9]) (by simp [results, Try.results33, sval, go_sem, q0, q1, q2, q3, q4, q5]) rfl ⟨noneH, by rw [HV.out], by rw [HV.out]; exact noneS_own _ _ _, stS_below HB9.out (by omega)⟩
  · have HV : Hid (moveSV s a b = (noneS, (atV s a).2)) := Lib.hid (if_pos hv)
    clear W R N
    generalize hL : moveSV s a b = LV at *
    clear hL
    generalize atV s a = xye at *
    obtain ⟨⟨x, y⟩, c⟩ := xye
    dsimp only at hv
    have hne : (c != 0) = true := by rw [bne_iff_ne]; exact hv
    clear hv
    unfold sval at *
    go_enter Try.func33, Try.ntmps33
    go_wp2_with fail
    rw [twoW_fold]
    refine HC.out.mono ?_
    rintro e w1 ⟨rfl, hb⟩
    have HB1 : Hid (Below w.heap.size w w1) := Lib.hid (HB0.out.trans (hb.mono HB0.out.size))
    have HD1 := Lib.hid (HZ0.out.below hb (by have := HS0.out; omega))
    have HL1 : Hid (w.heap.size + 2 ≤ w1.heap.size) := Lib.hid (by have := hb.size; have := HS0.out; omega)
    clear hb HB0 HX0 HC HS0 HZ0
    have d0 := HD1.out.c0; have d1 := HD1.out.c1; have d2 := HD1.out.c2; have d3 := HD1.out.c3; have d4 := HD1.out.c4; have d5 := HD1.out.c5
    have f0 := HD1.out.f 0; have f1 := HD1.out.f 1; have f2 := HD1.out.f 2; have f3 := HD1.out.f 3; have f4 := HD1.out.f 4; have f5 := HD1.out.f 5
    have hz1 : w.heap.size + 1 < w1.heap.size := by have := HL1.out; omega
    have hza : w.heap.size + 1 ≠ w1.heap.size := by omega
    go_wp2
    rw [stZ_fold]
    have hQ := (stS_box (s := noneS) (h := noneH) HD1.out).al (o := .cells #[.int .i64 x, .int .i64 y] 43) (by rw [stS_size]; omega)
    have q0 := hQ.c0; have q1 := hQ.c1; have q2 := hQ.c2; have q3 := hQ.c3; have q4 := hQ.c4; have q5 := hQ.c5
    refine bodyPost_ret (v := .tuple #[sval noneS noneH, .int .i64 c]) (by simp [results, Try.results33, sval, go_sem, q0, q1, q2, q3, q4, q5]) rfl ⟨noneH, by rw [HV.out], by rw [HV.out]; exact noneS_own _ _ _, (stS_below HB1.out (by omega)).alloc (by rw [stS_size]; omega) _⟩
end Go.Proofs.Ytfdkaahkhgljdaa.Slo

namespace Go.Proofs.Ytfdkaahkhgljdaa.Slo
open Go.RowKit Go.Shelf Go.Sort Go.Proofs.Ytfdkaahkhgljdaa Go.Proofs.Ytfdkaahkhgljdaa.Occ Go.Proofs.Ytfdkaahkhgljdaa.Frac
attribute [local go_sem] Oper.semAt_some

theorem infoPr : (Try.prog.info? 43).map (fun i => (i.zero, i.size, i.bytes)) = some (some (.agg #[.int .i64 0, .int .i64 0]), 2, 16) := by kernel_rfl

theorem nats_nums (l : List Nat) : nats l = (l.map (fun x : Nat => (x : Int))).map (Value.int .i64) := by unfold nats; rw [List.map_map]; rfl
theorem prs_take_succ (s : Sl) (L : List Nat) (k : Nat) (h : k < L.length) : (L.take (k + 1)).map (pairAt s) = (L.take k).map (pairAt s) ++ [pairAt s (L.getD k 0)] := by
  rw [List.take_succ_eq_append_getElem h, List.map_append, List.map_cons, List.map_nil]; simp [List.getD_eq_getElem?_getD, h]
theorem occs_in {ws : List Int} {f d k : Nat} (h : k < (occs ws f d).length) : f ≤ (occs ws f d).getD k 0 ∧ (occs ws f d).getD k 0 < f + d := by
  have hm : (occs ws f d).getD k 0 ∈ occs ws f d := by simp [List.getD_eq_getElem?_getD, h]
  unfold occs at hm
  have := (List.mem_filter.1 hm).1
  rw [List.mem_range'_1] at this
  unfold occs
  exact this

set_option maxRecDepth 100000 in
set_option maxHeartbeats 4000000 in
theorem refOf_any (s : Sl) (h : Hd) (f t g q : Nat) (w : World) (W : s.Wf) (R : SRd w s h) (o : Ok s g q) (hft : f ≤ t) (ht : t ≤ s.ks.length) :
    Calls Try.prog 52 #[sval s h, .int .i64 f, .int .i64 t] w fun e w' => ∃ v, e = .returned v ∧ w'.ownsRow w.heap.size 43 2 v (prs s f (t - f)).length (pcells (prs s f (t - f))) ∧ Below w.heap.size w w' := by
  obtain ⟨i0, hi, hz0, hz1, hz2⟩ := info_parts infoPr
  have HB0 : Hid (∀ x, Below w.heap.size w (w.alloc x)) := Lib.hid fun x => (Below.refl _ w).alloc (Nat.le_refl _) _
  have HX0 := Lib.hid (BoxC.new w (.int .i64 s.seg) (.slice h.aw s.ws.length h.cw) (.slice h.ak s.ks.length h.ck) (.slice h.av s.vs.length h.cv) (.slice h.ac s.cs.length h.cc) (.int .u64 s.laid) 27)
  have hn1 := o.n1
  have HVL := Lib.hid o.v
  have hlw : t ≤ 64 * s.ws.length := by have := o.w; omega
  have HP := Lib.hid (fun w1 (hb : Below w.heap.size w w1) => Places_any h.aw h.cw s.ws f t w1 W.u (R.mono hb (Nat.le_refl _)).fw W.lw hft hlw)
  have HOI := Lib.hid (fun k hk => @occs_in s.ws f (t - f) k hk)
  have HR := Lib.hid R
  have HPR : Hid (prs s f (t - f) = (occs s.ws f (t - f)).map (pairAt s)) := Lib.hid rfl
  have hlen := occs_length s.ws f (t - f)
  clear W R o
  generalize hLV : prs s f (t - f) = LV at *
  clear hLV
  generalize occs s.ws f (t - f) = L at *
  have HTS : Hid (∀ k, k < L.length → LV.take (k + 1) = LV.take k ++ [pairAt s (L.getD k 0)]) := Lib.hid (fun k hk => by rw [HPR.out]; have := prs_take_succ s L k hk; rwa [List.map_take, List.map_take] at this)
  unfold sval at *
  go_enter Try.func52, Try.ntmps52
  have c1 := HX0.out.c1
  go_wp2_with fail
  refine (HP.out _ (HB0.out _)).mono ?_
  rintro e w1 ⟨v, rfl, hown, hb⟩
  have HB1 : Hid (Below w.heap.size w w1) := Lib.hid ((HB0.out _).trans (hb.mono (by simp)))
  have HX1 := Lib.hid (HX0.out.below hb (by simp))
  have HZ1 : Hid (w.heap.size + 1 ≤ w1.heap.size) := Lib.hid (by have := hb.size; simpa using this)
  rw [nats_nums] at hown
  obtain ⟨al, cl, rfl, -, hrl, -, -, -⟩ := owns_arg hown
  have HRL := Lib.hid hrl
  clear hown hb c1 hrl
  rw [List.length_map] at *
  go_wp2
  go_loopw [7, 9] (fun v i wr => ∃ k : Nat, k ≤ L.length ∧ i = .int .i64 (k : Int) ∧ wr.ownsRow w1.heap.size 43 2 v k (pcells (LV.take k)) ∧ Below w1.heap.size w1 wr) (fun _ i _ => L.length - (intOf i).toNat)
  case atStart => exact ⟨0, by omega, by go_num, (World.ownsRow_nil w1 w1.heap.size 43 2 : w1.ownsRow w1.heap.size 43 2 (.slice Option.none 0 0) 0 (pcells (LV.take 0))), Below.refl _ _⟩
  case round =>
    obtain ⟨k, hk, rfl, hown, hbl⟩ := hrel
    have HO := Lib.hid hown
    have HB := Lib.hid hbl
    by_cases hlt : k < L.length
    · have HT := Lib.hid (HTS.out k hlt)
      have hoi := HOI.out k hlt
      have HXk := Lib.hid (HX1.out.below hbl (by have := HZ1.out; omega))
      obtain ⟨bl, ol, el, ll, kl⟩ := rd_at (HRL.out.mono hbl (Nat.le_refl _)) (i := k) (by rw [List.length_map]; exact hlt)
      have HBk : Hid (Below w.heap.size w _) := Lib.hid (HB1.out.trans (hbl.mono HB1.out.size))
      have R2 := HR.out.mono HBk.out (Nat.le_refl _)
      have eL : (L.map (fun x : Nat => (x : Int))).getD k 0 = ((L.getD k 0 : Nat) : Int) := by simp [List.getD_eq_getElem?_getD, hlt]
      rw [eL] at kl
      generalize hj : L.getD k 0 = j at *
      obtain ⟨bk, ok, ek, lk2, ck⟩ := rd_at R2.fk (i := j) (by omega)
      obtain ⟨bv, ov, ev, lv2, cv⟩ := rd_at R2.fv (i := j) (by rw [HVL.out]; omega)
      have c2 := HXk.out.c2; have c3 := HXk.out.c3
      rw [ek] at c2
      rw [ev] at c3
      have HE : Hid (s.ks.getD j 0 = (pairAt s j).1 ∧ s.vs.getD j 0 = (pairAt s j).2) := Lib.hid ⟨rfl, rfl⟩
      rw [HE.out.1] at ck
      rw [HE.out.2] at cv
      generalize pairAt s j = xy at *
      obtain ⟨x, y⟩ := xy
      dsimp only at ck cv
      have hjk : j < s.ks.length := by omega
      have hjv : j < s.vs.length := by rw [HVL.out]; omega
      subst el
      clear R2 ek ev lk2 lv2 hown hbl eL hj ll hoi
      go_wp2_with fail
      refine Mix.wp_region_plan (fun w' => w' = World.drew _) [17, 18, 19, 20] [.free [true], .dep (false :: List.replicate 16 true)] (Array.replicate 17 true ++ Array.replicate 4 false) 4 mixed' (by kernel_rfl) (by kernel_rfl) (by kernel_rfl) (fun _ _ _ _ _ h => h) rfl ?_
      simp only [Mix.wpPlan, Mix.maskL, List.replicate]
      repeat (go_big_quiet_step (fail))
      refine wpQuiet_nil ?_
      repeat (go_big_quiet_step (fail))
      refine wpQuiet_nil ?_
      refine Mix.wpAny_tail (List.replicate 17 false ++ List.replicate 4 true) (Array.replicate 21 true) (by kernel_rfl) (by kernel_rfl) ?_
      simp only [Mix.maskL, List.replicate, List.cons_append, List.nil_append]
      have HOd := Lib.hid (owns_below HO.out (Below.refl _ _).drew)
      have HBd := Lib.hid (HB.out.drew)
      clear kl ck cv c2 c3
      go_wp2_with (at_builtin; refine wpList_append_pair HOd.out HBd.out.size rfl _ _ 29 rfl i0 Try.underlying29 hi hz0 hz1 hz2 _ _ 1 rfl rfl (by unfold maxLen; omega) (by omega) ?_)
      intro v' w5 hown' hb'
      have HO2 := Lib.hid hown'
      have HB2 := Lib.hid (HBd.out.trans hb')
      clear hown' hb'
      go_wp2
      go_roundw
      case rel => exact ⟨k + 1, by omega, by go_num, by rw [HT.out]; exact HO2.out, HB2.out⟩
      case measure => simp [intOf]; omega
    · obtain rfl : k = L.length := by omega
      clear hown hbl
      have HTA : Hid (LV.take L.length = LV) := Lib.hid (by rw [HPR.out]; exact List.take_of_length_le (by simp))
      have HLL : Hid (LV.length = L.length) := Lib.hid (by rw [HPR.out, List.length_map])
      go_wp2
      go_ret
      exact ⟨_, rfl, by rw [HLL.out]; have := HO.out; rw [HTA.out] at this; exact this.mono (by have := HZ1.out; omega), HB1.out.trans (HB.out.mono HB1.out.size)⟩

set_option maxRecDepth 100000 in
theorem refPart_any (n f t : Int) (w : World) :
    Calls Try.prog 40 #[.int .i64 n, .int .i64 f, .int .i64 t] w fun e w' => e = .returned (.bool (inB n f t)) ∧ w = w' := by
  by_cases h1 : 0 ≤ f
  · by_cases h2 : f ≤ t
    · have HV : Hid (inB n f t = decide (t ≤ n)) := Lib.hid (by unfold inB; simp [h1, h2])
      rw [HV.out]
      go_enter Try.func40, Try.ntmps40
      go_wp2
      go_ret
      exact ⟨rfl, rfl⟩
    · have HV : Hid (inB n f t = false) := Lib.hid (by unfold inB; simp [h2])
      rw [HV.out]
      go_enter Try.func40, Try.ntmps40
      go_wp2
      go_ret
      exact ⟨rfl, rfl⟩
  · have HV : Hid (inB n f t = false) := Lib.hid (by unfold inB; simp [h1])
    rw [HV.out]
    go_enter Try.func40, Try.ntmps40
    go_wp2
    go_ret
    exact ⟨rfl, rfl⟩

set_option maxRecDepth 100000 in
set_option maxHeartbeats 4000000 in
theorem refPairs_any (s : Sl) (h : Hd) (f t : Int) (w : World) (W : s.Wf) (R : SRd w s h) :
    Calls Try.prog 22 #[sval s h, .int .i64 f, .int .i64 t] w fun e w' => AnsPr (prsV s f t) w e w' := by
  have HB0 : Hid (∀ x, Below w.heap.size w (w.alloc x)) := Lib.hid fun x => (Below.refl _ w).alloc (Nat.le_refl _) _
  have HM := Lib.hid (fun w1 (hb : Below w.heap.size w w1) => sMay_any s h w1 W (R.mono hb (Nat.le_refl _)))
  have HX0 := Lib.hid (BoxC.new w (.int .i64 s.seg) (.slice h.aw s.ws.length h.cw) (.slice h.ak s.ks.length h.ck) (.slice h.av s.vs.length h.cv) (.slice h.ac s.cs.length h.cc) (.int .u64 s.laid) 27)
  have HP := Lib.hid (fun w1 => refPart_any s.ks.length f t w1)
  have lk := W.lk
  by_cases hv : askS s (inB s.ks.length f t) = 0
  · have HV : Hid (prsV s f t = (prs s f.toNat (t - f).toNat, 0)) := Lib.hid (if_pos hv)
    obtain ⟨hok, hin⟩ := askS_ok hv
    obtain ⟨h0, h1, h2⟩ := inB_iff.1 hin
    obtain ⟨f, rfl⟩ := Int.eq_ofNat_of_zero_le h0
    obtain ⟨t, rfl⟩ := Int.eq_ofNat_of_zero_le (show 0 ≤ t by omega)
    rw [Int.toNat_natCast, show ((t : Int) - (f : Int)).toNat = t - f by omega] at HV
    obtain ⟨g, q, o⟩ := okS_iff.1 hok
    have HO := Lib.hid (fun w1 (hb : Below w.heap.size w w1) => refOf_any s h f t g q w1 W (R.mono hb (Nat.le_refl _)) o (by omega) (by omega))
    rw [hok] at HM
    rw [hin] at HP
    clear W R hv hok hin h0 h1 h2 o
    generalize hL : prsV s f t = LV at *
    clear hL
    generalize prs s f (t - f) = V at *
    unfold sval at *
    go_enter Try.func22, Try.ntmps22
    have c0 := HX0.out.c0; have c1 := HX0.out.c1; have c2 := HX0.out.c2; have c3 := HX0.out.c3; have c4 := HX0.out.c4; have c5 := HX0.out.c5
    go_wp2_with fail
    refine (HM.out _ (HB0.out _)).mono ?_
    rintro e w1 ⟨rfl, hb⟩
    have HB1 : Hid (Below w.heap.size w w1) := Lib.hid ((HB0.out _).trans (hb.mono (by simp)))
    have HX1 := Lib.hid (HX0.out.below hb (by simp))
    clear hb c0 c1 c2 c3 c4 c5
    have c0 := HX1.out.c0; have c1 := HX1.out.c1; have c2 := HX1.out.c2; have c3 := HX1.out.c3; have c4 := HX1.out.c4; have c5 := HX1.out.c5
    go_wp2_with fail
    refine (HP.out _).mono ?_
    rintro e w2 ⟨rfl, rfl⟩
    go_wp2_with fail
    refine (HO.out _ HB1.out).mono ?_
    rintro e w2 ⟨v, rfl, hown, hb⟩
    have HO2 := Lib.hid hown
    have HB2 : Hid (Below w.heap.size w w2) := Lib.hid (HB1.out.trans (hb.mono HB1.out.size))
    clear hown hb
    go_wp2
    go_ret2
    exact ⟨v, by rw [HV.out]; rfl, by rw [HV.out]; exact HO2.out.mono HB1.out.size, HB2.out⟩
  · have HV : Hid (prsV s f t = ([], askS s (inB s.ks.length f t))) := Lib.hid (if_neg hv)
    clear W R
    generalize hL : prsV s f t = LV at *
    clear hL
    cases hok : okS s
    case false =>
      rw [askS_none hok] at HV
      rw [hok] at HM
      clear hok hv
      unfold sval at *
      go_enter Try.func22, Try.ntmps22
      have c0 := HX0.out.c0; have c1 := HX0.out.c1; have c2 := HX0.out.c2; have c3 := HX0.out.c3; have c4 := HX0.out.c4; have c5 := HX0.out.c5
      go_wp2_with fail
      refine (HM.out _ (HB0.out _)).mono ?_
      rintro e w1 ⟨rfl, hb⟩
      have HB1 : Hid (Below w.heap.size w w1) := Lib.hid ((HB0.out _).trans (hb.mono (by simp)))
      clear hb
      go_wp2
      go_ret2
      exact ⟨_, by rw [HV.out]; rfl, by rw [HV.out]; exact World.ownsRow_nil _ _ _ _, HB1.out⟩
    case true =>
      have hf : inB (s.ks.length : Int) f t = false := by
        cases hb : inB (s.ks.length : Int) f t
        · rfl
        · rw [hb, askS_in hok] at hv; exact absurd rfl hv
      rw [hf, askS_out hok] at HV
      rw [hok] at HM
      rw [hf] at HP
      clear hok hv hf
      unfold sval at *
      go_enter Try.func22, Try.ntmps22
      have c0 := HX0.out.c0; have c1 := HX0.out.c1; have c2 := HX0.out.c2; have c3 := HX0.out.c3; have c4 := HX0.out.c4; have c5 := HX0.out.c5
      go_wp2_with fail
      refine (HM.out _ (HB0.out _)).mono ?_
      rintro e w1 ⟨rfl, hb⟩
      have HB1 : Hid (Below w.heap.size w w1) := Lib.hid ((HB0.out _).trans (hb.mono (by simp)))
      have HX1 := Lib.hid (HX0.out.below hb (by simp))
      clear hb c0 c1 c2 c3 c4 c5
      have c2 := HX1.out.c2
      go_wp2_with fail
      refine (HP.out _).mono ?_
      rintro e w2 ⟨rfl, rfl⟩
      go_wp2
      go_ret2
      exact ⟨_, by rw [HV.out]; rfl, by rw [HV.out]; exact World.ownsRow_nil _ _ _ _, HB1.out⟩
end Go.Proofs.Ytfdkaahkhgljdaa.Slo
