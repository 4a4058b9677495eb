/- Contracts of the document's answer for package span: Floor, Ceiling, Min, Max, Select. -/
import Derived.Test.YthkhideonceibaaDoorMan
set_option linter.unusedSimpArgs false
set_option linter.unusedVariables false
namespace Go.Proofs.YthkhideonceibaaDoor.Span
open Go.RowKit Go.Shelf Go.Sort Go.Proofs.YthkhideonceibaaDoor Go.Proofs.YthkhideonceibaaDoor.Occ Go.Proofs.YthkhideonceibaaDoor.Slo Go.Proofs.YthkhideonceibaaDoor.Seek
attribute [local go_sem] sval Oper.semAt_some

theorem floor_told (l : List (Int × Int)) (key : Int) : (if decide ((floorL l key).2 = 0) = true then (((floorL l key).1.1, (floorL l key).1.2), (0 : Int)) else ((0, 0), 6)) = floorL l key := by
  unfold floorL
  split
  · rfl
  · split <;> rfl
theorem ceil_told (l : List (Int × Int)) (key : Int) : (if decide ((ceilL l key).2 = 0) = true then (((ceilL l key).1.1, (ceilL l key).1.2), (0 : Int)) else ((0, 0), 6)) = ceilL l key := by
  unfold ceilL
  split <;> rfl
theorem floorV_yes {s : Sl} {key : Int} (h : chkK s = 0) : floorV s key = floorL (allP s) key := if_pos h
theorem ceilV_yes {s : Sl} {key : Int} (h : chkK s = 0) : ceilV s key = ceilL (allP s) key := if_pos h

set_option maxRecDepth 100000 in
set_option maxHeartbeats 4000000 in
theorem refFloor_any (s : Sl) (h : Hd) (key : Int) (w : World) (W : s.Wf) (R : SRd w s h) :
    Calls Tryd.prog 16 #[sval s h, .int .i64 key] w fun e w' => AnsP1 (floorV s key) w e w' := by
  have E0 := Lib.hid (((((St.below' (inP_below w s h 0 0))).and (St.rd (R.next (inP_below w s h 0 0)))).and (St.bs (inP_bs w s h 0 0))).and (St.bp (inP_bp w s h 0 0)))
  have HA := Lib.hid (fun w1 (R : SRd w1 s h) => asked12_any s h w1 W R)
  by_cases hk : chkK s = 0
  · have hri := (chkK_ok hk).2
    have hsm := all_small (chkK_ok hk).1
    rw [show askL s = (allP s, 0) from if_pos hk] at HA
    have HOF := Lib.hid (fun a c w1 (R : Rd2 w1 a (allP s)) => FloorOf_any a c (allP s) key w1 R hri (by omega))
    have HV := Lib.hid (floorV_yes (key := key) hk)
    have HTO := Lib.hid (floor_told (allP s) key)
    generalize floorV s key = V at *
    generalize floorL (allP s) key = FL at *
    generalize allP s = L at *
    obtain ⟨⟨x, y⟩, c⟩ := FL
    dsimp only at HTO
    have HTD := Lib.hid (fun w1 => told_any x y (decide (c = 0)) w1)
    rw [HTO.out] at HTD
    have hV := HV.out
    subst hV
    clear HV HTO hk hri hsm R W
    unfold sval at *
    go_enter Tryd.func16, Tryd.ntmps16
    go_wp2_with fail
    rw [allocS_fold, allocP_fold, show allocP (allocS w s h) 0 0 = inP w s h 0 0 from rfl]
    generalize inP w s h 0 0 = w0 at *
    refine (HA.out _ E0.out.now.2.2.1).mono ?_
    rintro e w1 ⟨v, rfl, ho, hb⟩
    obtain ⟨al, cl, rfl, -, hr2, hcl, -⟩ := owns2_arg ho
    clear ho
    have E1 := Lib.hid ((E0.out.next hb).and (St.rd2 hr2))
    clear hb
    go_wp2_with fail
    refine (HOF.out al cl _ E1.out.now.1).mono ?_
    rintro e w2 ⟨rfl, hb⟩
    have E2 := Lib.hid (E1.out.next hb)
    clear hb
    go_wp2_with fail
    rw [allocP_fold]
    have E3 := Lib.hid ((E2.out.next (allocP_below w2 x y)).and (St.bp (allocP_bp w2 x y)))
    generalize allocP w2 x y = w3 at *
    refine (HTD.out _).mono ?_
    rintro e w4 ⟨rfl, hb⟩
    have E4 := Lib.hid (E3.out.next hb)
    clear hb
    obtain ⟨-, -, ⟨⟨bp_0, bp_1, -⟩, bp_l⟩, -, -, -⟩ := E4.out.now
    have g := E4.out.now.2.2.1.box.f
    have g0 := g 0; have g1 := g 1
    clear g
    go_wp2
    (rw [stP_fold]; obtain ⟨q0, q1⟩ := stP_bp (x := x) (y := y) E4.out.now.2.2.1; refine bodyPost_ret (v := .tuple #[.agg #[.int .i64 x, .int .i64 y], .int .i64 c]) (by simp [results, Tryd.results16, go_sem, q0, q1]) rfl ⟨rfl, stP_below E4.out.now.2.2.2.2.2 (by omega)⟩)
  · have HV : Hid (floorV s key = ((0, 0), chkK s)) := Lib.hid (if_neg hk)
    rw [show askL s = ([], chkK s) from if_neg hk] at HA
    have hne : (chkK s != 0) = true := by rw [bne_iff_ne]; exact hk
    generalize floorV s key = V at *
    have hV := HV.out
    subst hV
    generalize chkK s = c at *
    clear HV hk R W
    unfold sval at *
    go_enter Tryd.func16, Tryd.ntmps16
    go_wp2_with fail
    rw [allocS_fold, allocP_fold, show allocP (allocS w s h) 0 0 = inP w s h 0 0 from rfl]
    generalize inP w s h 0 0 = w0 at *
    refine (HA.out _ E0.out.now.2.2.1).mono ?_
    rintro e w1 ⟨v, rfl, ho, hb⟩
    obtain ⟨al, cl, rfl, -, hr2, hcl, -⟩ := owns2_arg ho
    clear ho
    have E1 := Lib.hid ((E0.out.next hb).and (St.rd2 hr2))
    clear hb
    obtain ⟨-, ⟨⟨bp_0, bp_1, -⟩, bp_l⟩, -, -, -⟩ := E1.out.now
    have g := E1.out.now.2.1.box.f
    have g0 := g 0; have g1 := g 1
    clear g
    go_wp2
    first
    | (rw [stP_fold]; obtain ⟨q0, q1⟩ := stP_bp (x := 0) (y := 0) E1.out.now.2.1; refine bodyPost_ret (v := .tuple #[.agg #[.int .i64 0, .int .i64 0], .int .i64 c]) (by simp [results, Tryd.results16, go_sem, q0, q1]) rfl ⟨rfl, stP_below E1.out.now.2.2.2.2 (by omega)⟩)
    | refine bodyPost_ret (v := .tuple #[.agg #[.int .i64 0, .int .i64 0], .int .i64 c]) (by simp [results, Tryd.results16, go_sem, bp_0, bp_1]) rfl ⟨rfl, E1.out.now.2.2.2.2⟩

set_option maxRecDepth 100000 in
set_option maxHeartbeats 4000000 in
theorem refCeiling_any (s : Sl) (h : Hd) (key : Int) (w : World) (W : s.Wf) (R : SRd w s h) :
    Calls Tryd.prog 18 #[sval s h, .int .i64 key] w fun e w' => AnsP1 (ceilV s key) w e w' := by
  have E0 := Lib.hid (((((St.below' (inP_below w s h 0 0))).and (St.rd (R.next (inP_below w s h 0 0)))).and (St.bs (inP_bs w s h 0 0))).and (St.bp (inP_bp w s h 0 0)))
  have HA := Lib.hid (fun w1 (R : SRd w1 s h) => asked12_any s h w1 W R)
  by_cases hk : chkK s = 0
  · have hri := (chkK_ok hk).2
    have hsm := all_small (chkK_ok hk).1
    rw [show askL s = (allP s, 0) from if_pos hk] at HA
    have HOF := Lib.hid (fun a c w1 (R : Rd2 w1 a (allP s)) => CeilingOf_any a c (allP s) key w1 R hri (by omega))
    have HV := Lib.hid (ceilV_yes (key := key) hk)
    have HTO := Lib.hid (ceil_told (allP s) key)
    generalize ceilV s key = V at *
    generalize ceilL (allP s) key = FL at *
    generalize allP s = L at *
    obtain ⟨⟨x, y⟩, c⟩ := FL
    dsimp only at HTO
    have HTD := Lib.hid (fun w1 => told_any x y (decide (c = 0)) w1)
    rw [HTO.out] at HTD
    have hV := HV.out
    subst hV
    clear HV HTO hk hri hsm R W
    unfold sval at *
    go_enter Tryd.func18, Tryd.ntmps18
    go_wp2_with fail
    rw [allocS_fold, allocP_fold, show allocP (allocS w s h) 0 0 = inP w s h 0 0 from rfl]
    generalize inP w s h 0 0 = w0 at *
    refine (HA.out _ E0.out.now.2.2.1).mono ?_
    rintro e w1 ⟨v, rfl, ho, hb⟩
    obtain ⟨al, cl, rfl, -, hr2, hcl, -⟩ := owns2_arg ho
    clear ho
    have E1 := Lib.hid ((E0.out.next hb).and (St.rd2 hr2))
    clear hb
    go_wp2_with fail
    refine (HOF.out al cl _ E1.out.now.1).mono ?_
    rintro e w2 ⟨rfl, hb⟩
    have E2 := Lib.hid (E1.out.next hb)
    clear hb
    go_wp2_with fail
    rw [allocP_fold]
    have E3 := Lib.hid ((E2.out.next (allocP_below w2 x y)).and (St.bp (allocP_bp w2 x y)))
    generalize allocP w2 x y = w3 at *
    refine (HTD.out _).mono ?_
    rintro e w4 ⟨rfl, hb⟩
    have E4 := Lib.hid (E3.out.next hb)
    clear hb
    obtain ⟨-, -, ⟨⟨bp_0, bp_1, -⟩, bp_l⟩, -, -, -⟩ := E4.out.now
    have g := E4.out.now.2.2.1.box.f
    have g0 := g 0; have g1 := g 1
    clear g
    go_wp2
    (rw [stP_fold]; obtain ⟨q0, q1⟩ := stP_bp (x := x) (y := y) E4.out.now.2.2.1; refine bodyPost_ret (v := .tuple #[.agg #[.int .i64 x, .int .i64 y], .int .i64 c]) (by simp [results, Tryd.results18, go_sem, q0, q1]) rfl ⟨rfl, stP_below E4.out.now.2.2.2.2.2 (by omega)⟩)
  · have HV : Hid (ceilV s key = ((0, 0), chkK s)) := Lib.hid (if_neg hk)
    rw [show askL s = ([], chkK s) from if_neg hk] at HA
    have hne : (chkK s != 0) = true := by rw [bne_iff_ne]; exact hk
    generalize ceilV s key = V at *
    have hV := HV.out
    subst hV
    generalize chkK s = c at *
    clear HV hk R W
    unfold sval at *
    go_enter Tryd.func18, Tryd.ntmps18
    go_wp2_with fail
    rw [allocS_fold, allocP_fold, show allocP (allocS w s h) 0 0 = inP w s h 0 0 from rfl]
    generalize inP w s h 0 0 = w0 at *
    refine (HA.out _ E0.out.now.2.2.1).mono ?_
    rintro e w1 ⟨v, rfl, ho, hb⟩
    obtain ⟨al, cl, rfl, -, hr2, hcl, -⟩ := owns2_arg ho
    clear ho
    have E1 := Lib.hid ((E0.out.next hb).and (St.rd2 hr2))
    clear hb
    obtain ⟨-, ⟨⟨bp_0, bp_1, -⟩, bp_l⟩, -, -, -⟩ := E1.out.now
    have g := E1.out.now.2.1.box.f
    have g0 := g 0; have g1 := g 1
    clear g
    go_wp2
    first
    | (rw [stP_fold]; obtain ⟨q0, q1⟩ := stP_bp (x := 0) (y := 0) E1.out.now.2.1; refine bodyPost_ret (v := .tuple #[.agg #[.int .i64 0, .int .i64 0], .int .i64 c]) (by simp [results, Tryd.results18, go_sem, q0, q1]) rfl ⟨rfl, stP_below E1.out.now.2.2.2.2 (by omega)⟩)
    | refine bodyPost_ret (v := .tuple #[.agg #[.int .i64 0, .int .i64 0], .int .i64 c]) (by simp [results, Tryd.results18, go_sem, bp_0, bp_1]) rfl ⟨rfl, E1.out.now.2.2.2.2⟩

set_option maxRecDepth 100000 in
set_option maxHeartbeats 4000000 in
theorem refMin_any (s : Sl) (h : Hd) (w : World) (W : s.Wf) (R : SRd w s h) :
    Calls Tryd.prog 20 #[sval s h] w fun e w' => AnsP1 (minV s) w e w' := by
  have E0 := Lib.hid (((((St.below' (inP_below w s h 0 0))).and (St.rd (R.next (inP_below w s h 0 0)))).and (St.bs (inP_bs w s h 0 0))).and (St.bp (inP_bp w s h 0 0)))
  have HA := Lib.hid (fun w1 (R : SRd w1 s h) => asked12_any s h w1 W R)
  by_cases hk : chkK s = 0
  · have hsm := all_small (chkK_ok hk).1
    rw [show askL s = (allP s, 0) from if_pos hk] at HA
    have HV : Hid (minV s = if (allP s).length = 0 then ((0, 0), 6) else ((allP s).getD 0 (0, 0), 0)) := Lib.hid (if_pos hk)
    generalize minV s = V at *
    generalize allP s = L at *
    clear hk R W
    by_cases hz : L.length = 0
    · have hV : V = ((0, 0), 6) := by rw [HV.out, if_pos hz]
      subst hV
      have hb : ((L.length : Int) == 0) = true := by rw [beq_iff_eq]; omega
      clear HV
      unfold sval at *
      go_enter Tryd.func20, Tryd.ntmps20
      go_wp2_with fail
      rw [allocS_fold, allocP_fold, show allocP (allocS w s h) 0 0 = inP w s h 0 0 from rfl]
      generalize inP w s h 0 0 = w0 at *
      refine (HA.out _ E0.out.now.2.2.1).mono ?_
      rintro e w1 ⟨v, rfl, ho, hb⟩
      obtain ⟨al, cl, rfl, -, hr2, hcl, -⟩ := owns2_arg ho
      clear ho
      have E1 := Lib.hid ((E0.out.next hb).and (St.rd2 hr2))
      clear hb
      obtain ⟨-, ⟨⟨bp_0, bp_1, -⟩, bp_l⟩, -, -, -⟩ := E1.out.now
      have g := E1.out.now.2.1.box.f
      have g0 := g 0; have g1 := g 1
      clear g
      go_wp2
      first
      | (rw [stP_fold]; obtain ⟨q0, q1⟩ := stP_bp (x := 0) (y := 0) E1.out.now.2.1; refine bodyPost_ret (v := .tuple #[.agg #[.int .i64 0, .int .i64 0], .int .i64 6]) (by simp [results, Tryd.results20, go_sem, q0, q1]) rfl ⟨rfl, stP_below E1.out.now.2.2.2.2 (by omega)⟩)
      | refine bodyPost_ret (v := .tuple #[.agg #[.int .i64 0, .int .i64 0], .int .i64 6]) (by simp [results, Tryd.results20, go_sem, bp_0, bp_1]) rfl ⟨rfl, E1.out.now.2.2.2.2⟩
    · obtain ⟨x, y, hxy⟩ : ∃ x y, L.getD 0 (0, 0) = (x, y) := ⟨_, _, rfl⟩
      have hV : V = ((x, y), 0) := by rw [HV.out, if_neg hz, hxy]
      subst hV
      have HXY := Lib.hid hxy
      clear hxy
      have hb : ((L.length : Int) == 0) = false := by rw [beq_eq_false_iff_ne]; omega
      have hnl : 0 < L.length := by omega
      clear HV
      unfold sval at *
      go_enter Tryd.func20, Tryd.ntmps20
      go_wp2_with fail
      rw [allocS_fold, allocP_fold, show allocP (allocS w s h) 0 0 = inP w s h 0 0 from rfl]
      generalize inP w s h 0 0 = w0 at *
      refine (HA.out _ E0.out.now.2.2.1).mono ?_
      rintro e w1 ⟨v, rfl, ho, hb⟩
      obtain ⟨al, cl, rfl, -, hr2, hcl, -⟩ := owns2_arg ho
      clear ho
      have E1 := Lib.hid ((E0.out.next hb).and (St.rd2 hr2))
      clear hb
      obtain ⟨bl, ol, rfl, ca, cb⟩ := Rd2.at E1.out.now.1 (Below.refl _ _) (Nat.le_refl _) hnl
      rw [HXY.out] at ca cb
      dsimp only at ca cb
      simp only [Nat.zero_mul, Nat.add_zero] at ca cb
      obtain ⟨-, ⟨⟨bp_0, bp_1, -⟩, bp_l⟩, -, -, -⟩ := E1.out.now
      have g := E1.out.now.2.1.box.f
      have g0 := g 0; have g1 := g 1
      clear g
      go_wp2
      (rw [stP_fold]; obtain ⟨q0, q1⟩ := stP_bp (x := x) (y := y) E1.out.now.2.1; refine bodyPost_ret (v := .tuple #[.agg #[.int .i64 x, .int .i64 y], .int .i64 0]) (by simp [results, Tryd.results20, go_sem, q0, q1]) rfl ⟨rfl, stP_below E1.out.now.2.2.2.2 (by omega)⟩)
  · have HV : Hid (minV s = ((0, 0), chkK s)) := Lib.hid (if_neg hk)
    rw [show askL s = ([], chkK s) from if_neg hk] at HA
    have hne : (chkK s != 0) = true := by rw [bne_iff_ne]; exact hk
    generalize minV s = V at *
    have hV := HV.out
    subst hV
    generalize chkK s = c at *
    clear HV hk R W
    unfold sval at *
    go_enter Tryd.func20, Tryd.ntmps20
    go_wp2_with fail
    rw [allocS_fold, allocP_fold, show allocP (allocS w s h) 0 0 = inP w s h 0 0 from rfl]
    generalize inP w s h 0 0 = w0 at *
    refine (HA.out _ E0.out.now.2.2.1).mono ?_
    rintro e w1 ⟨v, rfl, ho, hb⟩
    obtain ⟨al, cl, rfl, -, hr2, hcl, -⟩ := owns2_arg ho
    clear ho
    have E1 := Lib.hid ((E0.out.next hb).and (St.rd2 hr2))
    clear hb
    obtain ⟨-, ⟨⟨bp_0, bp_1, -⟩, bp_l⟩, -, -, -⟩ := E1.out.now
    have g := E1.out.now.2.1.box.f
    have g0 := g 0; have g1 := g 1
    clear g
    go_wp2
    first
    | (rw [stP_fold]; obtain ⟨q0, q1⟩ := stP_bp (x := 0) (y := 0) E1.out.now.2.1; refine bodyPost_ret (v := .tuple #[.agg #[.int .i64 0, .int .i64 0], .int .i64 c]) (by simp [results, Tryd.results20, go_sem, q0, q1]) rfl ⟨rfl, stP_below E1.out.now.2.2.2.2 (by omega)⟩)
    | refine bodyPost_ret (v := .tuple #[.agg #[.int .i64 0, .int .i64 0], .int .i64 c]) (by simp [results, Tryd.results20, go_sem, bp_0, bp_1]) rfl ⟨rfl, E1.out.now.2.2.2.2⟩

set_option maxRecDepth 100000 in
set_option maxHeartbeats 4000000 in
theorem refMax_any (s : Sl) (h : Hd) (w : World) (W : s.Wf) (R : SRd w s h) :
    Calls Tryd.prog 22 #[sval s h] w fun e w' => AnsP1 (maxV s) w e w' := by
  have E0 := Lib.hid (((((St.below' (inP_below w s h 0 0))).and (St.rd (R.next (inP_below w s h 0 0)))).and (St.bs (inP_bs w s h 0 0))).and (St.bp (inP_bp w s h 0 0)))
  have HA := Lib.hid (fun w1 (R : SRd w1 s h) => asked12_any s h w1 W R)
  by_cases hk : chkK s = 0
  · have hsm := all_small (chkK_ok hk).1
    rw [show askL s = (allP s, 0) from if_pos hk] at HA
    have HV : Hid (maxV s = if (allP s).length = 0 then ((0, 0), 6) else ((allP s).getD ((allP s).length - 1) (0, 0), 0)) := Lib.hid (if_pos hk)
    generalize maxV s = V at *
    generalize allP s = L at *
    clear hk R W
    by_cases hz : L.length = 0
    · have hV : V = ((0, 0), 6) := by rw [HV.out, if_pos hz]
      subst hV
      have hb : ((L.length : Int) == 0) = true := by rw [beq_iff_eq]; omega
      clear HV
      unfold sval at *
      go_enter Tryd.func22, Tryd.ntmps22
      go_wp2_with fail
      rw [allocS_fold, allocP_fold, show allocP (allocS w s h) 0 0 = inP w s h 0 0 from rfl]
      generalize inP w s h 0 0 = w0 at *
      refine (HA.out _ E0.out.now.2.2.1).mono ?_
      rintro e w1 ⟨v, rfl, ho, hb⟩
      obtain ⟨al, cl, rfl, -, hr2, hcl, -⟩ := owns2_arg ho
      clear ho
      have E1 := Lib.hid ((E0.out.next hb).and (St.rd2 hr2))
      clear hb
      obtain ⟨-, ⟨⟨bp_0, bp_1, -⟩, bp_l⟩, -, -, -⟩ := E1.out.now
      have g := E1.out.now.2.1.box.f
      have g0 := g 0; have g1 := g 1
      clear g
      go_wp2
      first
      | (rw [stP_fold]; obtain ⟨q0, q1⟩ := stP_bp (x := 0) (y := 0) E1.out.now.2.1; refine bodyPost_ret (v := .tuple #[.agg #[.int .i64 0, .int .i64 0], .int .i64 6]) (by simp [results, Tryd.results22, go_sem, q0, q1]) rfl ⟨rfl, stP_below E1.out.now.2.2.2.2 (by omega)⟩)
      | refine bodyPost_ret (v := .tuple #[.agg #[.int .i64 0, .int .i64 0], .int .i64 6]) (by simp [results, Tryd.results22, go_sem, bp_0, bp_1]) rfl ⟨rfl, E1.out.now.2.2.2.2⟩
    · obtain ⟨x, y, hxy⟩ : ∃ x y, L.getD (L.length - 1) (0, 0) = (x, y) := ⟨_, _, rfl⟩
      have hV : V = ((x, y), 0) := by rw [HV.out, if_neg hz, hxy]
      subst hV
      have HXY := Lib.hid hxy
      clear hxy
      have hb : ((L.length : Int) == 0) = false := by rw [beq_eq_false_iff_ne]; omega
      have hnl : (L.length - 1) < L.length := by omega
      clear HV
      have e1 : IntKind.i64.wrap ((L.length : Int) - 1) = ((L.length - 1 : Nat) : Int) := by rw [IntKind.wrap_i64]; omega
      unfold sval at *
      go_enter Tryd.func22, Tryd.ntmps22
      go_wp2_with fail
      rw [allocS_fold, allocP_fold, show allocP (allocS w s h) 0 0 = inP w s h 0 0 from rfl]
      generalize inP w s h 0 0 = w0 at *
      refine (HA.out _ E0.out.now.2.2.1).mono ?_
      rintro e w1 ⟨v, rfl, ho, hb⟩
      obtain ⟨al, cl, rfl, -, hr2, hcl, -⟩ := owns2_arg ho
      clear ho
      have E1 := Lib.hid ((E0.out.next hb).and (St.rd2 hr2))
      clear hb
      obtain ⟨bl, ol, rfl, ca, cb⟩ := Rd2.at E1.out.now.1 (Below.refl _ _) (Nat.le_refl _) hnl
      rw [HXY.out] at ca cb
      dsimp only at ca cb
      generalize hn1 : L.length - 1 = n at *
      clear HXY hn1
      obtain ⟨-, ⟨⟨bp_0, bp_1, -⟩, bp_l⟩, -, -, -⟩ := E1.out.now
      have g := E1.out.now.2.1.box.f
      have g0 := g 0; have g1 := g 1
      clear g
      go_wp2
      (rw [stP_fold]; obtain ⟨q0, q1⟩ := stP_bp (x := x) (y := y) E1.out.now.2.1; refine bodyPost_ret (v := .tuple #[.agg #[.int .i64 x, .int .i64 y], .int .i64 0]) (by simp [results, Tryd.results22, go_sem, q0, q1]) rfl ⟨rfl, stP_below E1.out.now.2.2.2.2 (by omega)⟩)
  · have HV : Hid (maxV s = ((0, 0), chkK s)) := Lib.hid (if_neg hk)
    rw [show askL s = ([], chkK s) from if_neg hk] at HA
    have hne : (chkK s != 0) = true := by rw [bne_iff_ne]; exact hk
    generalize maxV s = V at *
    have hV := HV.out
    subst hV
    generalize chkK s = c at *
    clear HV hk R W
    unfold sval at *
    go_enter Tryd.func22, Tryd.ntmps22
    go_wp2_with fail
    rw [allocS_fold, allocP_fold, show allocP (allocS w s h) 0 0 = inP w s h 0 0 from rfl]
    generalize inP w s h 0 0 = w0 at *
    refine (HA.out _ E0.out.now.2.2.1).mono ?_
    rintro e w1 ⟨v, rfl, ho, hb⟩
    obtain ⟨al, cl, rfl, -, hr2, hcl, -⟩ := owns2_arg ho
    clear ho
    have E1 := Lib.hid ((E0.out.next hb).and (St.rd2 hr2))
    clear hb
    obtain ⟨-, ⟨⟨bp_0, bp_1, -⟩, bp_l⟩, -, -, -⟩ := E1.out.now
    have g := E1.out.now.2.1.box.f
    have g0 := g 0; have g1 := g 1
    clear g
    go_wp2
    first
    | (rw [stP_fold]; obtain ⟨q0, q1⟩ := stP_bp (x := 0) (y := 0) E1.out.now.2.1; refine bodyPost_ret (v := .tuple #[.agg #[.int .i64 0, .int .i64 0], .int .i64 c]) (by simp [results, Tryd.results22, go_sem, q0, q1]) rfl ⟨rfl, stP_below E1.out.now.2.2.2.2 (by omega)⟩)
    | refine bodyPost_ret (v := .tuple #[.agg #[.int .i64 0, .int .i64 0], .int .i64 c]) (by simp [results, Tryd.results22, go_sem, bp_0, bp_1]) rfl ⟨rfl, E1.out.now.2.2.2.2⟩

set_option maxRecDepth 100000 in
set_option maxHeartbeats 4000000 in
theorem refSelect_any (s : Sl) (h : Hd) (key : Int) (w : World) (W : s.Wf) (R : SRd w s h) :
    Calls Tryd.prog 24 #[sval s h, .int .i64 key] w fun e w' => AnsP1 (selV s key) w e w' := by
  have E0 := Lib.hid (((((St.below' (inP_below w s h 0 0))).and (St.rd (R.next (inP_below w s h 0 0)))).and (St.bs (inP_bs w s h 0 0))).and (St.bp (inP_bp w s h 0 0)))
  have HA := Lib.hid (fun w1 (R : SRd w1 s h) => asked12_any s h w1 W R)
  by_cases hk : chkK s = 0
  · have hsm := all_small (chkK_ok hk).1
    rw [show askL s = (allP s, 0) from if_pos hk] at HA
    have HV : Hid (selV s key = if 0 ≤ key ∧ key < ((allP s).length : Int) then ((allP s).getD key.toNat (0, 0), 0) else ((0, 0), 290)) := Lib.hid (if_pos hk)
    generalize selV s key = V at *
    generalize allP s = L at *
    clear hk R W
    by_cases h0 : key < 0
    · have hV : V = ((0, 0), 290) := by rw [HV.out, if_neg (by omega)]
      subst hV
      clear HV
      unfold sval at *
      go_enter Tryd.func24, Tryd.ntmps24
      go_wp2_with fail
      rw [allocS_fold, allocP_fold, show allocP (allocS w s h) 0 0 = inP w s h 0 0 from rfl]
      generalize inP w s h 0 0 = w0 at *
      refine (HA.out _ E0.out.now.2.2.1).mono ?_
      rintro e w1 ⟨v, rfl, ho, hb⟩
      obtain ⟨al, cl, rfl, -, hr2, hcl, -⟩ := owns2_arg ho
      clear ho
      have E1 := Lib.hid ((E0.out.next hb).and (St.rd2 hr2))
      clear hb
      obtain ⟨-, ⟨⟨bp_0, bp_1, -⟩, bp_l⟩, -, -, -⟩ := E1.out.now
      have g := E1.out.now.2.1.box.f
      have g0 := g 0; have g1 := g 1
      clear g
      go_wp2
      first
      | (rw [stP_fold]; obtain ⟨q0, q1⟩ := stP_bp (x := 0) (y := 0) E1.out.now.2.1; refine bodyPost_ret (v := .tuple #[.agg #[.int .i64 0, .int .i64 0], .int .i64 290]) (by simp [results, Tryd.results24, go_sem, q0, q1]) rfl ⟨rfl, stP_below E1.out.now.2.2.2.2 (by omega)⟩)
      | refine bodyPost_ret (v := .tuple #[.agg #[.int .i64 0, .int .i64 0], .int .i64 290]) (by simp [results, Tryd.results24, go_sem, bp_0, bp_1]) rfl ⟨rfl, E1.out.now.2.2.2.2⟩
    · obtain ⟨k, rfl⟩ := Int.eq_ofNat_of_zero_le (Int.not_lt.1 h0)
      by_cases hlt : k < L.length
      · obtain ⟨x, y, hxy⟩ : ∃ x y, L.getD k (0, 0) = (x, y) := ⟨_, _, rfl⟩
        have hV : V = ((x, y), 0) := by rw [HV.out, if_pos (by omega), Int.toNat_natCast, hxy]
        subst hV
        have HXY := Lib.hid hxy
        clear hxy
        have h1 : ¬ ((L.length : Int) ≤ (k : Int)) := by omega
        clear HV
        unfold sval at *
        go_enter Tryd.func24, Tryd.ntmps24
        go_wp2_with fail
        rw [allocS_fold, allocP_fold, show allocP (allocS w s h) 0 0 = inP w s h 0 0 from rfl]
        generalize inP w s h 0 0 = w0 at *
        refine (HA.out _ E0.out.now.2.2.1).mono ?_
        rintro e w1 ⟨v, rfl, ho, hb⟩
        obtain ⟨al, cl, rfl, -, hr2, hcl, -⟩ := owns2_arg ho
        clear ho
        have E1 := Lib.hid ((E0.out.next hb).and (St.rd2 hr2))
        clear hb
        obtain ⟨bl, ol, rfl, ca, cb⟩ := Rd2.at E1.out.now.1 (Below.refl _ _) (Nat.le_refl _) hlt
        rw [HXY.out] at ca cb
        dsimp only at ca cb
        obtain ⟨-, ⟨⟨bp_0, bp_1, -⟩, bp_l⟩, -, -, -⟩ := E1.out.now
        have g := E1.out.now.2.1.box.f
        have g0 := g 0; have g1 := g 1
        clear g
        go_wp2
        (rw [stP_fold]; obtain ⟨q0, q1⟩ := stP_bp (x := x) (y := y) E1.out.now.2.1; refine bodyPost_ret (v := .tuple #[.agg #[.int .i64 x, .int .i64 y], .int .i64 0]) (by simp [results, Tryd.results24, go_sem, q0, q1]) rfl ⟨rfl, stP_below E1.out.now.2.2.2.2 (by omega)⟩)
      · have hV : V = ((0, 0), 290) := by rw [HV.out, if_neg (by omega)]
        subst hV
        have h1 : ((L.length : Int) ≤ (k : Int)) := by omega
        clear HV
        unfold sval at *
        go_enter Tryd.func24, Tryd.ntmps24
        go_wp2_with fail
        rw [allocS_fold, allocP_fold, show allocP (allocS w s h) 0 0 = inP w s h 0 0 from rfl]
        generalize inP w s h 0 0 = w0 at *
        refine (HA.out _ E0.out.now.2.2.1).mono ?_
        rintro e w1 ⟨v, rfl, ho, hb⟩
        obtain ⟨al, cl, rfl, -, hr2, hcl, -⟩ := owns2_arg ho
        clear ho
        have E1 := Lib.hid ((E0.out.next hb).and (St.rd2 hr2))
        clear hb
        obtain ⟨-, ⟨⟨bp_0, bp_1, -⟩, bp_l⟩, -, -, -⟩ := E1.out.now
        have g := E1.out.now.2.1.box.f
        have g0 := g 0; have g1 := g 1
        clear g
        go_wp2
        first
        | (rw [stP_fold]; obtain ⟨q0, q1⟩ := stP_bp (x := 0) (y := 0) E1.out.now.2.1; refine bodyPost_ret (v := .tuple #[.agg #[.int .i64 0, .int .i64 0], .int .i64 290]) (by simp [results, Tryd.results24, go_sem, q0, q1]) rfl ⟨rfl, stP_below E1.out.now.2.2.2.2 (by omega)⟩)
        | refine bodyPost_ret (v := .tuple #[.agg #[.int .i64 0, .int .i64 0], .int .i64 290]) (by simp [results, Tryd.results24, go_sem, bp_0, bp_1]) rfl ⟨rfl, E1.out.now.2.2.2.2⟩
  · have HV : Hid (selV s key = ((0, 0), chkK s)) := Lib.hid (if_neg hk)
    rw [show askL s = ([], chkK s) from if_neg hk] at HA
    have hne : (chkK s != 0) = true := by rw [bne_iff_ne]; exact hk
    generalize selV s key = V at *
    have hV := HV.out
    subst hV
    generalize chkK s = c at *
    clear HV hk R W
    unfold sval at *
    go_enter Tryd.func24, Tryd.ntmps24
    go_wp2_with fail
    rw [allocS_fold, allocP_fold, show allocP (allocS w s h) 0 0 = inP w s h 0 0 from rfl]
    generalize inP w s h 0 0 = w0 at *
    refine (HA.out _ E0.out.now.2.2.1).mono ?_
    rintro e w1 ⟨v, rfl, ho, hb⟩
    obtain ⟨al, cl, rfl, -, hr2, hcl, -⟩ := owns2_arg ho
    clear ho
    have E1 := Lib.hid ((E0.out.next hb).and (St.rd2 hr2))
    clear hb
    obtain ⟨-, ⟨⟨bp_0, bp_1, -⟩, bp_l⟩, -, -, -⟩ := E1.out.now
    have g := E1.out.now.2.1.box.f
    have g0 := g 0; have g1 := g 1
    clear g
    go_wp2
    first
    | (rw [stP_fold]; obtain ⟨q0, q1⟩ := stP_bp (x := 0) (y := 0) E1.out.now.2.1; refine bodyPost_ret (v := .tuple #[.agg #[.int .i64 0, .int .i64 0], .int .i64 c]) (by simp [results, Tryd.results24, go_sem, q0, q1]) rfl ⟨rfl, stP_below E1.out.now.2.2.2.2 (by omega)⟩)
    | refine bodyPost_ret (v := .tuple #[.agg #[.int .i64 0, .int .i64 0], .int .i64 c]) (by simp [results, Tryd.results24, go_sem, bp_0, bp_1]) rfl ⟨rfl, E1.out.now.2.2.2.2⟩
end Go.Proofs.YthkhideonceibaaDoor.Span
