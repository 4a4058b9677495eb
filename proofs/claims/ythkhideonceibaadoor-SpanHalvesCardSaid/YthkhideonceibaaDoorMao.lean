/- Contracts of the document's answer for package span: Floor, Ceiling, Min, Max, Select. A range over an iterator that never ends by itself: the body says, in time, that it wants no more. A range over an iterator that writes a box of its own: it ends by itself, or the body says that it wants no more. -/
import Derived.Test.YthkhideonceibaaDoorMan
set_option linter.unusedSimpArgs false
set_option linter.unusedVariables false
namespace Go.Proofs.YthkhideonceibaaDoor.Span
open Go.RowKit Go.Shelf Go.Sort Go.Proofs.YthkhideonceibaaDoor Go.Proofs.YthkhideonceibaaDoor.Occ Go.Proofs.YthkhideonceibaaDoor.Slo Go.Proofs.YthkhideonceibaaDoor.Seek
attribute [local go_sem] sval Oper.semAt_some

theorem floor_told (l : List (Int × Int)) (key : Int) : (if decide ((floorL l key).2 = 0) = true then (((floorL l key).1.1, (floorL l key).1.2), (0 : Int)) else ((0, 0), 6)) = floorL l key := by
  unfold floorL
  split
  · rfl
  · split <;> rfl
theorem ceil_told (l : List (Int × Int)) (key : Int) : (if decide ((ceilL l key).2 = 0) = true then (((ceilL l key).1.1, (ceilL l key).1.2), (0 : Int)) else ((0, 0), 6)) = ceilL l key := by
  unfold ceilL
  split <;> rfl
theorem floorV_yes {s : Sl} {key : Int} (h : chkK s = 0) : floorV s key = floorL (allP s) key := if_pos h
theorem ceilV_yes {s : Sl} {key : Int} (h : chkK s = 0) : ceilV s key = ceilL (allP s) key := if_pos h

set_option maxRecDepth 100000 in
set_option maxHeartbeats 4000000 in
theorem refFloor_any (s : Sl) (h : Hd) (key : Int) (w : World) (W : s.Wf) (R : SRd w s h) :
    Calls Tryd.prog 16 #[sval s h, .int .i64 key] w fun e w' => AnsP1 (floorV s key) w e w' := by
  have E0 := Lib.hid (((((St.below' (inP_below w s h 0 0))).and (St.rd (R.next (inP_below w s h 0 0)))).and (St.bs (inP_bs w s h 0 0))).and (St.bp (inP_bp w s h 0 0)))
  have HA := Lib.hid (fun w1 (R : SRd w1 s h) => asked12_any s h w1 W R)
  by_cases hk : chkK s = 0
  · have hri := (chkK_ok hk).2
    have hsm := all_small (chkK_ok hk).1
    rw [show askL s = (allP s, 0) from if_pos hk] at HA
    have HOF := Lib.hid (fun a c w1 (R : Rd2 w1 a (allP s)) => FloorOf_any a c (allP s) key w1 R hri (by omega))
    have HV := Lib.hid (floorV_yes (key := key) hk)
    have HTO := Lib.hid (floor_told (allP s) key)
    generalize floorV s key = V at *
    generalize floorL (allP s) key = FL at *
    generalize allP s = L at *
    obtain ⟨⟨x, y⟩, c⟩ := FL
    dsimp only at HTO
    have HTD := Lib.hid (fun w1 => told_any x y (decide (c = 0)) w1)
    rw [HTO.out] at HTD
    have hV := HV.out
    subst hV
    clear HV HTO hk hri hsm R W
    unfold sval at *
    go_enter Tryd.func16, Tryd.ntmps16
    go_wp2_with fail
    rw [allocS_fold, allocP_fold, show allocP (allocS w s h) 0 0 = inP w s h 0 0 from rfl]
    generalize inP w s h 0 0 = w0 at *
    refine (HA.out _ E0.out.now.2.2.1).mono ?_
    rintro e w1 ⟨v, rfl, ho, hb⟩
    obtain ⟨al, cl, rfl, -, hr2, hcl, -⟩ := owns2_arg ho
    clear ho
    have E1 := Lib.hid ((E0.out.next hb).and (St.rd2 hr2))
    clear hb
    go_wp2_with fail
    refine (HOF.out al cl _ E1.out.now.1).mono ?_
    rintro e w2 ⟨rfl, hb⟩
    have E2 := Lib.hid (E1.out.next hb)
    clear hb
    go_wp2_with fail
    rw [allocP_fold]
    have E3 := Lib.hid ((E2.out.next (allocP_below w2 x y)).and (St.bp (allocP_bp w2 x y)))
    generalize allocP w2 x y = w3 at *
    refine (HTD.out _).mono ?_
    rintro e w4 ⟨rfl, hb⟩
    have E4 := Lib.hid (E3.out.next hb)
    clear hb
    obtain ⟨-, -, ⟨⟨bp_0, bp_1, -⟩, bp_l⟩, -, -, -⟩ := E4.out.now
    have g := E4.out.now.2.2.1.box.f
    have g0 := g 0; have g1 := g 1
    clear g
    go_wp2
    (rw [stP_fold]; obtain ⟨q0, q1⟩ := stP_bp (x := x) (y := y) E4.out.now.2.2.1; refine bodyPost_ret (v := .tuple #[.agg #[.int .i64 x, .int .i64 y], .int .i64 c]) (by simp [results, Tryd.results16, go_sem, q0, q1]) rfl ⟨rfl, stP_below E4.out.now.2.2.2.2.2 (by omega)⟩)
  · have HV : Hid (floorV s key = ((0, 0), chkK s)) := Lib.hid (if_neg hk)
    rw [show askL s = ([], chkK s) from if_neg hk] at HA
    have hne : (chkK s != 0) = true := by rw [bne_iff_ne]; exact hk
    generalize floorV s key = V at *
    have hV := HV.out
    subst hV
    generalize chkK s = c at *
    clear HV hk R W
    unfold sval at *
    go_enter Tryd.func16, Tryd.ntmps16
    go_wp2_with fail
    rw [allocS_fold, allocP_fold, show allocP (allocS w s h) 0 0 = inP w s h 0 0 from rfl]
    generalize inP w s h 0 0 = w0 at *
    refine (HA.out _ E0.out.now.2.2.1).mono ?_
    rintro e w1 ⟨v, rfl, ho, hb⟩
    obtain ⟨al, cl, rfl, -, hr2, hcl, -⟩ := owns2_arg ho
    clear ho
    have E1 := Lib.hid ((E0.out.next hb).and (St.rd2 hr2))
    clear hb
    obtain ⟨-, ⟨⟨bp_0, bp_1, -⟩, bp_l⟩, -, -, -⟩ := E1.out.now
    have g := E1.out.now.2.1.box.f
    have g0 := g 0; have g1 := g 1
    clear g
    go_wp2
    first
    | (rw [stP_fold]; obtain ⟨q0, q1⟩ := stP_bp (x := 0) (y := 0) E1.out.now.2.1; refine bodyPost_ret (v := .tuple #[.agg #[.int .i64 0, .int .i64 0], .int .i64 c]) (by simp [results, Tryd.results16, go_sem, q0, q1]) rfl ⟨rfl, stP_below E1.out.now.2.2.2.2 (by omega)⟩)
    | refine bodyPost_ret (v := .tuple #[.agg #[.int .i64 0, .int .i64 0], .int .i64 c]) (by simp [results, Tryd.results16, go_sem, bp_0, bp_1]) rfl ⟨rfl, E1.out.now.2.2.2.2⟩

set_option maxRecDepth 100000 in
set_option maxHeartbeats 4000000 in
theorem refCeiling_any (s : Sl) (h : Hd) (key : Int) (w : World) (W : s.Wf) (R : SRd w s h) :
    Calls Tryd.prog 18 #[sval s h, .int .i64 key] w fun e w' => AnsP1 (ceilV s key) w e w' := by
  have E0 := Lib.hid (((((St.below' (inP_below w s h 0 0))).and (St.rd (R.next (inP_below w s h 0 0)))).and (St.bs (inP_bs w s h 0 0))).and (St.bp (inP_bp w s h 0 0)))
  have HA := Lib.hid (fun w1 (R : SRd w1 s h) => asked12_any s h w1 W R)
  by_cases hk : chkK s = 0
  · have hri := (chkK_ok hk).2
    have hsm := all_small (chkK_ok hk).1
    rw [show askL s = (allP s, 0) from if_pos hk] at HA
    have HOF := Lib.hid (fun a c w1 (R : Rd2 w1 a (allP s)) => CeilingOf_any a c (allP s) key w1 R hri (by omega))
    have HV := Lib.hid (ceilV_yes (key := key) hk)
    have HTO := Lib.hid (ceil_told (allP s) key)
    generalize ceilV s key = V at *
    generalize ceilL (allP s) key = FL at *
    generalize allP s = L at *
    obtain ⟨⟨x, y⟩, c⟩ := FL
    dsimp only at HTO
    have HTD := Lib.hid (fun w1 => told_any x y (decide (c = 0)) w1)
    rw [HTO.out] at HTD
    have hV := HV.out
    subst hV
    clear HV HTO hk hri hsm R W
    unfold sval at *
    go_enter Tryd.func18, Tryd.ntmps18
    go_wp2_with fail
    rw [allocS_fold, allocP_fold, show allocP (allocS w s h) 0 0 = inP w s h 0 0 from rfl]
    generalize inP w s h 0 0 = w0 at *
    refine (HA.out _ E0.out.now.2.2.1).mono ?_
    rintro e w1 ⟨v, rfl, ho, hb⟩
    obtain ⟨al, cl, rfl, -, hr2, hcl, -⟩ := owns2_arg ho
    clear ho
    have E1 := Lib.hid ((E0.out.next hb).and (St.rd2 hr2))
    clear hb
    go_wp2_with fail
    refine (HOF.out al cl _ E1.out.now.1).mono ?_
    rintro e w2 ⟨rfl, hb⟩
    have E2 := Lib.hid (E1.out.next hb)
    clear hb
    go_wp2_with fail
    rw [allocP_fold]
    have E3 := Lib.hid ((E2.out.next (allocP_below w2 x y)).and (St.bp (allocP_bp w2 x y)))
    generalize allocP w2 x y = w3 at *
    refine (HTD.out _).mono ?_
    rintro e w4 ⟨rfl, hb⟩
    have E4 := Lib.hid (E3.out.next hb)
    clear hb
    obtain ⟨-, -, ⟨⟨bp_0, bp_1, -⟩, bp_l⟩, -, -, -⟩ := E4.out.now
    have g := E4.out.now.2.2.1.box.f
    have g0 := g 0; have g1 := g 1
    clear g
    go_wp2
    (rw [stP_fold]; obtain ⟨q0, q1⟩ := stP_bp (x := x) (y := y) E4.out.now.2.2.1; refine bodyPost_ret (v := .tuple #[.agg #[.int .i64 x, .int .i64 y], .int .i64 c]) (by simp [results, Tryd.results18, go_sem, q0, q1]) rfl ⟨rfl, stP_below E4.out.now.2.2.2.2.2 (by omega)⟩)
  · have HV : Hid (ceilV s key = ((0, 0), chkK s)) := Lib.hid (if_neg hk)
    rw [show askL s = ([], chkK s) from if_neg hk] at HA
    have hne : (chkK s != 0) = true := by rw [bne_iff_ne]; exact hk
    generalize ceilV s key = V at *
    have hV := HV.out
    subst hV
    generalize chkK s = c at *
    clear HV hk R W
    unfold sval at *
    go_enter Tryd.func18, Tryd.ntmps18
    go_wp2_with fail
    rw [allocS_fold, allocP_fold, show allocP (allocS w s h) 0 0 = inP w s h 0 0 from rfl]
    generalize inP w s h 0 0 = w0 at *
    refine (HA.out _ E0.out.now.2.2.1).mono ?_
    rintro e w1 ⟨v, rfl, ho, hb⟩
    obtain ⟨al, cl, rfl, -, hr2, hcl, -⟩ := owns2_arg ho
    clear ho
    have E1 := Lib.hid ((E0.out.next hb).and (St.rd2 hr2))
    clear hb
    obtain ⟨-, ⟨⟨bp_0, bp_1, -⟩, bp_l⟩, -, -, -⟩ := E1.out.now
    have g := E1.out.now.2.1.box.f
    have g0 := g 0; have g1 := g 1
    clear g
    go_wp2
    first
    | (rw [stP_fold]; obtain ⟨q0, q1⟩ := stP_bp (x := 0) (y := 0) E1.out.now.2.1; refine bodyPost_ret (v := .tuple #[.agg #[.int .i64 0, .int .i64 0], .int .i64 c]) (by simp [results, Tryd.results18, go_sem, q0, q1]) rfl ⟨rfl, stP_below E1.out.now.2.2.2.2 (by omega)⟩)
    | refine bodyPost_ret (v := .tuple #[.agg #[.int .i64 0, .int .i64 0], .int .i64 c]) (by simp [results, Tryd.results18, go_sem, bp_0, bp_1]) rfl ⟨rfl, E1.out.now.2.2.2.2⟩

set_option maxRecDepth 100000 in
set_option maxHeartbeats 4000000 in
theorem refMin_any (s : Sl) (h : Hd) (w : World) (W : s.Wf) (R : SRd w s h) :
    Calls Tryd.prog 20 #[sval s h] w fun e w' => AnsP1 (minV s) w e w' := by
  have E0 := Lib.hid (((((St.below' (inP_below w s h 0 0))).and (St.rd (R.next (inP_below w s h 0 0)))).and (St.bs (inP_bs w s h 0 0))).and (St.bp (inP_bp w s h 0 0)))
  have HA := Lib.hid (fun w1 (R : SRd w1 s h) => asked12_any s h w1 W R)
  by_cases hk : chkK s = 0
  · have hsm := all_small (chkK_ok hk).1
    rw [show askL s = (allP s, 0) from if_pos hk] at HA
    have HV : Hid (minV s = if (allP s).length = 0 then ((0, 0), 6) else ((allP s).getD 0 (0, 0), 0)) := Lib.hid (if_pos hk)
    generalize minV s = V at *
    generalize allP s = L at *
    clear hk R W
    by_cases hz : L.length = 0
    · have hV : V = ((0, 0), 6) := by rw [HV.out, if_pos hz]
      subst hV
      have hb : ((L.length : Int) == 0) = true := by rw [beq_iff_eq]; omega
      clear HV
      unfold sval at *
      go_enter Tryd.func20, Tryd.ntmps20
      go_wp2_with fail
      rw [allocS_fold, allocP_fold, show allocP (allocS w s h) 0 0 = inP w s h 0 0 from rfl]
      generalize inP w s h 0 0 = w0 at *
      refine (HA.out _ E0.out.now.2.2.1).mono ?_
      rintro e w1 ⟨v, rfl, ho, hb⟩
      obtain ⟨al, cl, rfl, -, hr2, hcl, -⟩ := owns2_arg ho
      clear ho
      have E1 := Lib.hid ((E0.out.next hb).and (St.rd2 hr2))
      clear hb
      obtain ⟨-, ⟨⟨bp_0, bp_1, -⟩, bp_l⟩, -, -, -⟩ := E1.out.now
      have g := E1.out.now.2.1.box.f
      have g0 := g 0; have g1 := g 1
      clear g
      go_wp2
      first
      | (rw [stP_fold]; obtain ⟨q0, q1⟩ := stP_bp (x := 0) (y := 0) E1.out.now.2.1; refine bodyPost_ret (v := .tuple #[.agg #[.int .i64 0, .int .i64 0], .int .i64 6]) (by simp [results, Tryd.results20, go_sem, q0, q1]) rfl ⟨rfl, stP_below E1.out.now.2.2.2.2 (by omega)⟩)
      | refine bodyPost_ret (v := .tuple #[.agg #[.int .i64 0, .int .i64 0], .int .i64 6]) (by simp [results, Tryd.results20, go_sem, bp_0, bp_1]) rfl ⟨rfl, E1.out.now.2.2.2.2⟩
    · obtain ⟨x, y, hxy⟩ : ∃ x y, L.getD 0 (0, 0) = (x, y) := ⟨_, _, rfl⟩
      have hV : V = ((x, y), 0) := by rw [HV.out, if_neg hz, hxy]
      subst hV
      have HXY := Lib.hid hxy
      clear hxy
      have hb : ((L.length : Int) == 0) = false := by rw [beq_eq_false_iff_ne]; omega
      have hnl : 0 < L.length := by omega
      clear HV
      unfold sval at *
      go_enter Tryd.func20, Tryd.ntmps20
      go_wp2_with fail
      rw [allocS_fold, allocP_fold, show allocP (allocS w s h) 0 0 = inP w s h 0 0 from rfl]
      generalize inP w s h 0 0 = w0 at *
      refine (HA.out _ E0.out.now.2.2.1).mono ?_
      rintro e w1 ⟨v, rfl, ho, hb⟩
      obtain ⟨al, cl, rfl, -, hr2, hcl, -⟩ := owns2_arg ho
      clear ho
      have E1 := Lib.hid ((E0.out.next hb).and (St.rd2 hr2))
      clear hb
      obtain ⟨bl, ol, rfl, ca, cb⟩ := Rd2.at E1.out.now.1 (Below.refl _ _) (Nat.le_refl _) hnl
      rw [HXY.out] at ca cb
      dsimp only at ca cb
      simp only [Nat.zero_mul, Nat.add_zero] at ca cb
      obtain ⟨-, ⟨⟨bp_0, bp_1, -⟩, bp_l⟩, -, -, -⟩ := E1.out.now
      have g := E1.out.now.2.1.box.f
      have g0 := g 0; have g1 := g 1
      clear g
      go_wp2
      (rw [stP_fold]; obtain ⟨q0, q1⟩ := stP_bp (x := x) (y := y) E1.out.now.2.1; refine bodyPost_ret (v := .tuple #[.agg #[.int .i64 x, .int .i64 y], .int .i64 0]) (by simp [results, Tryd.results20, go_sem, q0, q1]) rfl ⟨rfl, stP_below E1.out.now.2.2.2.2 (by omega)⟩)
  · have HV : Hid (minV s = ((0, 0), chkK s)) := Lib.hid (if_neg hk)
    rw [show askL s = ([], chkK s) from if_neg hk] at HA
    have hne : (chkK s != 0) = true := by rw [bne_iff_ne]; exact hk
    generalize minV s = V at *
    have hV := HV.out
    subst hV
    generalize chkK s = c at *
    clear HV hk R W
    unfold sval at *
    go_enter Tryd.func20, Tryd.ntmps20
    go_wp2_with fail
    rw [allocS_fold, allocP_fold, show allocP (allocS w s h) 0 0 = inP w s h 0 0 from rfl]
    generalize inP w s h 0 0 = w0 at *
    refine (HA.out _ E0.out.now.2.2.1).mono ?_
    rintro e w1 ⟨v, rfl, ho, hb⟩
    obtain ⟨al, cl, rfl, -, hr2, hcl, -⟩ := owns2_arg ho
    clear ho
    have E1 := Lib.hid ((E0.out.next hb).and (St.rd2 hr2))
    clear hb
    obtain ⟨-, ⟨⟨bp_0, bp_1, -⟩, bp_l⟩, -, -, -⟩ := E1.out.now
    have g := E1.out.now.2.1.box.f
    have g0 := g 0; have g1 := g 1
    clear g
    go_wp2
    first
    | (rw [stP_fold]; obtain ⟨q0, q1⟩ := stP_bp (x := 0) (y := 0) E1.out.now.2.1; refine bodyPost_ret (v := .tuple #[.agg #[.int .i64 0, .int .i64 0], .int .i64 c]) (by simp [results, Tryd.results20, go_sem, q0, q1]) rfl ⟨rfl, stP_below E1.out.now.2.2.2.2 (by omega)⟩)
    | refine bodyPost_ret (v := .tuple #[.agg #[.int .i64 0, .int .i64 0], .int .i64 c]) (by simp [results, Tryd.results20, go_sem, bp_0, bp_1]) rfl ⟨rfl, E1.out.now.2.2.2.2⟩

set_option maxRecDepth 100000 in
set_option maxHeartbeats 4000000 in
theorem refMax_any (s : Sl) (h : Hd) (w : World) (W : s.Wf) (R : SRd w s h) :
    Calls Tryd.prog 22 #[sval s h] w fun e w' => AnsP1 (maxV s) w e w' := by
  have E0 := Lib.hid (((((St.below' (inP_below w s h 0 0))).and (St.rd (R.next (inP_below w s h 0 0)))).and (St.bs (inP_bs w s h 0 0))).and (St.bp (inP_bp w s h 0 0)))
  have HA := Lib.hid (fun w1 (R : SRd w1 s h) => asked12_any s h w1 W R)
  by_cases hk : chkK s = 0
  · have hsm := all_small (chkK_ok hk).1
    rw [show askL s = (allP s, 0) from if_pos hk] at HA
    have HV : Hid (maxV s = if (allP s).length = 0 then ((0, 0), 6) else ((allP s).getD ((allP s).length - 1) (0, 0), 0)) := Lib.hid (if_pos hk)
    generalize maxV s = V at *
    generalize allP s = L at *
    clear hk R W
    by_cases hz : L.length = 0
    · have hV : V = ((0, 0), 6) := by rw [HV.out, if_pos hz]
      subst hV
      have hb : ((L.length : Int) == 0) = true := by rw [beq_iff_eq]; omega
      clear HV
      unfold sval at *
      go_enter Tryd.func22, Tryd.ntmps22
      go_wp2_with fail
      rw [allocS_fold, allocP_fold, show allocP (allocS w s h) 0 0 = inP w s h 0 0 from rfl]
      generalize inP w s h 0 0 = w0 at *
      refine (HA.out _ E0.out.now.2.2.1).mono ?_
      rintro e w1 ⟨v, rfl, ho, hb⟩
      obtain ⟨al, cl, rfl, -, hr2, hcl, -⟩ := owns2_arg ho
      clear ho
      have E1 := Lib.hid ((E0.out.next hb).and (St.rd2 hr2))
      clear hb
      obtain ⟨-, ⟨⟨bp_0, bp_1, -⟩, bp_l⟩, -, -, -⟩ := E1.out.now
      have g := E1.out.now.2.1.box.f
      have g0 := g 0; have g1 := g 1
      clear g
      go_wp2
      first
      | (rw [stP_fold]; obtain ⟨q0, q1⟩ := stP_bp (x := 0) (y := 0) E1.out.now.2.1; refine bodyPost_ret (v := .tuple #[.agg #[.int .i64 0, .int .i64 0], .int .i64 6]) (by simp [results, Tryd.results22, go_sem, q0, q1]) rfl ⟨rfl, stP_below E1.out.now.2.2.2.2 (by omega)⟩)
      | refine bodyPost_ret (v := .tuple #[.agg #[.int .i64 0, .int .i64 0], .int .i64 6]) (by simp [results, Tryd.results22, go_sem, bp_0, bp_1]) rfl ⟨rfl, E1.out.now.2.2.2.2⟩
    · obtain ⟨x, y, hxy⟩ : ∃ x y, L.getD (L.length - 1) (0, 0) = (x, y) := ⟨_, _, rfl⟩
      have hV : V = ((x, y), 0) := by rw [HV.out, if_neg hz, hxy]
      subst hV
      have HXY := Lib.hid hxy
      clear hxy
      have hb : ((L.length : Int) == 0) = false := by rw [beq_eq_false_iff_ne]; omega
      have hnl : (L.length - 1) < L.length := by omega
      clear HV
      have e1 : IntKind.i64.wrap ((L.length : Int) - 1) = ((L.length - 1 : Nat) : Int) := by rw [IntKind.wrap_i64]; omega
      unfold sval at *
      go_enter Tryd.func22, Tryd.ntmps22
      go_wp2_with fail
      rw [allocS_fold, allocP_fold, show allocP (allocS w s h) 0 0 = inP w s h 0 0 from rfl]
      generalize inP w s h 0 0 = w0 at *
      refine (HA.out _ E0.out.now.2.2.1).mono ?_
      rintro e w1 ⟨v, rfl, ho, hb⟩
      obtain ⟨al, cl, rfl, -, hr2, hcl, -⟩ := owns2_arg ho
      clear ho
      have E1 := Lib.hid ((E0.out.next hb).and (St.rd2 hr2))
      clear hb
      obtain ⟨bl, ol, rfl, ca, cb⟩ := Rd2.at E1.out.now.1 (Below.refl _ _) (Nat.le_refl _) hnl
      rw [HXY.out] at ca cb
      dsimp only at ca cb
      generalize hn1 : L.length - 1 = n at *
      clear HXY hn1
      obtain ⟨-, ⟨⟨bp_0, bp_1, -⟩, bp_l⟩, -, -, -⟩ := E1.out.now
      have g := E1.out.now.2.1.box.f
      have g0 := g 0; have g1 := g 1
      clear g
      go_wp2
      (rw [stP_fold]; obtain ⟨q0, q1⟩ := stP_bp (x := x) (y := y) E1.out.now.2.1; refine bodyPost_ret (v := .tuple #[.agg #[.int .i64 x, .int .i64 y], .int .i64 0]) (by simp [results, Tryd.results22, go_sem, q0, q1]) rfl ⟨rfl, stP_below E1.out.now.2.2.2.2 (by omega)⟩)
  · have HV : Hid (maxV s = ((0, 0), chkK s)) := Lib.hid (if_neg hk)
    rw [show askL s = ([], chkK s) from if_neg hk] at HA
    have hne : (chkK s != 0) = true := by rw [bne_iff_ne]; exact hk
    generalize maxV s = V at *
    have hV := HV.out
    subst hV
    generalize chkK s = c at *
    clear HV hk R W
    unfold sval at *
    go_enter Tryd.func22, Tryd.ntmps22
    go_wp2_with fail
    rw [allocS_fold, allocP_fold, show allocP (allocS w s h) 0 0 = inP w s h 0 0 from rfl]
    generalize inP w s h 0 0 = w0 at *
    refine (HA.out _ E0.out.now.2.2.1).mono ?_
    rintro e w1 ⟨v, rfl, ho, hb⟩
    obtain ⟨al, cl, rfl, -, hr2, hcl, -⟩ := owns2_arg ho
    clear ho
    have E1 := Lib.hid ((E0.out.next hb).and (St.rd2 hr2))
    clear hb
    obtain ⟨-, ⟨⟨bp_0, bp_1, -⟩, bp_l⟩, -, -, -⟩ := E1.out.now
    have g := E1.out.now.2.1.box.f
    have g0 := g 0; have g1 := g 1
    clear g
    go_wp2
    first
    | (rw [stP_fold]; obtain ⟨q0, q1⟩ := stP_bp (x := 0) (y := 0) E1.out.now.2.1; refine bodyPost_ret (v := .tuple #[.agg #[.int .i64 0, .int .i64 0], .int .i64 c]) (by simp [results, Tryd.results22, go_sem, q0, q1]) rfl ⟨rfl, stP_below E1.out.now.2.2.2.2 (by omega)⟩)
    | refine bodyPost_ret (v := .tuple #[.agg #[.int .i64 0, .int .i64 0], .int .i64 c]) (by simp [results, Tryd.results22, go_sem, bp_0, bp_1]) rfl ⟨rfl, E1.out.now.2.2.2.2⟩

set_option maxRecDepth 100000 in
set_option maxHeartbeats 4000000 in
theorem refSelect_any (s : Sl) (h : Hd) (key : Int) (w : World) (W : s.Wf) (R : SRd w s h) :
    Calls Tryd.prog 24 #[sval s h, .int .i64 key] w fun e w' => AnsP1 (selV s key) w e w' := by
  have E0 := Lib.hid (((((St.below' (inP_below w s h 0 0))).and (St.rd (R.next (inP_below w s h 0 0)))).and (St.bs (inP_bs w s h 0 0))).and (St.bp (inP_bp w s h 0 0)))
  have HA := Lib.hid (fun w1 (R : SRd w1 s h) => asked12_any s h w1 W R)
  by_cases hk : chkK s = 0
  · have hsm := all_small (chkK_ok hk).1
    rw [show askL s = (allP s, 0) from if_pos hk] at HA
    have HV : Hid (selV s key = if 0 ≤ key ∧ key < ((allP s).length : Int) then ((allP s).getD key.toNat (0, 0), 0) else ((0, 0), 290)) := Lib.hid (if_pos hk)
    generalize selV s key = V at *
    generalize allP s = L at *
    clear hk R W
    by_cases h0 : key < 0
    · have hV : V = ((0, 0), 290) := by rw [HV.out, if_neg (by omega)]
      subst hV
      clear HV
      unfold sval at *
      go_enter Tryd.func24, Tryd.ntmps24
      go_wp2_with fail
      rw [allocS_fold, allocP_fold, show allocP (allocS w s h) 0 0 = inP w s h 0 0 from rfl]
      generalize inP w s h 0 0 = w0 at *
      refine (HA.out _ E0.out.now.2.2.1).mono ?_
      rintro e w1 ⟨v, rfl, ho, hb⟩
      obtain ⟨al, cl, rfl, -, hr2, hcl, -⟩ := owns2_arg ho
      clear ho
      have E1 := Lib.hid ((E0.out.next hb).and (St.rd2 hr2))
      clear hb
      obtain ⟨-, ⟨⟨bp_0, bp_1, -⟩, bp_l⟩, -, -, -⟩ := E1.out.now
      have g := E1.out.now.2.1.box.f
      have g0 := g 0; have g1 := g 1
      clear g
      go_wp2
      first
      | (rw [stP_fold]; obtain ⟨q0, q1⟩ := stP_bp (x := 0) (y := 0) E1.out.now.2.1; refine bodyPost_ret (v := .tuple #[.agg #[.int .i64 0, .int .i64 0], .int .i64 290]) (by simp [results, Tryd.results24, go_sem, q0, q1]) rfl ⟨rfl, stP_below E1.out.now.2.2.2.2 (by omega)⟩)
      | refine bodyPost_ret (v := .tuple #[.agg #[.int .i64 0, .int .i64 0], .int .i64 290]) (by simp [results, Tryd.results24, go_sem, bp_0, bp_1]) rfl ⟨rfl, E1.out.now.2.2.2.2⟩
    · obtain ⟨k, rfl⟩ := Int.eq_ofNat_of_zero_le (Int.not_lt.1 h0)
      by_cases hlt : k < L.length
      · obtain ⟨x, y, hxy⟩ : ∃ x y, L.getD k (0, 0) = (x, y) := ⟨_, _, rfl⟩
        have hV : V = ((x, y), 0) := by rw [HV.out, if_pos (by omega), Int.toNat_natCast, hxy]
        subst hV
        have HXY := Lib.hid hxy
        clear hxy
        have h1 : ¬ ((L.length : Int) ≤ (k : Int)) := by omega
        clear HV
        unfold sval at *
        go_enter Tryd.func24, Tryd.ntmps24
        go_wp2_with fail
        rw [allocS_fold, allocP_fold, show allocP (allocS w s h) 0 0 = inP w s h 0 0 from rfl]
        generalize inP w s h 0 0 = w0 at *
        refine (HA.out _ E0.out.now.2.2.1).mono ?_
        rintro e w1 ⟨v, rfl, ho, hb⟩
        obtain ⟨al, cl, rfl, -, hr2, hcl, -⟩ := owns2_arg ho
        clear ho
        have E1 := Lib.hid ((E0.out.next hb).and (St.rd2 hr2))
        clear hb
        obtain ⟨bl, ol, rfl, ca, cb⟩ := Rd2.at E1.out.now.1 (Below.refl _ _) (Nat.le_refl _) hlt
        rw [HXY.out] at ca cb
        dsimp only at ca cb
        obtain ⟨-, ⟨⟨bp_0, bp_1, -⟩, bp_l⟩, -, -, -⟩ := E1.out.now
        have g := E1.out.now.2.1.box.f
        have g0 := g 0; have g1 := g 1
        clear g
        go_wp2
        (rw [stP_fold]; obtain ⟨q0, q1⟩ := stP_bp (x := x) (y := y) E1.out.now.2.1; refine bodyPost_ret (v := .tuple #[.agg #[.int .i64 x, .int .i64 y], .int .i64 0]) (by simp [results, Tryd.results24, go_sem, q0, q1]) rfl ⟨rfl, stP_below E1.out.now.2.2.2.2 (by omega)⟩)
      · have hV : V = ((0, 0), 290) := by rw [HV.out, if_neg (by omega)]
        subst hV
        have h1 : ((L.length : Int) ≤ (k : Int)) := by omega
        clear HV
        unfold sval at *
        go_enter Tryd.func24, Tryd.ntmps24
        go_wp2_with fail
        rw [allocS_fold, allocP_fold, show allocP (allocS w s h) 0 0 = inP w s h 0 0 from rfl]
        generalize inP w s h 0 0 = w0 at *
        refine (HA.out _ E0.out.now.2.2.1).mono ?_
        rintro e w1 ⟨v, rfl, ho, hb⟩
        obtain ⟨al, cl, rfl, -, hr2, hcl, -⟩ := owns2_arg ho
        clear ho
        have E1 := Lib.hid ((E0.out.next hb).and (St.rd2 hr2))
        clear hb
        obtain ⟨-, ⟨⟨bp_0, bp_1, -⟩, bp_l⟩, -, -, -⟩ := E1.out.now
        have g := E1.out.now.2.1.box.f
        have g0 := g 0; have g1 := g 1
        clear g
        go_wp2
        first
        | (rw [stP_fold]; obtain ⟨q0, q1⟩ := stP_bp (x := 0) (y := 0) E1.out.now.2.1; refine bodyPost_ret (v := .tuple #[.agg #[.int .i64 0, .int .i64 0], .int .i64 290]) (by simp [results, Tryd.results24, go_sem, q0, q1]) rfl ⟨rfl, stP_below E1.out.now.2.2.2.2 (by omega)⟩)
        | refine bodyPost_ret (v := .tuple #[.agg #[.int .i64 0, .int .i64 0], .int .i64 290]) (by simp [results, Tryd.results24, go_sem, bp_0, bp_1]) rfl ⟨rfl, E1.out.now.2.2.2.2⟩
  · have HV : Hid (selV s key = ((0, 0), chkK s)) := Lib.hid (if_neg hk)
    rw [show askL s = ([], chkK s) from if_neg hk] at HA
    have hne : (chkK s != 0) = true := by rw [bne_iff_ne]; exact hk
    generalize selV s key = V at *
    have hV := HV.out
    subst hV
    generalize chkK s = c at *
    clear HV hk R W
    unfold sval at *
    go_enter Tryd.func24, Tryd.ntmps24
    go_wp2_with fail
    rw [allocS_fold, allocP_fold, show allocP (allocS w s h) 0 0 = inP w s h 0 0 from rfl]
    generalize inP w s h 0 0 = w0 at *
    refine (HA.out _ E0.out.now.2.2.1).mono ?_
    rintro e w1 ⟨v, rfl, ho, hb⟩
    obtain ⟨al, cl, rfl, -, hr2, hcl, -⟩ := owns2_arg ho
    clear ho
    have E1 := Lib.hid ((E0.out.next hb).and (St.rd2 hr2))
    clear hb
    obtain ⟨-, ⟨⟨bp_0, bp_1, -⟩, bp_l⟩, -, -, -⟩ := E1.out.now
    have g := E1.out.now.2.1.box.f
    have g0 := g 0; have g1 := g 1
    clear g
    go_wp2
    first
    | (rw [stP_fold]; obtain ⟨q0, q1⟩ := stP_bp (x := 0) (y := 0) E1.out.now.2.1; refine bodyPost_ret (v := .tuple #[.agg #[.int .i64 0, .int .i64 0], .int .i64 c]) (by simp [results, Tryd.results24, go_sem, q0, q1]) rfl ⟨rfl, stP_below E1.out.now.2.2.2.2 (by omega)⟩)
    | refine bodyPost_ret (v := .tuple #[.agg #[.int .i64 0, .int .i64 0], .int .i64 c]) (by simp [results, Tryd.results24, go_sem, bp_0, bp_1]) rfl ⟨rfl, E1.out.now.2.2.2.2⟩
end Go.Proofs.YthkhideonceibaaDoor.Span

namespace Go.Proofs.YthkhideonceibaaDoor
open Go.RowKit

/-- An iterator that goes on until a round says 'no more'; a caller's invariant that holds of fewer than N rounds alone. -/
def SeqTill {α : Type} (m : Nat) (P : Program) (g : Nat) (lb : Array Value) (encs : α → Array Value) (f : Nat → α) (Kp : World → World → Prop) (Sp : List α → Prop) (N : Nat) (w : World) : Prop :=
  ∀ (l : Nat) (J Jx : List α → World → Prop) (W : World), Below w.heap.size w W → AbidesFrom W.heap.size J → (∀ pre W1, J pre W1 → pre.length < N) →
    (∀ pre W1, J pre W1 → YieldAt Fence.wide (m - 1) P l (encs (f pre.length)) W1 fun e W' => (e = .returned (.bool true) ∧ J (pre ++ [f pre.length]) W' ∧ Kp W1 W') ∨ (e = .returned (.bool false) ∧ Jx (pre ++ [f pre.length]) W')) →
    J [] W → CallsIn Fence.wide m P g (#[.func (.yield l) #[] #[]] ++ lb) W fun e W' => (∃ v, e = .returned v) ∧ ∃ pre, Sp pre ∧ Jx pre W'

section
variable {m : Nat} {P : Program}

/-- What the loop's record says. -/
def recOf (fn : FuncId) (T : Array Value) (ps : Array Tmp) (assign body : Code) (D : Nat) (st : LoopState) (pe : Option Code) : Loop := { state := st, pending := pe, fn, tmps := T, params := ps, assign, body, defers := D }

/-- The loop's record and the block of the rounds' deferred calls lie so. -/
structure Marks (W : World) (l D : Nat) (r : Loop) : Prop where
  lrec : W.heap[l]? = some (.loop r)
  dfr : W.heap[D]? = some (.deferred (some []))
theorem Marks.put {W : World} {l D : Nat} {r r' : Loop} (h : Marks W l D r) (hne : D ≠ l) : Marks (W.putObj l (.loop r')) l D r' :=
  ⟨World.putObj_heap_same (Array.getElem?_eq_some_iff.1 h.lrec).1, (World.putObj_heap_other hne).trans h.dfr⟩
theorem Marks.kept {W W' : World} {l D B : Nat} {r : Loop} (h : Marks W l D r) (hk : KeepsFrom B W W') (hl : B ≤ l) (hD : B ≤ D) : Marks W' l D r := ⟨hk.same _ _ hl h.lrec rfl, hk.same _ _ hD h.dfr rfl⟩
theorem Marks.walk {W W' : World} {l D : Nat} {r : Loop} {row : Option Nat} (h : Marks W l D r) (hg : W.grownBy W' row) (hr : ∀ i, row = some i → ∃ o : Obj, W.heap[i]? = some o ∧ o.isWalk = true) : Marks W' l D r :=
  ⟨(grownBy_keeps hg hr h.lrec rfl).trans h.lrec, (grownBy_keeps hg hr h.dfr rfl).trans h.dfr⟩

theorem rangeFunc_till {α : Type} {g : Operand} {ps : Array Tmp} {assign body : Code} {Q : Exit → Act → World → Prop} {a : Act} {w : World}
    {gf : Nat} {lb : Array Value} (hg : a.eval g = .func (.func gf) #[] lb) (eg : ∀ args w, (callFunc gf args).run P w = .ok (.enter gf args) w)
    {encs : α → Array Value} {f : Nat → α} {Kp : World → World → Prop} {Sp : List α → Prop} {N : Nat} (hseq : SeqTill (m - 1) P gf lb encs f Kp Sp N w)
    (hKt : ∀ {A B C : World}, Kp A B → Kp B C → Kp A C) (hKb : ∀ (W : World) (l : Nat) (o o' : Obj), w.heap.size ≤ l → W.heap[l]? = some o → o.isCells = false → o.isWalk = false → Kp W (W.putObj l o')) (hps : ∀ x, (encs x).size = ps.size)
    (I : List α → World → Prop) (Ix : Code → List α → World → Prop) (hI : OwnFrom w.heap.size I) (hIx : ∀ c, OwnFrom w.heap.size (Ix c)) (hN : ∀ pre W, I pre W → pre.length < N) (h0 : I [] w)
    (Ax : α → Act → World → Prop) (hAx : ∀ x a', OwnFrom w.heap.size (fun (_ : Unit) W => Ax x a' W))
    (hassign : ∀ (l : Nat) (pre : List α) (x : α) (W : World) (K : Act → World → Prop), x = f pre.length → I pre W → (∀ a' W', KeepsFrom w.heap.size W W' → Kp W W' → I pre W' → Ax x a' W' → K a' W') →
      assign.wpIn (Fence.wide.inRound l) (m - 1 - 1) P (Exit.then K (fun _ _ _ => False)) { tmps := (ps.zip (encs x)).foldl (fun t (p, v) => t.setIfInBounds p v) a.tmps, defers := [] } W)
    (hbody : ∀ (l : Nat) (pre : List α) (x : α) (a' : Act) (W : World), x = f pre.length → I pre W → Ax x a' W → body.wpIn (Fence.wide.inRound l) (m - 1 - 1) P (ownPostG w.heap.size Kp I Ix (pre ++ [x]) W) a' W)
    (hstop : ∀ (D : Nat) (c : Code) (pre : List α) (W : World), w.heap.size ≤ D → Sp pre → Ix c pre W → W.heap[D]? = some (.deferred (some [])) → c.wpIn Fence.wide m P Q { a with defers := { target := .collected D, args := #[] } :: a.defers } W) :
    (Code.rangeFunc g ps assign body).wpIn Fence.wide m P Q a w := by
  refine wpIn_rangeFunc ?_
  intro fn hfn
  have hL : Marks ((w.alloc (.deferred (some []))).alloc (.loop (recOf fn a.tmps ps assign body w.heap.size .ready Option.none))) (w.heap.size + 1) w.heap.size (recOf fn a.tmps ps assign body w.heap.size .ready Option.none) :=
    ⟨by have := World.alloc_heap_new (w.alloc (.deferred (some []))) (.loop (recOf fn a.tmps ps assign body w.heap.size .ready Option.none)); rwa [World.size_alloc] at this,
     (Below.heap_alloc _ _ _ (by simp)).trans (World.alloc_heap_new w _)⟩
  have hB : Below w.heap.size w ((w.alloc (.deferred (some []))).alloc (.loop (recOf fn a.tmps ps assign body w.heap.size .ready Option.none))) := ((Below.refl _ w).alloc (Nat.le_refl _) _).alloc (by simp) _
  have hI1 := hI.alloc (.loop (recOf fn a.tmps ps assign body w.heap.size .ready Option.none)) (hI.alloc (.deferred (some [])) h0)
  have henter := run_enterLoop_outer (P := P) (w := w) fn a.tmps ps assign body
  obtain ⟨W1, hW1⟩ : ∃ W1, (w.alloc (.deferred (some []))).alloc (.loop (recOf fn a.tmps ps assign body w.heap.size .ready Option.none)) = W1 := ⟨_, rfl⟩
  rw [hW1] at hL hB hI1
  have hz : w.heap.size + 2 = W1.heap.size := by rw [← hW1]; simp
  refine ⟨w.heap.size + 1, [{ target := .collected w.heap.size, args := #[] }], W1, { target := .fn (.func gf) lb, args := #[.func (.yield (w.heap.size + 1)) #[] #[]] }, W1, gf, #[.func (.yield (w.heap.size + 1)) #[] #[]] ++ lb, W1, ?_, ?_, fun _ _ => trivial, ?_, fun h => (by cases h), ?_⟩
  · rw [← hW1]; exact henter
  · simp only [resolve, hg]
    simp [go_sem]
  · simp [invoke, go_sem, eg]
  refine (hseq (w.heap.size + 1) (fun pre W => I pre W ∧ Marks W (w.heap.size + 1) w.heap.size (recOf fn a.tmps ps assign body w.heap.size .ready Option.none))
    (fun pre W => ∃ c, Ix c pre W ∧ Marks W (w.heap.size + 1) w.heap.size (recOf fn a.tmps ps assign body w.heap.size .done (some c))) W1 hB ?_ (fun pre W h => hN pre W h.1) ?_ ⟨hI1, hL⟩).mono ?_
  · intro s A B row hs hg' hr
    exact ⟨hI s A B row hs.1 hg' (fun r e => by obtain ⟨h1, o, ho, hw⟩ := hr r e; exact ⟨by omega, o, ho, Obj.not_cells_of_walk hw⟩), hs.2.walk hg' (fun r e => (hr r e).2)⟩
  · rintro pre W ⟨hi, hm⟩
    obtain ⟨x, hx⟩ : ∃ x, x = f pre.length := ⟨_, rfl⟩
    rw [← hx]
    have hy := run_yield (P := P) (args := encs x) hm.lrec (hps x)
    refine ⟨fn, _, assign, body, hy, roundIn_of_wpIn hfn (hassign _ pre x W _ hx hi (fun a' W' hk0 hkp0 hi0 hax => ?_))⟩
    have hm := hm.kept hk0 (by omega) (Nat.le_refl _)
    refine ⟨_, run_beginRound hm.lrec rfl, ?_⟩
    have hm2 := hm.put (r' := recOf fn a.tmps ps assign body w.heap.size .busy Option.none) (by omega)
    have hi2 := hI.putObj (.loop (recOf fn a.tmps ps assign body w.heap.size .busy Option.none)) hi0 (by omega) hm.lrec rfl
    have hax2 := (hAx x a').putObj (s := ()) (.loop (recOf fn a.tmps ps assign body w.heap.size .busy Option.none)) hax (by omega) hm.lrec rfl
    have hk1 := hKt hkp0 (hKb W' (w.heap.size + 1) _ (.loop (recOf fn a.tmps ps assign body w.heap.size .busy Option.none)) (by omega) hm.lrec rfl rfl)
    refine wpIn_mono (hbody _ pre x _ _ hx hi2 hax2) ?_
    have fin : ∀ (jump : Option Code) (W3 : World), KeepsFrom w.heap.size (W'.putObj (w.heap.size + 1) (.loop (recOf fn a.tmps ps assign body w.heap.size .busy Option.none))) W3 → ∃ W4,
        (Instr.endRound (w.heap.size + 1) jump).run P W3 = .ok (.bool jump.isNone) W4 ∧ W4 = W3.putObj (w.heap.size + 1) (.loop (recOf fn a.tmps ps assign body w.heap.size (if jump.isNone then .ready else .done) jump)) ∧
        W3.heap[w.heap.size + 1]? = some (.loop (recOf fn a.tmps ps assign body w.heap.size .busy Option.none)) ∧ Marks W4 (w.heap.size + 1) w.heap.size (recOf fn a.tmps ps assign body w.heap.size (if jump.isNone then .ready else .done) jump) := fun jump W3 hk => by
      have h3 := hm2.kept hk (by omega) (Nat.le_refl _)
      exact ⟨_, run_endRound (P := P) jump h3.lrec, rfl, h3.lrec, h3.put (by omega)⟩
    have leave : ∀ (c : Code) (W3 : World), KeepsFrom w.heap.size (W'.putObj (w.heap.size + 1) (.loop (recOf fn a.tmps ps assign body w.heap.size .busy Option.none))) W3 → Ix c (pre ++ [x]) W3 →
        ∃ W4, (Instr.endRound (w.heap.size + 1) (some c)).run P W3 = .ok (.bool false) W4 ∧ Ix c (pre ++ [x]) W4 ∧ Marks W4 (w.heap.size + 1) w.heap.size (recOf fn a.tmps ps assign body w.heap.size .done (some c)) := fun c W3 hk hx => by
      obtain ⟨W4, h1, rfl, h2, h3⟩ := fin (some c) W3 hk
      exact ⟨_, h1, (hIx c).putObj _ hx (by omega) h2 rfl, h3⟩
    intro e a3 W3 hp
    cases e with
    | normal =>
      obtain ⟨W4, h1, rfl, h2, h3⟩ := fin Option.none W3 hp.1
      exact ⟨_, _, h1, .inl ⟨rfl, ⟨hI.putObj _ hp.2.2 (by omega) h2 rfl, h3⟩, hKt (hKt hk1 hp.2.1) (hKb _ _ _ _ (by omega) h2 rfl rfl)⟩⟩
    | ret =>
      obtain ⟨W4, h1, h2, h3⟩ := leave .ret W3 hp.1 hp.2
      exact ⟨_, _, h1, .inr ⟨rfl, .ret, h2, h3⟩⟩
    | exit id =>
      obtain ⟨W4, h1, h2, h3⟩ := leave (.exit id) W3 hp.1 hp.2
      exact ⟨_, _, h1, .inr ⟨rfl, .exit id, h2, h3⟩⟩
    | goto t =>
      obtain ⟨W4, h1, h2, h3⟩ := leave (.goto t) W3 hp.1 hp.2
      exact ⟨_, _, h1, .inr ⟨rfl, .goto t, h2, h3⟩⟩
    | panic ch => exact hp.elim
    | outgrown => exact hp.elim
  · rintro e W2 ⟨⟨v, rfl⟩, pre, hSp, c, hi, hm⟩
    have hend := run_endLoop (P := P) hm.lrec (by simp [recOf])
    refine ⟨some c, _, hend, ?_⟩
    exact hstop _ c pre _ (Nat.le_refl _) hSp ((hIx c).putObj _ hi (by omega) hm.lrec rfl) ((World.putObj_heap_other (by omega)).trans hm.dfr)

/-- The same, the loop's frame being read off the goal; a loop variable lies in a box. -/
theorem rangeFunc_tillB {α : Type} {g : Operand} {ps : Array Tmp} {assign body : Code} {Q : Exit → Act → World → Prop} {a : Act} {w : World}
    (qs : α → Nat → List (Tmp × Value)) (Bp : α → Nat → World → Prop) {gf : Nat} {lb : Array Value} (hg : a.eval g = .func (.func gf) #[] lb) (eg : ∀ args w, (callFunc gf args).run P w = .ok (.enter gf args) w)
    {encs : α → Array Value} {f : Nat → α} {Kp : World → World → Prop} {Sp : List α → Prop} {N : Nat} (hseq : SeqTill (m - 1) P gf lb encs f Kp Sp N w)
    (hKt : ∀ {A B C : World}, Kp A B → Kp B C → Kp A C) (hKb : ∀ (W : World) (l : Nat) (o o' : Obj), w.heap.size ≤ l → W.heap[l]? = some o → o.isCells = false → o.isWalk = false → Kp W (W.putObj l o')) (hps : ∀ x, (encs x).size = ps.size)
    (I : List α → World → Prop) (Ix : Code → List α → World → Prop) (hI : OwnFrom w.heap.size I) (hIx : ∀ c, OwnFrom w.heap.size (Ix c)) (hN : ∀ pre W, I pre W → pre.length < N) (h0 : I [] w)
    (hBp : ∀ x Bx, OwnFrom w.heap.size (fun (_ : Unit) W => Bp x Bx W))
    (hassign : ∀ (l : Nat) (pre : List α) (x : α) (W : World) (K : Act → World → Prop), x = f pre.length → I pre W → (∀ Bx W', KeepsFrom w.heap.size W W' → Kp W W' → I pre W' → Bp x Bx W' → K { tmps := (qs x Bx).foldl (fun t pv => t.setIfInBounds pv.1 pv.2) a.tmps, defers := [] } W') →
      assign.wpIn (Fence.wide.inRound l) (m - 1 - 1) P (Exit.then K (fun _ _ _ => False)) { tmps := (ps.zip (encs x)).foldl (fun t (p, v) => t.setIfInBounds p v) a.tmps, defers := [] } W)
    (hbody : ∀ (l : Nat) (pre : List α) (x : α) (Bx : Nat) (W : World), x = f pre.length → I pre W → Bp x Bx W → body.wpIn (Fence.wide.inRound l) (m - 1 - 1) P (ownPostG w.heap.size Kp I Ix (pre ++ [x]) W) { tmps := (qs x Bx).foldl (fun t pv => t.setIfInBounds pv.1 pv.2) a.tmps, defers := [] } W)
    (hstop : ∀ (D : Nat) (c : Code) (pre : List α) (W : World), w.heap.size ≤ D → Sp pre → Ix c pre W → W.heap[D]? = some (.deferred (some [])) → c.wpIn Fence.wide m P Q { a with defers := { target := .collected D, args := #[] } :: a.defers } W) :
    (Code.rangeFunc g ps assign body).wpIn Fence.wide m P Q a w :=
  rangeFunc_till hg eg hseq hKt hKb hps I Ix hI hIx hN h0
    (fun x a' W => ∃ Bx, Bp x Bx W ∧ a' = { tmps := (qs x Bx).foldl (fun t pv => t.setIfInBounds pv.1 pv.2) a.tmps, defers := [] })
    (fun x a' s A B row hs hg' hr => by obtain ⟨Bx, hb, e⟩ := hs; exact ⟨Bx, hBp x Bx () A B row hb hg' hr, e⟩)
    (fun l pre x W K hx hi hK => hassign l pre x W K hx hi (fun Bx W' h1 h2 h3 h4 => hK _ W' h1 h2 h3 ⟨Bx, h4, rfl⟩))
    (fun l pre x a' W hx hi hax => by obtain ⟨Bx, hb, rfl⟩ := hax; exact hbody l pre x Bx W hx hi hb) hstop
end
end Go.Proofs.YthkhideonceibaaDoor

namespace Go.Proofs.YthkhideonceibaaDoor
open Go.RowKit

/-- An iterator that yields a list's things, one behind the other, and keeps a number in a box that the caller does not look at. -/
def SeqCell {α : Type} (m : Nat) (P : Program) (g : Nat) (lb : Array Value) (encs : α → Array Value) (L : List α) (Kp : World → World → Prop) (Bat : Nat) (w : World) : Prop :=
  ∀ (l : Nat) (J Jx : List α → World → Prop) (W : World), Below w.heap.size w W → AbidesFrom W.heap.size J → (∀ pre W1 v, J pre W1 → J pre (W1.setCell ⟨Bat, 0, none⟩ v)) →
    (∀ pre x W1, J pre W1 → pre ++ [x] <+: L → YieldAt Fence.wide (m - 1) P l (encs x) W1 fun e W' => (e = .returned (.bool true) ∧ J (pre ++ [x]) W' ∧ Kp W1 W') ∨ (e = .returned (.bool false) ∧ Jx (pre ++ [x]) W')) →
    J [] W → CallsIn Fence.wide m P g (#[.func (.yield l) #[] #[]] ++ lb) W fun e W' => (∃ v, e = .returned v) ∧ (J L W' ∨ ∃ pre, pre <+: L ∧ Jx pre W')
theorem Marks.cell {W : World} {l D Bat : Nat} {r : Loop} (h : Marks W l D r) (h1 : l ≠ Bat) (h2 : D ≠ Bat) (v : Value) : Marks (W.setCell ⟨Bat, 0, none⟩ v) l D r :=
  ⟨(Below.heap_setCell W _ v l h1).trans h.lrec, (Below.heap_setCell W _ v D h2).trans h.dfr⟩
section
variable {m : Nat} {P : Program}

theorem rangeFunc_cell {α : Type} {g : Operand} {ps : Array Tmp} {assign body : Code} {Q : Exit → Act → World → Prop} {a : Act} {w : World}
    {gf : Nat} {lb : Array Value} (hg : a.eval g = .func (.func gf) #[] lb) (eg : ∀ args w, (callFunc gf args).run P w = .ok (.enter gf args) w)
    {encs : α → Array Value} {L : List α} {Kp : World → World → Prop} {Bat : Nat} (hseq : SeqCell (m - 1) P gf lb encs L Kp Bat w) (hbat : Bat < w.heap.size)
    (hKt : ∀ {A B C : World}, Kp A B → Kp B C → Kp A C) (hKb : ∀ (W : World) (l : Nat) (o o' : Obj), w.heap.size ≤ l → W.heap[l]? = some o → o.isCells = false → o.isWalk = false → Kp W (W.putObj l o')) (hps : ∀ x, (encs x).size = ps.size)
    (I : List α → World → Prop) (Ix : Code → List α → World → Prop) (hI : OwnFrom w.heap.size I) (hIx : ∀ c, OwnFrom w.heap.size (Ix c)) (hIs : ∀ pre W v, I pre W → I pre (W.setCell ⟨Bat, 0, none⟩ v)) (h0 : I [] w)
    (Ax : α → Act → World → Prop) (hAx : ∀ x a', OwnFrom w.heap.size (fun (_ : Unit) W => Ax x a' W))
    (hassign : ∀ (l : Nat) (pre : List α) (x : α) (W : World) (K : Act → World → Prop), pre ++ [x] <+: L → I pre W → (∀ a' W', KeepsFrom w.heap.size W W' → Kp W W' → I pre W' → Ax x a' W' → K a' W') →
      assign.wpIn (Fence.wide.inRound l) (m - 1 - 1) P (Exit.then K (fun _ _ _ => False)) { tmps := (ps.zip (encs x)).foldl (fun t (p, v) => t.setIfInBounds p v) a.tmps, defers := [] } W)
    (hbody : ∀ (l : Nat) (pre : List α) (x : α) (a' : Act) (W : World), pre ++ [x] <+: L → I pre W → Ax x a' W → body.wpIn (Fence.wide.inRound l) (m - 1 - 1) P (ownPostG w.heap.size Kp I Ix (pre ++ [x]) W) a' W)
    (hdone : ∀ (D : Nat) (W : World), w.heap.size ≤ D → I L W → W.heap[D]? = some (.deferred (some [])) → Q .normal { a with defers := { target := .collected D, args := #[] } :: a.defers } W)
    (hstop : ∀ (D : Nat) (c : Code) (pre : List α) (W : World), w.heap.size ≤ D → pre <+: L → Ix c pre W → W.heap[D]? = some (.deferred (some [])) → c.wpIn Fence.wide m P Q { a with defers := { target := .collected D, args := #[] } :: a.defers } W) :
    (Code.rangeFunc g ps assign body).wpIn Fence.wide m P Q a w := by
  refine wpIn_rangeFunc ?_
  intro fn hfn
  have hL : Marks ((w.alloc (.deferred (some []))).alloc (.loop (recOf fn a.tmps ps assign body w.heap.size .ready Option.none))) (w.heap.size + 1) w.heap.size (recOf fn a.tmps ps assign body w.heap.size .ready Option.none) :=
    ⟨by have := World.alloc_heap_new (w.alloc (.deferred (some []))) (.loop (recOf fn a.tmps ps assign body w.heap.size .ready Option.none)); rwa [World.size_alloc] at this,
     (Below.heap_alloc _ _ _ (by simp)).trans (World.alloc_heap_new w _)⟩
  have hB : Below w.heap.size w ((w.alloc (.deferred (some []))).alloc (.loop (recOf fn a.tmps ps assign body w.heap.size .ready Option.none))) := ((Below.refl _ w).alloc (Nat.le_refl _) _).alloc (by simp) _
  have hI1 := hI.alloc (.loop (recOf fn a.tmps ps assign body w.heap.size .ready Option.none)) (hI.alloc (.deferred (some [])) h0)
  have henter := run_enterLoop_outer (P := P) (w := w) fn a.tmps ps assign body
  obtain ⟨W1, hW1⟩ : ∃ W1, (w.alloc (.deferred (some []))).alloc (.loop (recOf fn a.tmps ps assign body w.heap.size .ready Option.none)) = W1 := ⟨_, rfl⟩
  rw [hW1] at hL hB hI1
  have hz : w.heap.size + 2 = W1.heap.size := by rw [← hW1]; simp
  refine ⟨w.heap.size + 1, [{ target := .collected w.heap.size, args := #[] }], W1, { target := .fn (.func gf) lb, args := #[.func (.yield (w.heap.size + 1)) #[] #[]] }, W1, gf, #[.func (.yield (w.heap.size + 1)) #[] #[]] ++ lb, W1, ?_, ?_, fun _ _ => trivial, ?_, fun h => (by cases h), ?_⟩
  · rw [← hW1]; exact henter
  · simp only [resolve, hg]
    simp [go_sem]
  · simp [invoke, go_sem, eg]
  refine (hseq (w.heap.size + 1) (fun pre W => I pre W ∧ Marks W (w.heap.size + 1) w.heap.size (recOf fn a.tmps ps assign body w.heap.size .ready Option.none))
    (fun pre W => ∃ c, Ix c pre W ∧ Marks W (w.heap.size + 1) w.heap.size (recOf fn a.tmps ps assign body w.heap.size .done (some c))) W1 hB ?_ (fun pre W v h => ⟨hIs pre W v h.1, h.2.cell (by omega) (by omega) v⟩) ?_ ⟨hI1, hL⟩).mono ?_
  · intro s A B row hs hg' hr
    exact ⟨hI s A B row hs.1 hg' (fun r e => by obtain ⟨h1, o, ho, hw⟩ := hr r e; exact ⟨by omega, o, ho, Obj.not_cells_of_walk hw⟩), hs.2.walk hg' (fun r e => (hr r e).2)⟩
  · rintro pre x W ⟨hi, hm⟩ hx
    have hy := run_yield (P := P) (args := encs x) hm.lrec (hps x)
    refine ⟨fn, _, assign, body, hy, roundIn_of_wpIn hfn (hassign _ pre x W _ hx hi (fun a' W' hk0 hkp0 hi0 hax => ?_))⟩
    have hm := hm.kept hk0 (by omega) (Nat.le_refl _)
    refine ⟨_, run_beginRound hm.lrec rfl, ?_⟩
    have hm2 := hm.put (r' := recOf fn a.tmps ps assign body w.heap.size .busy Option.none) (by omega)
    have hi2 := hI.putObj (.loop (recOf fn a.tmps ps assign body w.heap.size .busy Option.none)) hi0 (by omega) hm.lrec rfl
    have hax2 := (hAx x a').putObj (s := ()) (.loop (recOf fn a.tmps ps assign body w.heap.size .busy Option.none)) hax (by omega) hm.lrec rfl
    have hk1 := hKt hkp0 (hKb W' (w.heap.size + 1) _ (.loop (recOf fn a.tmps ps assign body w.heap.size .busy Option.none)) (by omega) hm.lrec rfl rfl)
    refine wpIn_mono (hbody _ pre x _ _ hx hi2 hax2) ?_
    have fin : ∀ (jump : Option Code) (W3 : World), KeepsFrom w.heap.size (W'.putObj (w.heap.size + 1) (.loop (recOf fn a.tmps ps assign body w.heap.size .busy Option.none))) W3 → ∃ W4,
        (Instr.endRound (w.heap.size + 1) jump).run P W3 = .ok (.bool jump.isNone) W4 ∧ W4 = W3.putObj (w.heap.size + 1) (.loop (recOf fn a.tmps ps assign body w.heap.size (if jump.isNone then .ready else .done) jump)) ∧
        W3.heap[w.heap.size + 1]? = some (.loop (recOf fn a.tmps ps assign body w.heap.size .busy Option.none)) ∧ Marks W4 (w.heap.size + 1) w.heap.size (recOf fn a.tmps ps assign body w.heap.size (if jump.isNone then .ready else .done) jump) := fun jump W3 hk => by
      have h3 := hm2.kept hk (by omega) (Nat.le_refl _)
      exact ⟨_, run_endRound (P := P) jump h3.lrec, rfl, h3.lrec, h3.put (by omega)⟩
    have leave : ∀ (c : Code) (W3 : World), KeepsFrom w.heap.size (W'.putObj (w.heap.size + 1) (.loop (recOf fn a.tmps ps assign body w.heap.size .busy Option.none))) W3 → Ix c (pre ++ [x]) W3 →
        ∃ W4, (Instr.endRound (w.heap.size + 1) (some c)).run P W3 = .ok (.bool false) W4 ∧ Ix c (pre ++ [x]) W4 ∧ Marks W4 (w.heap.size + 1) w.heap.size (recOf fn a.tmps ps assign body w.heap.size .done (some c)) := fun c W3 hk hx => by
      obtain ⟨W4, h1, rfl, h2, h3⟩ := fin (some c) W3 hk
      exact ⟨_, h1, (hIx c).putObj _ hx (by omega) h2 rfl, h3⟩
    intro e a3 W3 hp
    cases e with
    | normal =>
      obtain ⟨W4, h1, rfl, h2, h3⟩ := fin Option.none W3 hp.1
      exact ⟨_, _, h1, .inl ⟨rfl, ⟨hI.putObj _ hp.2.2 (by omega) h2 rfl, h3⟩, hKt (hKt hk1 hp.2.1) (hKb _ _ _ _ (by omega) h2 rfl rfl)⟩⟩
    | ret =>
      obtain ⟨W4, h1, h2, h3⟩ := leave .ret W3 hp.1 hp.2
      exact ⟨_, _, h1, .inr ⟨rfl, .ret, h2, h3⟩⟩
    | exit id =>
      obtain ⟨W4, h1, h2, h3⟩ := leave (.exit id) W3 hp.1 hp.2
      exact ⟨_, _, h1, .inr ⟨rfl, .exit id, h2, h3⟩⟩
    | goto t =>
      obtain ⟨W4, h1, h2, h3⟩ := leave (.goto t) W3 hp.1 hp.2
      exact ⟨_, _, h1, .inr ⟨rfl, .goto t, h2, h3⟩⟩
    | panic ch => exact hp.elim
    | outgrown => exact hp.elim
  · rintro e W2 ⟨⟨v, rfl⟩, ⟨hi, hm⟩ | ⟨pre, hSp, c, hi, hm⟩⟩
    · have hend := run_endLoop (P := P) hm.lrec (by simp [recOf])
      refine ⟨none, _, hend, ?_⟩
      exact hdone _ _ (Nat.le_refl _) (hI.putObj _ hi (by omega) hm.lrec rfl) ((World.putObj_heap_other (by omega)).trans hm.dfr)
    · have hend := run_endLoop (P := P) hm.lrec (by simp [recOf])
      refine ⟨some c, _, hend, ?_⟩
      exact hstop _ c pre _ (Nat.le_refl _) hSp ((hIx c).putObj _ hi (by omega) hm.lrec rfl) ((World.putObj_heap_other (by omega)).trans hm.dfr)
/-- The same, the loop's frame being read off the goal; a loop variable lies in a box. -/
theorem rangeFunc_cellB {α : Type} {g : Operand} {ps : Array Tmp} {assign body : Code} {Q : Exit → Act → World → Prop} {a : Act} {w : World}
    (qs : α → Nat → List (Tmp × Value)) (Bp : α → Nat → World → Prop) {gf : Nat} {lb : Array Value} (hg : a.eval g = .func (.func gf) #[] lb) (eg : ∀ args w, (callFunc gf args).run P w = .ok (.enter gf args) w)
    {encs : α → Array Value} {L : List α} {Kp : World → World → Prop} {Bat : Nat} (hseq : SeqCell (m - 1) P gf lb encs L Kp Bat w) (hbat : Bat < w.heap.size)
    (hKt : ∀ {A B C : World}, Kp A B → Kp B C → Kp A C) (hKb : ∀ (W : World) (l : Nat) (o o' : Obj), w.heap.size ≤ l → W.heap[l]? = some o → o.isCells = false → o.isWalk = false → Kp W (W.putObj l o')) (hps : ∀ x, (encs x).size = ps.size)
    (I : List α → World → Prop) (Ix : Code → List α → World → Prop) (hI : OwnFrom w.heap.size I) (hIx : ∀ c, OwnFrom w.heap.size (Ix c)) (hIs : ∀ pre W v, I pre W → I pre (W.setCell ⟨Bat, 0, none⟩ v)) (h0 : I [] w)
    (hBp : ∀ x Bx, OwnFrom w.heap.size (fun (_ : Unit) W => Bp x Bx W))
    (hassign : ∀ (l : Nat) (pre : List α) (x : α) (W : World) (K : Act → World → Prop), pre ++ [x] <+: L → I pre W → (∀ Bx W', KeepsFrom w.heap.size W W' → Kp W W' → I pre W' → Bp x Bx W' → K { tmps := (qs x Bx).foldl (fun t pv => t.setIfInBounds pv.1 pv.2) a.tmps, defers := [] } W') →
      assign.wpIn (Fence.wide.inRound l) (m - 1 - 1) P (Exit.then K (fun _ _ _ => False)) { tmps := (ps.zip (encs x)).foldl (fun t (p, v) => t.setIfInBounds p v) a.tmps, defers := [] } W)
    (hbody : ∀ (l : Nat) (pre : List α) (x : α) (Bx : Nat) (W : World), pre ++ [x] <+: L → I pre W → Bp x Bx W → body.wpIn (Fence.wide.inRound l) (m - 1 - 1) P (ownPostG w.heap.size Kp I Ix (pre ++ [x]) W) { tmps := (qs x Bx).foldl (fun t pv => t.setIfInBounds pv.1 pv.2) a.tmps, defers := [] } W)
    (hdone : ∀ (D : Nat) (W : World), w.heap.size ≤ D → I L W → W.heap[D]? = some (.deferred (some [])) → Q .normal { a with defers := { target := .collected D, args := #[] } :: a.defers } W)
    (hstop : ∀ (D : Nat) (c : Code) (pre : List α) (W : World), w.heap.size ≤ D → pre <+: L → Ix c pre W → W.heap[D]? = some (.deferred (some [])) → c.wpIn Fence.wide m P Q { a with defers := { target := .collected D, args := #[] } :: a.defers } W) :
    (Code.rangeFunc g ps assign body).wpIn Fence.wide m P Q a w :=
  rangeFunc_cell hg eg hseq hbat hKt hKb hps I Ix hI hIx hIs h0
    (fun x a' W => ∃ Bx, Bp x Bx W ∧ a' = { tmps := (qs x Bx).foldl (fun t pv => t.setIfInBounds pv.1 pv.2) a.tmps, defers := [] })
    (fun x a' s A B row hs hg' hr => by obtain ⟨Bx, hb, e⟩ := hs; exact ⟨Bx, hBp x Bx () A B row hb hg' hr, e⟩)
    (fun l pre x W K hx hi hK => hassign l pre x W K hx hi (fun Bx W' h1 h2 h3 h4 => hK _ W' h1 h2 h3 ⟨Bx, h4, rfl⟩))
    (fun l pre x a' W hx hi hax => by obtain ⟨Bx, hb, rfl⟩ := hax; exact hbody l pre x Bx W hx hi hb) hdone hstop
end
end Go.Proofs.YthkhideonceibaaDoor
