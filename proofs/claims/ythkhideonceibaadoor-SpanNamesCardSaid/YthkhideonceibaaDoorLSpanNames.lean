/- The law SpanNames: its walk. -/
import Derived.Test.YthkhideonceibaaDoorMaq
set_option linter.unusedSimpArgs false
set_option linter.unusedVariables false
namespace Go.Proofs.YthkhideonceibaaDoor.Span
open Go.RowKit Go.Shelf Go.Sort Go.Proofs.YthkhideonceibaaDoor Go.Proofs.YthkhideonceibaaDoor.Occ Go.Proofs.YthkhideonceibaaDoor.Slo Go.Proofs.YthkhideonceibaaDoor.Seek
attribute [local go_sem] sval Oper.semAt_some

theorem names_plain : ∃ X : Sl, newSV 4 4 = (X, 0) ∧ X.Wf ∧ floorV chV 4 = ((0, 0), 6) ∧ ceilV chV 13 = ((0, 0), 6) ∧ minV X = ((0, 0), 6) ∧ maxV X = ((0, 0), 6) ∧ minV chV = ((5, 50), 0) ∧ maxV chV = ((12, 120), 0) ∧ selV chV 3 = ((0, 0), 290) ∧ selV chV (-1) = ((0, 0), 290) ∧ scanV chV 5 12 1000 = ([(5, 50), (9, 90), (12, 120)], 0) ∧ scanV chV 12 5 3 = ([], 0) ∧ scanV chV 5 12 1001 = ([], 2) ∧ scanV chV 5 12 (-1) = ([], 2) ∧ scanV chV (-9223372036854775808) 9223372036854775807 0 = ([], 0) :=
  ⟨(newSV 4 4).1, by decide +kernel, wfS (by decide +kernel) (by decide +kernel) (by decide +kernel) (by decide +kernel), by decide +kernel, by decide +kernel, by decide +kernel, by decide +kernel, by decide +kernel, by decide +kernel, by decide +kernel, by decide +kernel, by decide +kernel, by decide +kernel, by decide +kernel, by decide +kernel, by decide +kernel⟩
set_option maxRecDepth 100000 in
set_option maxHeartbeats 16000000 in
theorem spanNames (w : World) (hT : Tab w) : Calls Tryd.prog 7 #[] w fun e w' => e = .returned (.bool true) ∧ Below w.heap.size w w' := by
  obtain ⟨X, e0, wx, e1, e2, e3, e4, e5, e6, e7, e8, e9, e10, e11, e12, e13⟩ := names_plain
  have HCH := Lib.hid (fun w1 => chapter_any w1)
  have HI5 := Lib.hid (fun w1 => is_yes 5 50 w1 (by decide))
  have HI12 := Lib.hid (fun w1 => is_yes 12 120 w1 (by decide))
  have HAL := Lib.hid (fun w1 hT => alive_any w1 hT)
  have HN := Lib.hid (fun w1 => New_any 4 4 w1 (by decide) (by decide))
  rw [e0] at HN
  have H1 := Lib.hid (fun h1 w1 (T : Tab w1) (R : SRd w1 chV h1) => Floor_any chV h1 4 w1 T chV_wf R)
  rw [e1] at H1
  unfold AnsP1 at H1
  dsimp only at H1
  have H2 := Lib.hid (fun h1 w1 (T : Tab w1) (R : SRd w1 chV h1) => Ceiling_any chV h1 13 w1 T chV_wf R)
  rw [e2] at H2
  unfold AnsP1 at H2
  dsimp only at H2
  have H3 := Lib.hid (fun h1 w1 (T : Tab w1) (R : SRd w1 X h1) => Min_any X h1 w1 T wx R)
  rw [e3] at H3
  unfold AnsP1 at H3
  dsimp only at H3
  have H4 := Lib.hid (fun h1 w1 (T : Tab w1) (R : SRd w1 X h1) => Max_any X h1 w1 T wx R)
  rw [e4] at H4
  unfold AnsP1 at H4
  dsimp only at H4
  have H5 := Lib.hid (fun h1 w1 (T : Tab w1) (R : SRd w1 chV h1) => Min_any chV h1 w1 T chV_wf R)
  rw [e5] at H5
  unfold AnsP1 at H5
  dsimp only at H5
  have H6 := Lib.hid (fun h1 w1 (T : Tab w1) (R : SRd w1 chV h1) => Max_any chV h1 w1 T chV_wf R)
  rw [e6] at H6
  unfold AnsP1 at H6
  dsimp only at H6
  have H7 := Lib.hid (fun h1 w1 (T : Tab w1) (R : SRd w1 chV h1) => Select_any chV h1 3 (by decide) w1 T chV_wf R)
  rw [e7] at H7
  unfold AnsP1 at H7
  dsimp only at H7
  have H8 := Lib.hid (fun h1 w1 (T : Tab w1) (R : SRd w1 chV h1) => Select_any chV h1 (-1) (by decide) w1 T chV_wf R)
  rw [e8] at H8
  unfold AnsP1 at H8
  dsimp only at H8
  have H9 := Lib.hid (fun h1 w1 (T : Tab w1) (R : SRd w1 chV h1) => Scan_any chV h1 5 12 1000 w1 T chV_wf R)
  rw [e9] at H9
  unfold AnsPr at H9
  dsimp only at H9
  have H10 := Lib.hid (fun h1 w1 (T : Tab w1) (R : SRd w1 chV h1) => Scan_any chV h1 12 5 3 w1 T chV_wf R)
  rw [e10] at H10
  unfold AnsPr at H10
  dsimp only at H10
  have H11 := Lib.hid (fun h1 w1 (T : Tab w1) (R : SRd w1 chV h1) => Scan_any chV h1 5 12 1001 w1 T chV_wf R)
  rw [e11] at H11
  unfold AnsPr at H11
  dsimp only at H11
  have H12 := Lib.hid (fun h1 w1 (T : Tab w1) (R : SRd w1 chV h1) => Scan_any chV h1 5 12 (-1) w1 T chV_wf R)
  rw [e12] at H12
  unfold AnsPr at H12
  dsimp only at H12
  have H13 := Lib.hid (fun h1 w1 (T : Tab w1) (R : SRd w1 chV h1) => Scan_any chV h1 (-9223372036854775808) 9223372036854775807 0 w1 T chV_wf R)
  rw [e13] at H13
  unfold AnsPr at H13
  dsimp only at H13
  generalize chV = C at *
  clear e0 wx e1 e2 e3 e4 e5 e6 e7 e8 e9 e10 e11 e12 e13
  have E0 := Lib.hid (((St.below w)).and (St.tab hT))
  clear hT
  go_enter Tryd.func7, Tryd.ntmps7
  go_wp2_with fail
  refine (HN.out _).mono ?_
  rintro e w1 ⟨hx, rfl, ho, hb⟩
  have E1 := Lib.hid ((E0.out.next hb).and (St.own ho))
  clear hb
  clear ho
  go_wp2_with fail
  rw [allocS_fold]
  have E2 := Lib.hid ((E1.out.next (allocS_below w1 X hx)).and (St.bs (allocS_bs w1 X hx)))
  generalize allocS w1 X hx = w2 at *
  refine (HCH.out _).mono ?_
  rintro e w3 ⟨hc1, rfl, ho, hb⟩
  have E3 := Lib.hid ((E2.out.next hb).and (St.own ho))
  clear hb
  clear ho
  go_wp2_with fail
  refine (H1.out hc1 _ E3.out.now.2.2.2.1 (SOwn.rd E3.out.now.1)).mono ?_
  rintro e w4 ⟨rfl, hb⟩
  have E4 := Lib.hid (E3.out.next hb)
  clear hb
  go_wp2_with fail
  rw [allocP_fold]
  have E5 := Lib.hid ((E4.out.next (allocP_below w4 0 0)).and (St.bp (allocP_bp w4 0 0)))
  generalize allocP w4 0 0 = w5 at *
  refine (HCH.out _).mono ?_
  rintro e w6 ⟨hc2, rfl, ho, hb⟩
  have E6 := Lib.hid ((E5.out.next hb).and (St.own ho))
  clear hb
  clear ho
  go_wp2_with fail
  refine (H2.out hc2 _ E6.out.now.2.2.2.2.2.1 (SOwn.rd E6.out.now.1)).mono ?_
  rintro e w7 ⟨rfl, hb⟩
  have E7 := Lib.hid (E6.out.next hb)
  clear hb
  obtain ⟨-, -, -, ⟨⟨bx_0, bx_1, bx_2, bx_3, bx_4, bx_5, -⟩, bx_l⟩, -, -, -⟩ := E7.out.now
  go_wp2_with fail
  clear bx_0 bx_1 bx_2 bx_3 bx_4 bx_5 bx_l
  rw [allocP_fold]
  have E8 := Lib.hid ((E7.out.next (allocP_below w7 0 0)).and (St.bp (allocP_bp w7 0 0)))
  generalize allocP w7 0 0 = w8 at *
  refine (H3.out hx _ E8.out.now.2.2.2.2.2.2.1 (SOwn.rd E8.out.now.2.2.2.2.2.1)).mono ?_
  rintro e w9 ⟨rfl, hb⟩
  have E9 := Lib.hid (E8.out.next hb)
  clear hb
  obtain ⟨-, -, -, -, ⟨⟨bx_0, bx_1, bx_2, bx_3, bx_4, bx_5, -⟩, bx_l⟩, -, -, -⟩ := E9.out.now
  go_wp2_with fail
  clear bx_0 bx_1 bx_2 bx_3 bx_4 bx_5 bx_l
  rw [allocP_fold]
  have E10 := Lib.hid ((E9.out.next (allocP_below w9 0 0)).and (St.bp (allocP_bp w9 0 0)))
  generalize allocP w9 0 0 = w10 at *
  refine (H4.out hx _ E10.out.now.2.2.2.2.2.2.2.1 (SOwn.rd E10.out.now.2.2.2.2.2.2.1)).mono ?_
  rintro e w11 ⟨rfl, hb⟩
  have E11 := Lib.hid (E10.out.next hb)
  clear hb
  go_wp2_with fail
  rw [allocP_fold]
  have E12 := Lib.hid ((E11.out.next (allocP_below w11 0 0)).and (St.bp (allocP_bp w11 0 0)))
  generalize allocP w11 0 0 = w12 at *
  refine (HCH.out _).mono ?_
  rintro e w13 ⟨hc5, rfl, ho, hb⟩
  have E13 := Lib.hid ((E12.out.next hb).and (St.own ho))
  clear hb
  clear ho
  go_wp2_with fail
  refine (H5.out hc5 _ E13.out.now.2.2.2.2.2.2.2.2.2.1 (SOwn.rd E13.out.now.1)).mono ?_
  rintro e w14 ⟨rfl, hb⟩
  have E14 := Lib.hid (E13.out.next hb)
  clear hb
  go_wp2_with fail
  rw [allocP_fold]
  have E15 := Lib.hid ((E14.out.next (allocP_below w14 5 50)).and (St.bp (allocP_bp w14 5 50)))
  generalize allocP w14 5 50 = w15 at *
  refine (HCH.out _).mono ?_
  rintro e w16 ⟨hc6, rfl, ho, hb⟩
  have E16 := Lib.hid ((E15.out.next hb).and (St.own ho))
  clear hb
  clear ho
  go_wp2_with fail
  refine (H6.out hc6 _ E16.out.now.2.2.2.2.2.2.2.2.2.2.2.1 (SOwn.rd E16.out.now.1)).mono ?_
  rintro e w17 ⟨rfl, hb⟩
  have E17 := Lib.hid (E16.out.next hb)
  clear hb
  go_wp2_with fail
  rw [allocP_fold]
  have E18 := Lib.hid ((E17.out.next (allocP_below w17 12 120)).and (St.bp (allocP_bp w17 12 120)))
  generalize allocP w17 12 120 = w18 at *
  refine (HCH.out _).mono ?_
  rintro e w19 ⟨hc7, rfl, ho, hb⟩
  have E19 := Lib.hid ((E18.out.next hb).and (St.own ho))
  clear hb
  clear ho
  go_wp2_with fail
  refine (H7.out hc7 _ E19.out.now.2.2.2.2.2.2.2.2.2.2.2.2.2.1 (SOwn.rd E19.out.now.1)).mono ?_
  rintro e w20 ⟨rfl, hb⟩
  have E20 := Lib.hid (E19.out.next hb)
  clear hb
  go_wp2_with fail
  rw [allocP_fold]
  have E21 := Lib.hid ((E20.out.next (allocP_below w20 0 0)).and (St.bp (allocP_bp w20 0 0)))
  generalize allocP w20 0 0 = w21 at *
  refine (HCH.out _).mono ?_
  rintro e w22 ⟨hc8, rfl, ho, hb⟩
  have E22 := Lib.hid ((E21.out.next hb).and (St.own ho))
  clear hb
  clear ho
  go_wp2_with fail
  refine (H8.out hc8 _ E22.out.now.2.2.2.2.2.2.2.2.2.2.2.2.2.2.2.1 (SOwn.rd E22.out.now.1)).mono ?_
  rintro e w23 ⟨rfl, hb⟩
  have E23 := Lib.hid (E22.out.next hb)
  clear hb
  go_wp2_with fail
  rw [allocP_fold]
  have E24 := Lib.hid ((E23.out.next (allocP_below w23 0 0)).and (St.bp (allocP_bp w23 0 0)))
  generalize allocP w23 0 0 = w24 at *
  refine (HCH.out _).mono ?_
  rintro e w25 ⟨hc9, rfl, ho, hb⟩
  have E25 := Lib.hid ((E24.out.next hb).and (St.own ho))
  clear hb
  clear ho
  go_wp2_with fail
  refine (H9.out hc9 _ E25.out.now.2.2.2.2.2.2.2.2.2.2.2.2.2.2.2.2.2.1 (SOwn.rd E25.out.now.1)).mono ?_
  rintro e w26 ⟨v, rfl, ho, hb⟩
  obtain ⟨al9, cl9, rfl, -, hr2, hcl, -⟩ := owns2_arg ho
  clear ho hcl
  rw [show ([(5, 50), (9, 90), (12, 120)] : List (Int × Int)).length = 3 from rfl]
  have E26 := Lib.hid ((E25.out.next hb).and (St.rd2 hr2))
  clear hb
  clear hr2
  go_wp2_with fail
  refine (HCH.out _).mono ?_
  rintro e w27 ⟨hc10, rfl, ho, hb⟩
  have E27 := Lib.hid ((E26.out.next hb).and (St.own ho))
  clear hb
  clear ho
  go_wp2_with fail
  refine (H10.out hc10 _ E27.out.now.2.2.2.2.2.2.2.2.2.2.2.2.2.2.2.2.2.2.2.1 (SOwn.rd E27.out.now.1)).mono ?_
  rintro e w28 ⟨v, rfl, ho, hb⟩
  obtain ⟨al10, cl10, rfl, -, hr2, hcl, -⟩ := owns2_arg ho
  clear ho hcl
  rw [show ([] : List (Int × Int)).length = 0 from rfl]
  have E28 := Lib.hid ((E27.out.next hb).and (St.rd2 hr2))
  clear hb
  clear hr2
  go_wp2_with fail
  refine (HCH.out _).mono ?_
  rintro e w29 ⟨hc11, rfl, ho, hb⟩
  have E29 := Lib.hid ((E28.out.next hb).and (St.own ho))
  clear hb
  clear ho
  go_wp2_with fail
  refine (H11.out hc11 _ E29.out.now.2.2.2.2.2.2.2.2.2.2.2.2.2.2.2.2.2.2.2.2.2.1 (SOwn.rd E29.out.now.1)).mono ?_
  rintro e w30 ⟨v, rfl, ho, hb⟩
  obtain ⟨al11, cl11, rfl, -, hr2, hcl, -⟩ := owns2_arg ho
  clear ho hcl
  rw [show ([] : List (Int × Int)).length = 0 from rfl]
  have E30 := Lib.hid ((E29.out.next hb).and (St.rd2 hr2))
  clear hb
  clear hr2
  go_wp2_with fail
  refine (HCH.out _).mono ?_
  rintro e w31 ⟨hc12, rfl, ho, hb⟩
  have E31 := Lib.hid ((E30.out.next hb).and (St.own ho))
  clear hb
  clear ho
  go_wp2_with fail
  refine (H12.out hc12 _ E31.out.now.2.2.2.2.2.2.2.2.2.2.2.2.2.2.2.2.2.2.2.2.2.2.2.1 (SOwn.rd E31.out.now.1)).mono ?_
  rintro e w32 ⟨v, rfl, ho, hb⟩
  obtain ⟨al12, cl12, rfl, -, hr2, hcl, -⟩ := owns2_arg ho
  clear ho hcl
  rw [show ([] : List (Int × Int)).length = 0 from rfl]
  have E32 := Lib.hid ((E31.out.next hb).and (St.rd2 hr2))
  clear hb
  clear hr2
  go_wp2_with fail
  refine (HCH.out _).mono ?_
  rintro e w33 ⟨hc13, rfl, ho, hb⟩
  have E33 := Lib.hid ((E32.out.next hb).and (St.own ho))
  clear hb
  clear ho
  go_wp2_with fail
  refine (H13.out hc13 _ E33.out.now.2.2.2.2.2.2.2.2.2.2.2.2.2.2.2.2.2.2.2.2.2.2.2.2.2.1 (SOwn.rd E33.out.now.1)).mono ?_
  rintro e w34 ⟨v, rfl, ho, hb⟩
  obtain ⟨al13, cl13, rfl, -, hr2, hcl, -⟩ := owns2_arg ho
  clear ho hcl
  rw [show ([] : List (Int × Int)).length = 0 from rfl]
  have E34 := Lib.hid ((E33.out.next hb).and (St.rd2 hr2))
  clear hb
  clear hr2
  obtain ⟨-, -, -, -, -, -, -, -, -, -, -, -, -, -, -, -, ⟨⟨p5_0, p5_1, -⟩, p5_l⟩, -, -, -, -, -, -, -, -, -, -, -⟩ := E34.out.now
  go_wp2_with fail
  clear p5_0 p5_1 p5_l
  refine (HI5.out _).mono ?_
  rintro e w35 ⟨rfl, hb⟩
  have E35 := Lib.hid (E34.out.next hb)
  clear hb
  obtain ⟨-, -, -, -, -, -, -, -, -, -, -, -, -, -, ⟨⟨p6_0, p6_1, -⟩, p6_l⟩, -, -, -, -, -, -, -, -, -, -, -, -, -⟩ := E35.out.now
  go_wp2_with fail
  clear p6_0 p6_1 p6_l
  refine (HI12.out _).mono ?_
  rintro e w36 ⟨rfl, hb⟩
  have E36 := Lib.hid (E35.out.next hb)
  clear hb
  go_wp2_with fail
  refine (HAL.out _ E36.out.now.2.2.2.2.2.2.2.2.2.2.2.2.2.2.2.2.2.2.2.2.2.2.2.2.2.2.1).mono ?_
  rintro e w37 ⟨rfl, hb⟩
  have E37 := Lib.hid (E36.out.next hb)
  clear hb
  go_wp2_with fail
  go_ret
  exact ⟨by simp, E37.out.now.2.2.2.2.2.2.2.2.2.2.2.2.2.2.2.2.2.2.2.2.2.2.2.2.2.2.2⟩
end Go.Proofs.YthkhideonceibaaDoor.Span
