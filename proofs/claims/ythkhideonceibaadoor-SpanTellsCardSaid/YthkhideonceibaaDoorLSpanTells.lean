/- The law SpanTells: its walk. -/
import Derived.Test.YthkhideonceibaaDoorMao
set_option linter.unusedSimpArgs false
set_option linter.unusedVariables false
namespace Go.Proofs.YthkhideonceibaaDoor.Span
open Go.RowKit Go.Shelf Go.Sort Go.Proofs.YthkhideonceibaaDoor Go.Proofs.YthkhideonceibaaDoor.Occ Go.Proofs.YthkhideonceibaaDoor.Slo Go.Proofs.YthkhideonceibaaDoor.Seek
attribute [local go_sem] sval Oper.semAt_some

set_option maxRecDepth 100000 in
set_option maxHeartbeats 16000000 in
theorem spanTells (x : In) (key k : Int) (w : World) (wx : x.Ok w) (wk : (Lit.int .i64 key).wf = true) (wn : (Lit.int .i64 k).wf = true) (hT : Tab w) :
    Calls Tryd.prog 4 #[x.val, .int .i64 key, .int .i64 k] w fun e w' => e = .returned (.bool true) ∧ Below w.heap.size w w' := by
  obtain ⟨s, h, e1, S⟩ := wx.open
  rw [e1]
  have hk9 : k ≤ 9223372036854775807 := by simp [Lit.wf, IntKind.min, IntKind.max, IntKind.signed, IntKind.bits] at wn; omega
  have HK9 := Lib.hid hk9
  have HS := Lib.hid S
  have HT := Lib.hid hT
  clear S e1 wx wk wn x hT hk9
  have HG1 := Lib.hid (fun w1 => Great_any s h 600 w1)
  have E0 := Lib.hid (((((St.below' (allocS_below w s h))).and (St.rd (HS.out.rd.next (allocS_below w s h)))).and ((St.tab HT.out).next (allocS_below w s h))).and (St.bs (allocS_bs w s h)))
  cases hg1 : greatB s 600
  case true =>
    rw [hg1] at HG1
    clear hg1
    go_enter Tryd.func4, Tryd.ntmps4
    go_wp2_with fail
    rw [allocS_fold]
    refine (HG1.out _).mono ?_
    rintro e w1 ⟨rfl, hb⟩
    have E1 := Lib.hid (E0.out.next hb)
    clear hb
    go_wp2
    go_ret
    exact ⟨rfl, E1.out.now.2.2.2⟩
  rw [hg1] at HG1
  have hls := greatB_no (m := 600) hg1
  obtain ⟨hl1, hl2, hl3, hl4⟩ := hls
  have HW := Lib.hid (HS.out.wf ⟨by omega, by omega, by omega, by omega⟩)
  have HSO := Lib.hid (fun h1 h2 w1 R1 R2 => same_refl s h1 h2 w1 R1 R2 ⟨by omega, by omega, by omega, by omega⟩)
  clear hg1 hl1 hl2 hl3 hl4
  have HA1 := Lib.hid (fun h1 w1 (T : Tab w1) (R : SRd w1 s h1) => Floor_any s h1 key w1 T HW.out R)
  have HB1 := Lib.hid (fun w1 (R : SRd w1 s h) => refFloor_any s h key w1 HW.out R)
  have HA2 := Lib.hid (fun h1 w1 (T : Tab w1) (R : SRd w1 s h1) => Ceiling_any s h1 key w1 T HW.out R)
  have HB2 := Lib.hid (fun w1 (R : SRd w1 s h) => refCeiling_any s h key w1 HW.out R)
  have HA3 := Lib.hid (fun h1 w1 (T : Tab w1) (R : SRd w1 s h1) => Min_any s h1 w1 T HW.out R)
  have HB3 := Lib.hid (fun w1 (R : SRd w1 s h) => refMin_any s h w1 HW.out R)
  have HA4 := Lib.hid (fun h1 w1 (T : Tab w1) (R : SRd w1 s h1) => Max_any s h1 w1 T HW.out R)
  have HB4 := Lib.hid (fun w1 (R : SRd w1 s h) => refMax_any s h w1 HW.out R)
  have HA5 := Lib.hid (fun h1 w1 (T : Tab w1) (R : SRd w1 s h1) => Select_any s h1 k HK9.out w1 T HW.out R)
  have HB5 := Lib.hid (fun w1 (R : SRd w1 s h) => refSelect_any s h k w1 HW.out R)
  generalize floorV s key = V1 at *
  obtain ⟨⟨x1, y1⟩, c1⟩ := V1
  unfold AnsP1 at HA1 HB1
  dsimp only at HA1 HB1
  generalize ceilV s key = V2 at *
  obtain ⟨⟨x2, y2⟩, c2⟩ := V2
  unfold AnsP1 at HA2 HB2
  dsimp only at HA2 HB2
  generalize minV s = V3 at *
  obtain ⟨⟨x3, y3⟩, c3⟩ := V3
  unfold AnsP1 at HA3 HB3
  dsimp only at HA3 HB3
  generalize maxV s = V4 at *
  obtain ⟨⟨x4, y4⟩, c4⟩ := V4
  unfold AnsP1 at HA4 HB4
  dsimp only at HA4 HB4
  generalize selV s k = V5 at *
  obtain ⟨⟨x5, y5⟩, c5⟩ := V5
  unfold AnsP1 at HA5 HB5
  dsimp only at HA5 HB5
  go_enter Tryd.func4, Tryd.ntmps4
  go_wp2_with fail
  rw [allocS_fold]
  refine (HG1.out _).mono ?_
  rintro e w1 ⟨rfl, hb⟩
  have E1 := Lib.hid (E0.out.next hb)
  clear hb
  obtain ⟨⟨⟨bs_0, bs_1, bs_2, bs_3, bs_4, bs_5, -⟩, bs_l⟩, -, -, -⟩ := E1.out.now
  go_wp2_with fail
  clear bs_0 bs_1 bs_2 bs_3 bs_4 bs_5 bs_l
  refine (refTwin_any s h _ HW.out E1.out.now.2.2.1 HS.out.no).mono ?_
  rintro e w2 ⟨h1, rfl, ho, hb⟩
  have E2 := Lib.hid ((E1.out.next hb).and (St.own ho))
  clear hb
  clear ho
  go_wp2_with fail
  rw [allocS_fold]
  have E3 := Lib.hid ((E2.out.next (allocS_below w2 s h1)).and (St.bs (allocS_bs w2 s h1)))
  generalize allocS w2 s h1 = w3 at *
  refine (HA1.out h1 _ E3.out.now.2.2.2.1 (SOwn.rd E3.out.now.2.1)).mono ?_
  rintro e w4 ⟨rfl, hb⟩
  have E4 := Lib.hid (E3.out.next hb)
  clear hb
  obtain ⟨-, -, ⟨⟨bs_0, bs_1, bs_2, bs_3, bs_4, bs_5, -⟩, bs_l⟩, -, -, -⟩ := E4.out.now
  go_wp2_with fail
  clear bs_0 bs_1 bs_2 bs_3 bs_4 bs_5 bs_l
  rw [allocP_fold]
  have E5 := Lib.hid ((E4.out.next (allocP_below w4 x1 y1)).and (St.bp (allocP_bp w4 x1 y1)))
  generalize allocP w4 x1 y1 = w5 at *
  refine (HB1.out _ E5.out.now.2.2.2.2.2.1).mono ?_
  rintro e w6 ⟨rfl, hb⟩
  have E6 := Lib.hid (E5.out.next hb)
  clear hb
  obtain ⟨-, ⟨⟨bown_0, bown_1, bown_2, bown_3, bown_4, bown_5, -⟩, bown_l⟩, -, -, -, -, -⟩ := E6.out.now
  go_wp2_with fail
  clear bown_0 bown_1 bown_2 bown_3 bown_4 bown_5 bown_l
  rw [allocP_fold]
  have E7 := Lib.hid ((E6.out.next (allocP_below w6 x1 y1)).and (St.bp (allocP_bp w6 x1 y1)))
  generalize allocP w6 x1 y1 = w7 at *
  refine (HA2.out h1 _ E7.out.now.2.2.2.2.2.1 (SOwn.rd E7.out.now.2.2.2.1)).mono ?_
  rintro e w8 ⟨rfl, hb⟩
  have E8 := Lib.hid (E7.out.next hb)
  clear hb
  obtain ⟨-, -, -, -, ⟨⟨bs_0, bs_1, bs_2, bs_3, bs_4, bs_5, -⟩, bs_l⟩, -, -, -⟩ := E8.out.now
  go_wp2_with fail
  clear bs_0 bs_1 bs_2 bs_3 bs_4 bs_5 bs_l
  rw [allocP_fold]
  have E9 := Lib.hid ((E8.out.next (allocP_below w8 x2 y2)).and (St.bp (allocP_bp w8 x2 y2)))
  generalize allocP w8 x2 y2 = w9 at *
  refine (HB2.out _ E9.out.now.2.2.2.2.2.2.2.1).mono ?_
  rintro e w10 ⟨rfl, hb⟩
  have E10 := Lib.hid (E9.out.next hb)
  clear hb
  obtain ⟨-, -, -, ⟨⟨bown_0, bown_1, bown_2, bown_3, bown_4, bown_5, -⟩, bown_l⟩, -, -, -, -, -⟩ := E10.out.now
  go_wp2_with fail
  clear bown_0 bown_1 bown_2 bown_3 bown_4 bown_5 bown_l
  rw [allocP_fold]
  have E11 := Lib.hid ((E10.out.next (allocP_below w10 x2 y2)).and (St.bp (allocP_bp w10 x2 y2)))
  generalize allocP w10 x2 y2 = w11 at *
  refine (HA3.out h1 _ E11.out.now.2.2.2.2.2.2.2.1 (SOwn.rd E11.out.now.2.2.2.2.2.1)).mono ?_
  rintro e w12 ⟨rfl, hb⟩
  have E12 := Lib.hid (E11.out.next hb)
  clear hb
  obtain ⟨-, -, -, -, -, -, ⟨⟨bs_0, bs_1, bs_2, bs_3, bs_4, bs_5, -⟩, bs_l⟩, -, -, -⟩ := E12.out.now
  go_wp2_with fail
  clear bs_0 bs_1 bs_2 bs_3 bs_4 bs_5 bs_l
  rw [allocP_fold]
  have E13 := Lib.hid ((E12.out.next (allocP_below w12 x3 y3)).and (St.bp (allocP_bp w12 x3 y3)))
  generalize allocP w12 x3 y3 = w13 at *
  refine (HB3.out _ E13.out.now.2.2.2.2.2.2.2.2.2.1).mono ?_
  rintro e w14 ⟨rfl, hb⟩
  have E14 := Lib.hid (E13.out.next hb)
  clear hb
  obtain ⟨-, -, -, -, -, ⟨⟨bown_0, bown_1, bown_2, bown_3, bown_4, bown_5, -⟩, bown_l⟩, -, -, -, -, -⟩ := E14.out.now
  go_wp2_with fail
  clear bown_0 bown_1 bown_2 bown_3 bown_4 bown_5 bown_l
  rw [allocP_fold]
  have E15 := Lib.hid ((E14.out.next (allocP_below w14 x3 y3)).and (St.bp (allocP_bp w14 x3 y3)))
  generalize allocP w14 x3 y3 = w15 at *
  refine (HA4.out h1 _ E15.out.now.2.2.2.2.2.2.2.2.2.1 (SOwn.rd E15.out.now.2.2.2.2.2.2.2.1)).mono ?_
  rintro e w16 ⟨rfl, hb⟩
  have E16 := Lib.hid (E15.out.next hb)
  clear hb
  obtain ⟨-, -, -, -, -, -, -, -, ⟨⟨bs_0, bs_1, bs_2, bs_3, bs_4, bs_5, -⟩, bs_l⟩, -, -, -⟩ := E16.out.now
  go_wp2_with fail
  clear bs_0 bs_1 bs_2 bs_3 bs_4 bs_5 bs_l
  rw [allocP_fold]
  have E17 := Lib.hid ((E16.out.next (allocP_below w16 x4 y4)).and (St.bp (allocP_bp w16 x4 y4)))
  generalize allocP w16 x4 y4 = w17 at *
  refine (HB4.out _ E17.out.now.2.2.2.2.2.2.2.2.2.2.2.1).mono ?_
  rintro e w18 ⟨rfl, hb⟩
  have E18 := Lib.hid (E17.out.next hb)
  clear hb
  obtain ⟨-, -, -, -, -, -, -, ⟨⟨bown_0, bown_1, bown_2, bown_3, bown_4, bown_5, -⟩, bown_l⟩, -, -, -, -, -⟩ := E18.out.now
  go_wp2_with fail
  clear bown_0 bown_1 bown_2 bown_3 bown_4 bown_5 bown_l
  rw [allocP_fold]
  have E19 := Lib.hid ((E18.out.next (allocP_below w18 x4 y4)).and (St.bp (allocP_bp w18 x4 y4)))
  generalize allocP w18 x4 y4 = w19 at *
  refine (HA5.out h1 _ E19.out.now.2.2.2.2.2.2.2.2.2.2.2.1 (SOwn.rd E19.out.now.2.2.2.2.2.2.2.2.2.1)).mono ?_
  rintro e w20 ⟨rfl, hb⟩
  have E20 := Lib.hid (E19.out.next hb)
  clear hb
  obtain ⟨-, -, -, -, -, -, -, -, -, -, ⟨⟨bs_0, bs_1, bs_2, bs_3, bs_4, bs_5, -⟩, bs_l⟩, -, -, -⟩ := E20.out.now
  go_wp2_with fail
  clear bs_0 bs_1 bs_2 bs_3 bs_4 bs_5 bs_l
  rw [allocP_fold]
  have E21 := Lib.hid ((E20.out.next (allocP_below w20 x5 y5)).and (St.bp (allocP_bp w20 x5 y5)))
  generalize allocP w20 x5 y5 = w21 at *
  refine (HB5.out _ E21.out.now.2.2.2.2.2.2.2.2.2.2.2.2.2.1).mono ?_
  rintro e w22 ⟨rfl, hb⟩
  have E22 := Lib.hid (E21.out.next hb)
  clear hb
  have hgd : Tryd.prog.eqGuardType Tryd.prog.depth 38 = false := by kernel_rfl
  have hq1 : ∀ w : World, (Op.equalIn 10000 38 (.agg #[.int .i64 x1, .int .i64 y1]) (.agg #[.int .i64 x1, .int .i64 y1])).run Tryd.prog w = .ok true w := fun w => by rw [run_equal_pair]; simp
  have hq2 : ∀ w : World, (Op.equalIn 10000 38 (.agg #[.int .i64 x2, .int .i64 y2]) (.agg #[.int .i64 x2, .int .i64 y2])).run Tryd.prog w = .ok true w := fun w => by rw [run_equal_pair]; simp
  have hq3 : ∀ w : World, (Op.equalIn 10000 38 (.agg #[.int .i64 x3, .int .i64 y3]) (.agg #[.int .i64 x3, .int .i64 y3])).run Tryd.prog w = .ok true w := fun w => by rw [run_equal_pair]; simp
  have hq4 : ∀ w : World, (Op.equalIn 10000 38 (.agg #[.int .i64 x4, .int .i64 y4]) (.agg #[.int .i64 x4, .int .i64 y4])).run Tryd.prog w = .ok true w := fun w => by rw [run_equal_pair]; simp
  have hq5 : ∀ w : World, (Op.equalIn 10000 38 (.agg #[.int .i64 x5, .int .i64 y5]) (.agg #[.int .i64 x5, .int .i64 y5])).run Tryd.prog w = .ok true w := fun w => by rw [run_equal_pair]; simp
  obtain ⟨⟨⟨pa5_0, pa5_1, -⟩, pa5_l⟩, ⟨⟨pb4_0, pb4_1, -⟩, pb4_l⟩, ⟨⟨pa4_0, pa4_1, -⟩, pa4_l⟩, ⟨⟨pb3_0, pb3_1, -⟩, pb3_l⟩, ⟨⟨pa3_0, pa3_1, -⟩, pa3_l⟩, ⟨⟨pb2_0, pb2_1, -⟩, pb2_l⟩, ⟨⟨pa2_0, pa2_1, -⟩, pa2_l⟩, ⟨⟨pb1_0, pb1_1, -⟩, pb1_l⟩, ⟨⟨pa1_0, pa1_1, -⟩, pa1_l⟩, ⟨⟨bown_0, bown_1, bown_2, bown_3, bown_4, bown_5, -⟩, bown_l⟩, -, ⟨⟨bs_0, bs_1, bs_2, bs_3, bs_4, bs_5, -⟩, bs_l⟩, -, -, -⟩ := E22.out.now
  go_wp2_with fail
  clear bs_0 bs_1 bs_2 bs_3 bs_4 bs_5 bs_l bown_0 bown_1 bown_2 bown_3 bown_4 bown_5 bown_l pa1_0 pa1_1 pa1_l pa2_0 pa2_1 pa2_l pa3_0 pa3_1 pa3_l pa4_0 pa4_1 pa4_l pa5_0 pa5_1 pa5_l pb1_0 pb1_1 pb1_l pb2_0 pb2_1 pb2_l pb3_0 pb3_1 pb3_l pb4_0 pb4_1 pb4_l
  rw [allocP_fold]
  have E23 := Lib.hid (E22.out.next (allocP_below w22 x5 y5))
  generalize allocP w22 x5 y5 = wz at *
  refine (HSO.out h1 h _ (SOwn.rd E23.out.now.2.2.2.2.2.2.2.2.2.2.1) E23.out.now.2.2.2.2.2.2.2.2.2.2.2.2.2.1).mono ?_
  rintro e w24 ⟨rfl, hb⟩
  have E24 := Lib.hid (E23.out.next hb)
  clear hb
  go_wp2_with fail
  go_ret
  exact ⟨by simp, E24.out.now.2.2.2.2.2.2.2.2.2.2.2.2.2.2⟩
end Go.Proofs.YthkhideonceibaaDoor.Span
