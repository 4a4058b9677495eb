/- The law SeekTells: its walk. -/
import Derived.Test.YtljfbhkoppahaaaDoorMam
set_option linter.unusedSimpArgs false
set_option linter.unusedVariables false
namespace Go.Proofs.YtljfbhkoppahaaaDoor.Seek
open Go.RowKit Go.Shelf Go.Sort Go.Proofs.YtljfbhkoppahaaaDoor Go.Proofs.YtljfbhkoppahaaaDoor.Occ Go.Proofs.YtljfbhkoppahaaaDoor.Slo
attribute [local go_sem] sval Oper.semAt_some

set_option maxRecDepth 100000 in
set_option maxHeartbeats 16000000 in
theorem seekTells (x : In) (key : Int) (w : World) (wx : x.Ok w) (wk : (Lit.int .i64 key).wf = true) (hT : Tab w) :
    Calls Tryd.prog 3 #[x.val, .int .i64 key] w fun e w' => e = .returned (.bool true) ∧ Below w.heap.size w w' := by
  obtain ⟨s, h, e1, S⟩ := wx.open
  rw [e1]
  have HS := Lib.hid S
  have HT := Lib.hid hT
  clear S e1 wx wk x hT
  have HG1 := Lib.hid (fun w1 => Great_any s h 600 w1)
  have E0 := Lib.hid (((((St.below' (allocS_below w s h))).and (St.rd (HS.out.rd.next (allocS_below w s h)))).and ((St.tab HT.out).next (allocS_below w s h))).and (St.bs (allocS_bs w s h)))
  cases hg1 : greatB s 600
  case true =>
    rw [hg1] at HG1
    clear hg1
    go_enter Tryd.func3, Tryd.ntmps3
    go_wp2_with fail
    rw [allocS_fold]
    refine (HG1.out _).mono ?_
    rintro e w1 ⟨rfl, hb⟩
    have E1 := Lib.hid (E0.out.next hb)
    clear hb
    go_wp2
    go_ret
    exact ⟨rfl, E1.out.now.2.2.2⟩
  rw [hg1] at HG1
  have hls := greatB_no (m := 600) hg1
  obtain ⟨hl1, hl2, hl3, hl4⟩ := hls
  have HW := Lib.hid (HS.out.wf ⟨by omega, by omega, by omega, by omega⟩)
  have HSO := Lib.hid (fun h1 h2 w1 R1 R2 => same_refl s h1 h2 w1 R1 R2 ⟨by omega, by omega, by omega, by omega⟩)
  clear hg1 hl1 hl2 hl3 hl4
  have HA1 := Lib.hid (fun h1 w1 (T : Tab w1) (R : SRd w1 s h1) => Rank_any s h1 key w1 T HW.out R)
  have HB1 := Lib.hid (fun w1 (R : SRd w1 s h) => refRankK_any s h key w1 HW.out R)
  have HA2 := Lib.hid (fun h1 w1 (T : Tab w1) (R : SRd w1 s h1) => Find_any s h1 key w1 T HW.out R)
  have HB2 := Lib.hid (fun w1 (R : SRd w1 s h) => refFindK_any s h key w1 HW.out R)
  have HA3 := Lib.hid (fun h1 w1 (T : Tab w1) (R : SRd w1 s h1) => kNext_any s h1 key w1 T HW.out R)
  have HB3 := Lib.hid (fun w1 (R : SRd w1 s h) => refNextK_any s h key w1 HW.out R)
  have HA4 := Lib.hid (fun h1 w1 (T : Tab w1) (R : SRd w1 s h1) => kLast_any s h1 key w1 T HW.out R)
  have HB4 := Lib.hid (fun w1 (R : SRd w1 s h) => refLastK_any s h key w1 HW.out R)
  have HC1 := Lib.hid (fun h1 w1 (R : SRd w1 s h1) => kCheck_any s h1 w1 HW.out R)
  have HC2 := Lib.hid (fun w1 (R : SRd w1 s h) => refCheckK_any s h w1 HW.out R)
  generalize chkK s = ck at *
  generalize rankV s key = V1 at *
  obtain ⟨v1, e1⟩ := V1
  dsimp only at HA1 HB1
  generalize findV s key = V2 at *
  obtain ⟨v2, e2⟩ := V2
  dsimp only at HA2 HB2
  generalize nxtV s key = V3 at *
  obtain ⟨v3, e3⟩ := V3
  dsimp only at HA3 HB3
  generalize lasV s key = V4 at *
  obtain ⟨v4, e4⟩ := V4
  dsimp only at HA4 HB4
  go_enter Tryd.func3, Tryd.ntmps3
  go_wp2_with fail
  rw [allocS_fold]
  refine (HG1.out _).mono ?_
  rintro e w1 ⟨rfl, hb⟩
  have E1 := Lib.hid (E0.out.next hb)
  clear hb
  obtain ⟨⟨⟨bs_0, bs_1, bs_2, bs_3, bs_4, bs_5, -⟩, bs_l⟩, -, -, -⟩ := E1.out.now
  go_wp2_with fail
  clear bs_0 bs_1 bs_2 bs_3 bs_4 bs_5 bs_l
  refine (refTwin_any s h _ HW.out E1.out.now.2.2.1 HS.out.no).mono ?_
  rintro e w2 ⟨h1, rfl, ho, hb⟩
  have E2 := Lib.hid ((E1.out.next hb).and (St.own ho))
  clear hb
  clear ho
  go_wp2_with fail
  rw [allocS_fold]
  have E3 := Lib.hid ((E2.out.next (allocS_below w2 s h1)).and (St.bs (allocS_bs w2 s h1)))
  generalize allocS w2 s h1 = w3 at *
  refine (HA1.out h1 _ E3.out.now.2.2.2.1 (SOwn.rd E3.out.now.2.1)).mono ?_
  rintro e w4 ⟨rfl, hb⟩
  have E4 := Lib.hid (E3.out.next hb)
  clear hb
  obtain ⟨-, -, ⟨⟨bs_0, bs_1, bs_2, bs_3, bs_4, bs_5, -⟩, bs_l⟩, -, -, -⟩ := E4.out.now
  go_wp2_with fail
  clear bs_0 bs_1 bs_2 bs_3 bs_4 bs_5 bs_l
  refine (HB1.out _ E4.out.now.2.2.2.2.1).mono ?_
  rintro e w5 ⟨rfl, hb⟩
  have E5 := Lib.hid (E4.out.next hb)
  clear hb
  obtain ⟨⟨⟨bown_0, bown_1, bown_2, bown_3, bown_4, bown_5, -⟩, bown_l⟩, -, -, -, -, -⟩ := E5.out.now
  go_wp2_with fail
  clear bown_0 bown_1 bown_2 bown_3 bown_4 bown_5 bown_l
  refine (HA2.out h1 _ E5.out.now.2.2.2.1 (SOwn.rd E5.out.now.2.1)).mono ?_
  rintro e w6 ⟨rfl, hb⟩
  have E6 := Lib.hid (E5.out.next hb)
  clear hb
  obtain ⟨-, -, ⟨⟨bs_0, bs_1, bs_2, bs_3, bs_4, bs_5, -⟩, bs_l⟩, -, -, -⟩ := E6.out.now
  go_wp2_with fail
  clear bs_0 bs_1 bs_2 bs_3 bs_4 bs_5 bs_l
  refine (HB2.out _ E6.out.now.2.2.2.2.1).mono ?_
  rintro e w7 ⟨rfl, hb⟩
  have E7 := Lib.hid (E6.out.next hb)
  clear hb
  obtain ⟨⟨⟨bown_0, bown_1, bown_2, bown_3, bown_4, bown_5, -⟩, bown_l⟩, -, -, -, -, -⟩ := E7.out.now
  go_wp2_with fail
  clear bown_0 bown_1 bown_2 bown_3 bown_4 bown_5 bown_l
  refine (HA3.out h1 _ E7.out.now.2.2.2.1 (SOwn.rd E7.out.now.2.1)).mono ?_
  rintro e w8 ⟨rfl, hb⟩
  have E8 := Lib.hid (E7.out.next hb)
  clear hb
  obtain ⟨-, -, ⟨⟨bs_0, bs_1, bs_2, bs_3, bs_4, bs_5, -⟩, bs_l⟩, -, -, -⟩ := E8.out.now
  go_wp2_with fail
  clear bs_0 bs_1 bs_2 bs_3 bs_4 bs_5 bs_l
  refine (HB3.out _ E8.out.now.2.2.2.2.1).mono ?_
  rintro e w9 ⟨rfl, hb⟩
  have E9 := Lib.hid (E8.out.next hb)
  clear hb
  obtain ⟨⟨⟨bown_0, bown_1, bown_2, bown_3, bown_4, bown_5, -⟩, bown_l⟩, -, -, -, -, -⟩ := E9.out.now
  go_wp2_with fail
  clear bown_0 bown_1 bown_2 bown_3 bown_4 bown_5 bown_l
  refine (HA4.out h1 _ E9.out.now.2.2.2.1 (SOwn.rd E9.out.now.2.1)).mono ?_
  rintro e w10 ⟨rfl, hb⟩
  have E10 := Lib.hid (E9.out.next hb)
  clear hb
  obtain ⟨-, -, ⟨⟨bs_0, bs_1, bs_2, bs_3, bs_4, bs_5, -⟩, bs_l⟩, -, -, -⟩ := E10.out.now
  go_wp2_with fail
  clear bs_0 bs_1 bs_2 bs_3 bs_4 bs_5 bs_l
  refine (HB4.out _ E10.out.now.2.2.2.2.1).mono ?_
  rintro e w11 ⟨rfl, hb⟩
  have E11 := Lib.hid (E10.out.next hb)
  clear hb
  go_wp2_with fail
  refine region_qb' w11 w11.heap.size (Below.refl _ _) mixed' (by kernel_rfl) fun w12 hB hz => ?_
  have E12 := Lib.hid (E11.out.next hB)
  clear hB hz
  have EC := Lib.hid (fun d os => E12.out.next (below_regrown w12 d os))
  obtain ⟨⟨⟨bown_0, bown_1, bown_2, bown_3, bown_4, bown_5, -⟩, bown_l⟩, -, ⟨⟨bs_0, bs_1, bs_2, bs_3, bs_4, bs_5, -⟩, bs_l⟩, -, -, -⟩ := E12.out.now
  have qbs_0 := cell_regrown bs_0
  have qbs_1 := cell_regrown bs_1
  have qbs_2 := cell_regrown bs_2
  have qbs_3 := cell_regrown bs_3
  have qbs_4 := cell_regrown bs_4
  have qbs_5 := cell_regrown bs_5
  have qbown_0 := cell_regrown bown_0
  have qbown_1 := cell_regrown bown_1
  have qbown_2 := cell_regrown bown_2
  have qbown_3 := cell_regrown bown_3
  have qbown_4 := cell_regrown bown_4
  have qbown_5 := cell_regrown bown_5
  clear bs_0 bs_1 bs_2 bs_3 bs_4 bs_5 bs_l bown_0 bown_1 bown_2 bown_3 bown_4 bown_5 bown_l
  repeat (go_big_quiet_step (fail))
  go_big_quiet_step (exact Calls.regrown_of (HC1.out h1 _ (SOwn.rd (EC.out _ _).now.2.1)))
  repeat (go_big_quiet_step (fail))
  go_big_quiet_step (exact Calls.regrown_of (HC2.out _ (EC.out _ _).now.2.2.2.2.1))
  repeat (go_big_quiet_step (fail))
  refine wpQuiet_nil ?_
  rintro _ ⟨⟨dq, osq⟩, rfl⟩
  have E13 := Lib.hid (EC.out dq osq)
  generalize grow (redrawn w12 dq) osq = w13 at *
  clear EC qbs_0 qbs_1 qbs_2 qbs_3 qbs_4 qbs_5 qbown_0 qbown_1 qbown_2 qbown_3 qbown_4 qbown_5
  obtain ⟨⟨⟨bown_0, bown_1, bown_2, bown_3, bown_4, bown_5, -⟩, bown_l⟩, -, ⟨⟨bs_0, bs_1, bs_2, bs_3, bs_4, bs_5, -⟩, bs_l⟩, -, -, -⟩ := E13.out.now
  go_wp2_with fail
  clear bs_0 bs_1 bs_2 bs_3 bs_4 bs_5 bs_l bown_0 bown_1 bown_2 bown_3 bown_4 bown_5 bown_l
  refine (HSO.out h1 h _ (SOwn.rd E13.out.now.2.1) E13.out.now.2.2.2.2.1).mono ?_
  rintro e w14 ⟨rfl, hb⟩
  have E14 := Lib.hid (E13.out.next hb)
  clear hb
  go_wp2_with fail
  go_ret
  exact ⟨by simp, E14.out.now.2.2.2.2.2⟩
end Go.Proofs.YtljfbhkoppahaaaDoor.Seek
