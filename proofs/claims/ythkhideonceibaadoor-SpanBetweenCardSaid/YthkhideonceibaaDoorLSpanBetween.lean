/- The law SpanBetween: its walk. -/
import Derived.Test.YthkhideonceibaaDoorMaq
set_option linter.unusedSimpArgs false
set_option linter.unusedVariables false
namespace Go.Proofs.YthkhideonceibaaDoor.Span
open Go.RowKit Go.Shelf Go.Sort Go.Proofs.YthkhideonceibaaDoor Go.Proofs.YthkhideonceibaaDoor.Occ Go.Proofs.YthkhideonceibaaDoor.Slo Go.Proofs.YthkhideonceibaaDoor.Seek
attribute [local go_sem] sval Oper.semAt_some

set_option maxRecDepth 100000 in
set_option maxHeartbeats 16000000 in
theorem spanBetween (x : In) (key : Int) (w : World) (wx : x.Ok w) (wk : (Lit.int .i64 key).wf = true) (hT : Tab w) :
    Calls Tryd.prog 5 #[x.val, .int .i64 key] w fun e w' => e = .returned (.bool true) ∧ Below w.heap.size w w' := by
  obtain ⟨s, h, e1, S⟩ := wx.open
  rw [e1]
  have HS := Lib.hid S
  have HT := Lib.hid hT
  clear S e1 wx wk x hT
  have HG1 := Lib.hid (fun w1 => Great_any s h 600 w1)
  have HAL := Lib.hid (fun w1 hT => alive_any w1 hT)
  have hgd : Tryd.prog.eqGuardType Tryd.prog.depth 38 = false := by kernel_rfl
  have E0 := Lib.hid (((((St.below' (allocS_below w s h))).and (St.rd (HS.out.rd.next (allocS_below w s h)))).and ((St.tab HT.out).next (allocS_below w s h))).and (St.bs (allocS_bs w s h)))
  cases hg1 : greatB s 600
  case true =>
    rw [hg1] at HG1
    clear hg1
    go_enter Tryd.func5, Tryd.ntmps5
    go_wp2_with fail
    rw [allocS_fold]
    generalize allocS w s h = w0 at *
    refine (HAL.out _ E0.out.now.2.1).mono ?_
    rintro e w1 ⟨rfl, hb⟩
    have E1 := Lib.hid (E0.out.next hb)
    clear hb
    obtain ⟨⟨⟨bs_0, bs_1, bs_2, bs_3, bs_4, bs_5, -⟩, bs_l⟩, -, -, -⟩ := E1.out.now
    go_wp2_with fail
    clear bs_0 bs_1 bs_2 bs_3 bs_4 bs_5 bs_l
    refine (HG1.out _).mono ?_
    rintro e w2 ⟨rfl, hb⟩
    have E2 := Lib.hid (E1.out.next hb)
    clear hb
    go_wp2
    go_ret
    exact ⟨rfl, E2.out.now.2.2.2⟩
  rw [hg1] at HG1
  have hls := greatB_no (m := 600) hg1
  obtain ⟨hl1, hl2, hl3, hl4⟩ := hls
  have HW := Lib.hid (HS.out.wf ⟨by omega, by omega, by omega, by omega⟩)
  clear hg1 hl1 hl2 hl3 hl4
  by_cases hk : chkK s = 0
  · have hrank : rankV s key = ((bel (allP s) key : Int), 0) := if_pos hk
    have hsm := allP_small hk
    have hbl := bel_le (allP s) key
    rcases betw_of (key := key) hk with ⟨y, hF, hC⟩ | ⟨a1, a2, f, b1, b2, g, i, j, hB⟩
    · have H1 := Lib.hid (fun w1 (T : Tab w1) (R : SRd w1 s h) => Rank_any s h key w1 T HW.out R)
      rw [hrank] at H1
      have H2 := Lib.hid (fun w1 (T : Tab w1) (R : SRd w1 s h) => Floor_any s h key w1 T HW.out R)
      rw [hF] at H2
      unfold AnsP1 at H2
      dsimp only at H2
      have H3 := Lib.hid (fun w1 (T : Tab w1) (R : SRd w1 s h) => Ceiling_any s h key w1 T HW.out R)
      rw [hC] at H3
      unfold AnsP1 at H3
      dsimp only at H3
      clear hF hC hrank hk
      generalize bel (allP s) key = b at *
      clear hsm hbl
      go_enter Tryd.func5, Tryd.ntmps5
      go_wp2_with fail
      rw [allocS_fold]
      generalize allocS w s h = w0 at *
      refine (HAL.out _ E0.out.now.2.1).mono ?_
      rintro e w1 ⟨rfl, hb⟩
      have E1 := Lib.hid (E0.out.next hb)
      clear hb
      obtain ⟨⟨⟨bs_0, bs_1, bs_2, bs_3, bs_4, bs_5, -⟩, bs_l⟩, -, -, -⟩ := E1.out.now
      go_wp2_with fail
      clear bs_0 bs_1 bs_2 bs_3 bs_4 bs_5 bs_l
      refine (HG1.out _).mono ?_
      rintro e w2 ⟨rfl, hb⟩
      have E2 := Lib.hid (E1.out.next hb)
      clear hb
      clear HAL HG1
      obtain ⟨⟨⟨bs_0, bs_1, bs_2, bs_3, bs_4, bs_5, -⟩, bs_l⟩, -, -, -⟩ := E2.out.now
      go_wp2_with fail
      clear bs_0 bs_1 bs_2 bs_3 bs_4 bs_5 bs_l
      refine (H1.out _ E2.out.now.2.1 E2.out.now.2.2.1).mono ?_
      rintro e w3 ⟨rfl, hb⟩
      have E3 := Lib.hid (E2.out.next hb)
      clear hb
      obtain ⟨⟨⟨bs_0, bs_1, bs_2, bs_3, bs_4, bs_5, -⟩, bs_l⟩, -, -, -⟩ := E3.out.now
      go_wp2_with fail
      clear bs_0 bs_1 bs_2 bs_3 bs_4 bs_5 bs_l
      refine (H2.out _ E3.out.now.2.1 E3.out.now.2.2.1).mono ?_
      rintro e w4 ⟨rfl, hb⟩
      have E4 := Lib.hid (E3.out.next hb)
      clear hb
      obtain ⟨⟨⟨bs_0, bs_1, bs_2, bs_3, bs_4, bs_5, -⟩, bs_l⟩, -, -, -⟩ := E4.out.now
      go_wp2_with fail
      clear bs_0 bs_1 bs_2 bs_3 bs_4 bs_5 bs_l
      rw [allocP_fold]
      have E5 := Lib.hid ((E4.out.next (allocP_below w4 key y)).and (St.bp (allocP_bp w4 key y)))
      generalize allocP w4 key y = w5 at *
      refine (H3.out _ E5.out.now.2.2.1 E5.out.now.2.2.2.1).mono ?_
      rintro e w6 ⟨rfl, hb⟩
      have E6 := Lib.hid (E5.out.next hb)
      clear hb
      clear H1 H2 H3
      have hqp : ∀ w : World, (Op.equalIn 10000 38 (.agg #[.int .i64 key, .int .i64 y]) (.agg #[.int .i64 key, .int .i64 y])).run Tryd.prog w = .ok true w := fun w => by rw [run_equal_pair]; simp
      obtain ⟨⟨⟨ba_0, ba_1, -⟩, ba_l⟩, -, -, -, -⟩ := E6.out.now
      go_wp2_with fail
      go_ret
      exact ⟨by simp, (E6.out.now.2.2.2.2).alloc (E6.out.now.2.2.2.2).size _⟩
    · have N := Lib.hid hB
      clear hB
      have H1 := Lib.hid (fun w1 (T : Tab w1) (R : SRd w1 s h) => Rank_any s h key w1 T HW.out R)
      rw [hrank] at H1
      have H2 := Lib.hid (fun w1 (T : Tab w1) (R : SRd w1 s h) => Floor_any s h key w1 T HW.out R)
      rw [N.out.floor] at H2
      unfold AnsP1 at H2
      dsimp only at H2
      have H3 := Lib.hid (fun w1 (T : Tab w1) (R : SRd w1 s h) => Ceiling_any s h key w1 T HW.out R)
      rw [N.out.ceil] at H3
      unfold AnsP1 at H3
      dsimp only at H3
      have H4 := Lib.hid (fun w1 (T : Tab w1) (R : SRd w1 s h) => Select_any s h ((bel (allP s) key : Int) - 1) (by omega) w1 T HW.out R)
      rw [N.out.lo] at H4
      unfold AnsP1 at H4
      dsimp only at H4
      have H5 := Lib.hid (fun w1 (T : Tab w1) (R : SRd w1 s h) => Select_any s h (bel (allP s) key : Int) (by omega) w1 T HW.out R)
      rw [N.out.hi] at H5
      unfold AnsP1 at H5
      dsimp only at H5
      have HA := Lib.hid N.out.a
      have HB := Lib.hid N.out.b
      clear N hrank hk
      generalize bel (allP s) key = b at *
      have wr : IntKind.i64.wrap ((b : Int) - 1) = (b : Int) - 1 := by rw [IntKind.wrap_i64]; omega
      clear hsm hbl
      go_enter Tryd.func5, Tryd.ntmps5
      go_wp2_with fail
      rw [allocS_fold]
      generalize allocS w s h = w0 at *
      refine (HAL.out _ E0.out.now.2.1).mono ?_
      rintro e w1 ⟨rfl, hb⟩
      have E1 := Lib.hid (E0.out.next hb)
      clear hb
      obtain ⟨⟨⟨bs_0, bs_1, bs_2, bs_3, bs_4, bs_5, -⟩, bs_l⟩, -, -, -⟩ := E1.out.now
      go_wp2_with fail
      clear bs_0 bs_1 bs_2 bs_3 bs_4 bs_5 bs_l
      refine (HG1.out _).mono ?_
      rintro e w2 ⟨rfl, hb⟩
      have E2 := Lib.hid (E1.out.next hb)
      clear hb
      clear HAL HG1
      obtain ⟨⟨⟨bs_0, bs_1, bs_2, bs_3, bs_4, bs_5, -⟩, bs_l⟩, -, -, -⟩ := E2.out.now
      go_wp2_with fail
      clear bs_0 bs_1 bs_2 bs_3 bs_4 bs_5 bs_l
      refine (H1.out _ E2.out.now.2.1 E2.out.now.2.2.1).mono ?_
      rintro e w3 ⟨rfl, hb⟩
      have E3 := Lib.hid (E2.out.next hb)
      clear hb
      obtain ⟨⟨⟨bs_0, bs_1, bs_2, bs_3, bs_4, bs_5, -⟩, bs_l⟩, -, -, -⟩ := E3.out.now
      go_wp2_with fail
      clear bs_0 bs_1 bs_2 bs_3 bs_4 bs_5 bs_l
      refine (H2.out _ E3.out.now.2.1 E3.out.now.2.2.1).mono ?_
      rintro e w4 ⟨rfl, hb⟩
      have E4 := Lib.hid (E3.out.next hb)
      clear hb
      obtain ⟨⟨⟨bs_0, bs_1, bs_2, bs_3, bs_4, bs_5, -⟩, bs_l⟩, -, -, -⟩ := E4.out.now
      go_wp2_with fail
      clear bs_0 bs_1 bs_2 bs_3 bs_4 bs_5 bs_l
      rw [allocP_fold]
      have E5 := Lib.hid ((E4.out.next (allocP_below w4 a1 a2)).and (St.bp (allocP_bp w4 a1 a2)))
      generalize allocP w4 a1 a2 = w5 at *
      refine (H3.out _ E5.out.now.2.2.1 E5.out.now.2.2.2.1).mono ?_
      rintro e w6 ⟨rfl, hb⟩
      have E6 := Lib.hid (E5.out.next hb)
      clear hb
      clear H1 H2 H3
      have hqa : ∀ w : World, (Op.equalIn 10000 38 (.agg #[.int .i64 a1, .int .i64 a2]) (.agg #[.int .i64 a1, .int .i64 a2])).run Tryd.prog w = .ok true w := fun w => by rw [run_equal_pair]; simp
      have hqb : ∀ w : World, (Op.equalIn 10000 38 (.agg #[.int .i64 b1, .int .i64 b2]) (.agg #[.int .i64 b1, .int .i64 b2])).run Tryd.prog w = .ok true w := fun w => by rw [run_equal_pair]; simp
      rcases HA.out with ⟨rfl, rfl, ha⟩ | ⟨rfl, rfl⟩
      · rcases HB.out with ⟨rfl, rfl, hb⟩ | ⟨rfl, rfl⟩
        · have hqn : ∀ w : World, (Op.equalIn 10000 38 (.agg #[.int .i64 a1, .int .i64 a2]) (.agg #[.int .i64 b1, .int .i64 b2])).run Tryd.prog w = .ok false w := fun w => by rw [run_equal_pair]; simp; omega
          have t1 : decide (a1 < key) = true := by simpa using ha
          clear ha
          have t2 : decide (key < b1) = true := by simpa using hb
          clear hb
          clear HA HB
          obtain ⟨⟨⟨ba_0, ba_1, -⟩, ba_l⟩, ⟨⟨bs_0, bs_1, bs_2, bs_3, bs_4, bs_5, -⟩, bs_l⟩, -, -, -⟩ := E6.out.now
          go_wp2_with fail
          clear bs_0 bs_1 bs_2 bs_3 bs_4 bs_5 bs_l ba_0 ba_1 ba_l
          rw [allocP_fold]
          have E7 := Lib.hid ((E6.out.next (allocP_below w6 b1 b2)).and (St.bp (allocP_bp w6 b1 b2)))
          generalize allocP w6 b1 b2 = w7 at *
          refine (H4.out _ E7.out.now.2.2.2.1 E7.out.now.2.2.2.2.1).mono ?_
          rintro e w8 ⟨rfl, hb⟩
          have E8 := Lib.hid (E7.out.next hb)
          clear hb
          obtain ⟨-, -, ⟨⟨bs_0, bs_1, bs_2, bs_3, bs_4, bs_5, -⟩, bs_l⟩, -, -, -⟩ := E8.out.now
          go_wp2_with fail
          clear bs_0 bs_1 bs_2 bs_3 bs_4 bs_5 bs_l
          rw [allocP_fold]
          have E9 := Lib.hid ((E8.out.next (allocP_below w8 a1 a2)).and (St.bp (allocP_bp w8 a1 a2)))
          generalize allocP w8 a1 a2 = w9 at *
          refine (H5.out _ E9.out.now.2.2.2.2.1 E9.out.now.2.2.2.2.2.1).mono ?_
          rintro e w10 ⟨rfl, hb⟩
          have E10 := Lib.hid (E9.out.next hb)
          clear hb
          clear H4 H5
          obtain ⟨⟨⟨bx_0, bx_1, -⟩, bx_l⟩, ⟨⟨bb_0, bb_1, -⟩, bb_l⟩, ⟨⟨ba_0, ba_1, -⟩, ba_l⟩, -, -, -, -⟩ := E10.out.now
          go_wp2_with fail
          go_ret
          exact ⟨by simp, (E10.out.now.2.2.2.2.2.2).alloc (E10.out.now.2.2.2.2.2.2).size _⟩
        · have t1 : decide (a1 < key) = true := by simpa using ha
          clear ha
          clear HA HB
          obtain ⟨⟨⟨ba_0, ba_1, -⟩, ba_l⟩, ⟨⟨bs_0, bs_1, bs_2, bs_3, bs_4, bs_5, -⟩, bs_l⟩, -, -, -⟩ := E6.out.now
          go_wp2_with fail
          clear bs_0 bs_1 bs_2 bs_3 bs_4 bs_5 bs_l ba_0 ba_1 ba_l
          rw [allocP_fold]
          have E7 := Lib.hid ((E6.out.next (allocP_below w6 b1 b2)).and (St.bp (allocP_bp w6 b1 b2)))
          generalize allocP w6 b1 b2 = w7 at *
          refine (H4.out _ E7.out.now.2.2.2.1 E7.out.now.2.2.2.2.1).mono ?_
          rintro e w8 ⟨rfl, hb⟩
          have E8 := Lib.hid (E7.out.next hb)
          clear hb
          obtain ⟨-, -, ⟨⟨bs_0, bs_1, bs_2, bs_3, bs_4, bs_5, -⟩, bs_l⟩, -, -, -⟩ := E8.out.now
          go_wp2_with fail
          clear bs_0 bs_1 bs_2 bs_3 bs_4 bs_5 bs_l
          rw [allocP_fold]
          have E9 := Lib.hid ((E8.out.next (allocP_below w8 a1 a2)).and (St.bp (allocP_bp w8 a1 a2)))
          generalize allocP w8 a1 a2 = w9 at *
          refine (H5.out _ E9.out.now.2.2.2.2.1 E9.out.now.2.2.2.2.2.1).mono ?_
          rintro e w10 ⟨rfl, hb⟩
          have E10 := Lib.hid (E9.out.next hb)
          clear hb
          clear H4 H5
          obtain ⟨⟨⟨bx_0, bx_1, -⟩, bx_l⟩, ⟨⟨bb_0, bb_1, -⟩, bb_l⟩, ⟨⟨ba_0, ba_1, -⟩, ba_l⟩, -, -, -, -⟩ := E10.out.now
          go_wp2_with fail
          go_ret
          exact ⟨by simp, (E10.out.now.2.2.2.2.2.2).alloc (E10.out.now.2.2.2.2.2.2).size _⟩
      · rcases HB.out with ⟨rfl, rfl, hb⟩ | ⟨rfl, rfl⟩
        · have t2 : decide (key < b1) = true := by simpa using hb
          clear hb
          clear HA HB
          obtain ⟨⟨⟨ba_0, ba_1, -⟩, ba_l⟩, ⟨⟨bs_0, bs_1, bs_2, bs_3, bs_4, bs_5, -⟩, bs_l⟩, -, -, -⟩ := E6.out.now
          go_wp2_with fail
          clear bs_0 bs_1 bs_2 bs_3 bs_4 bs_5 bs_l ba_0 ba_1 ba_l
          rw [allocP_fold]
          have E7 := Lib.hid ((E6.out.next (allocP_below w6 b1 b2)).and (St.bp (allocP_bp w6 b1 b2)))
          generalize allocP w6 b1 b2 = w7 at *
          refine (H4.out _ E7.out.now.2.2.2.1 E7.out.now.2.2.2.2.1).mono ?_
          rintro e w8 ⟨rfl, hb⟩
          have E8 := Lib.hid (E7.out.next hb)
          clear hb
          obtain ⟨-, -, ⟨⟨bs_0, bs_1, bs_2, bs_3, bs_4, bs_5, -⟩, bs_l⟩, -, -, -⟩ := E8.out.now
          go_wp2_with fail
          clear bs_0 bs_1 bs_2 bs_3 bs_4 bs_5 bs_l
          rw [allocP_fold]
          have E9 := Lib.hid ((E8.out.next (allocP_below w8 a1 a2)).and (St.bp (allocP_bp w8 a1 a2)))
          generalize allocP w8 a1 a2 = w9 at *
          refine (H5.out _ E9.out.now.2.2.2.2.1 E9.out.now.2.2.2.2.2.1).mono ?_
          rintro e w10 ⟨rfl, hb⟩
          have E10 := Lib.hid (E9.out.next hb)
          clear hb
          clear H4 H5
          obtain ⟨⟨⟨bx_0, bx_1, -⟩, bx_l⟩, ⟨⟨bb_0, bb_1, -⟩, bb_l⟩, ⟨⟨ba_0, ba_1, -⟩, ba_l⟩, -, -, -, -⟩ := E10.out.now
          go_wp2_with fail
          go_ret
          exact ⟨by simp, (E10.out.now.2.2.2.2.2.2).alloc (E10.out.now.2.2.2.2.2.2).size _⟩
        · clear HA HB
          obtain ⟨⟨⟨ba_0, ba_1, -⟩, ba_l⟩, ⟨⟨bs_0, bs_1, bs_2, bs_3, bs_4, bs_5, -⟩, bs_l⟩, -, -, -⟩ := E6.out.now
          go_wp2_with fail
          clear bs_0 bs_1 bs_2 bs_3 bs_4 bs_5 bs_l ba_0 ba_1 ba_l
          rw [allocP_fold]
          have E7 := Lib.hid ((E6.out.next (allocP_below w6 b1 b2)).and (St.bp (allocP_bp w6 b1 b2)))
          generalize allocP w6 b1 b2 = w7 at *
          refine (H4.out _ E7.out.now.2.2.2.1 E7.out.now.2.2.2.2.1).mono ?_
          rintro e w8 ⟨rfl, hb⟩
          have E8 := Lib.hid (E7.out.next hb)
          clear hb
          obtain ⟨-, -, ⟨⟨bs_0, bs_1, bs_2, bs_3, bs_4, bs_5, -⟩, bs_l⟩, -, -, -⟩ := E8.out.now
          go_wp2_with fail
          clear bs_0 bs_1 bs_2 bs_3 bs_4 bs_5 bs_l
          rw [allocP_fold]
          have E9 := Lib.hid ((E8.out.next (allocP_below w8 a1 a2)).and (St.bp (allocP_bp w8 a1 a2)))
          generalize allocP w8 a1 a2 = w9 at *
          refine (H5.out _ E9.out.now.2.2.2.2.1 E9.out.now.2.2.2.2.2.1).mono ?_
          rintro e w10 ⟨rfl, hb⟩
          have E10 := Lib.hid (E9.out.next hb)
          clear hb
          clear H4 H5
          obtain ⟨⟨⟨bx_0, bx_1, -⟩, bx_l⟩, ⟨⟨bb_0, bb_1, -⟩, bb_l⟩, ⟨⟨ba_0, ba_1, -⟩, ba_l⟩, -, -, -, -⟩ := E10.out.now
          go_wp2_with fail
          go_ret
          exact ⟨by simp, (E10.out.now.2.2.2.2.2.2).alloc (E10.out.now.2.2.2.2.2.2).size _⟩
  · have hR : rankV s key = (0, chkK s) := if_neg hk
    have hF : floorV s key = ((0, 0), chkK s) := if_neg hk
    have hC : ceilV s key = ((0, 0), chkK s) := if_neg hk
    have H1 := Lib.hid (fun w1 (T : Tab w1) (R : SRd w1 s h) => Rank_any s h key w1 T HW.out R)
    rw [hR] at H1
    have H2 := Lib.hid (fun w1 (T : Tab w1) (R : SRd w1 s h) => Floor_any s h key w1 T HW.out R)
    rw [hF] at H2
    unfold AnsP1 at H2
    dsimp only at H2
    have H3 := Lib.hid (fun w1 (T : Tab w1) (R : SRd w1 s h) => Ceiling_any s h key w1 T HW.out R)
    rw [hC] at H3
    unfold AnsP1 at H3
    dsimp only at H3
    have hne : (chkK s != 0) = true := by rw [bne_iff_ne]; exact hk
    clear hR hF hC hk
    generalize chkK s = c at *
    go_enter Tryd.func5, Tryd.ntmps5
    go_wp2_with fail
    rw [allocS_fold]
    generalize allocS w s h = w0 at *
    refine (HAL.out _ E0.out.now.2.1).mono ?_
    rintro e w1 ⟨rfl, hb⟩
    have E1 := Lib.hid (E0.out.next hb)
    clear hb
    obtain ⟨⟨⟨bs_0, bs_1, bs_2, bs_3, bs_4, bs_5, -⟩, bs_l⟩, -, -, -⟩ := E1.out.now
    go_wp2_with fail
    clear bs_0 bs_1 bs_2 bs_3 bs_4 bs_5 bs_l
    refine (HG1.out _).mono ?_
    rintro e w2 ⟨rfl, hb⟩
    have E2 := Lib.hid (E1.out.next hb)
    clear hb
    clear HAL HG1
    obtain ⟨⟨⟨bs_0, bs_1, bs_2, bs_3, bs_4, bs_5, -⟩, bs_l⟩, -, -, -⟩ := E2.out.now
    go_wp2_with fail
    clear bs_0 bs_1 bs_2 bs_3 bs_4 bs_5 bs_l
    refine (H1.out _ E2.out.now.2.1 E2.out.now.2.2.1).mono ?_
    rintro e w3 ⟨rfl, hb⟩
    have E3 := Lib.hid (E2.out.next hb)
    clear hb
    obtain ⟨⟨⟨bs_0, bs_1, bs_2, bs_3, bs_4, bs_5, -⟩, bs_l⟩, -, -, -⟩ := E3.out.now
    go_wp2_with fail
    clear bs_0 bs_1 bs_2 bs_3 bs_4 bs_5 bs_l
    refine (H2.out _ E3.out.now.2.1 E3.out.now.2.2.1).mono ?_
    rintro e w4 ⟨rfl, hb⟩
    have E4 := Lib.hid (E3.out.next hb)
    clear hb
    obtain ⟨⟨⟨bs_0, bs_1, bs_2, bs_3, bs_4, bs_5, -⟩, bs_l⟩, -, -, -⟩ := E4.out.now
    go_wp2_with fail
    clear bs_0 bs_1 bs_2 bs_3 bs_4 bs_5 bs_l
    rw [allocP_fold]
    have E5 := Lib.hid ((E4.out.next (allocP_below w4 0 0)).and (St.bp (allocP_bp w4 0 0)))
    generalize allocP w4 0 0 = w5 at *
    refine (H3.out _ E5.out.now.2.2.1 E5.out.now.2.2.2.1).mono ?_
    rintro e w6 ⟨rfl, hb⟩
    have E6 := Lib.hid (E5.out.next hb)
    clear hb
    clear H1 H2 H3
    go_wp2_with fail
    go_ret
    exact ⟨by simp, (E6.out.now.2.2.2.2).alloc (E6.out.now.2.2.2.2).size _⟩
end Go.Proofs.YthkhideonceibaaDoor.Span
