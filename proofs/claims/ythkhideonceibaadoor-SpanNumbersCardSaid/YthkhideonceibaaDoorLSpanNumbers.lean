/- The law SpanNumbers: its walk. -/
import Derived.Test.YthkhideonceibaaDoorMaq
set_option linter.unusedSimpArgs false
set_option linter.unusedVariables false
namespace Go.Proofs.YthkhideonceibaaDoor.Span
open Go.RowKit Go.Shelf Go.Sort Go.Proofs.YthkhideonceibaaDoor Go.Proofs.YthkhideonceibaaDoor.Occ Go.Proofs.YthkhideonceibaaDoor.Slo Go.Proofs.YthkhideonceibaaDoor.Seek
attribute [local go_sem] sval Oper.semAt_some

set_option maxRecDepth 100000 in
set_option maxHeartbeats 16000000 in
theorem spanNumbers (x : In) (k : Int) (w : World) (wx : x.Ok w) (wk : (Lit.int .i64 k).wf = true) (hT : Tab w) :
    Calls Tryd.prog 8 #[x.val, .int .i64 k] w fun e w' => e = .returned (.bool true) ∧ Below w.heap.size w w' := by
  obtain ⟨s, h, e1, S⟩ := wx.open
  rw [e1]
  have hk9 : k ≤ 9223372036854775807 := by simp [Lit.wf, IntKind.min, IntKind.max, IntKind.signed, IntKind.bits] at wk; omega
  have HK9 := Lib.hid hk9
  clear hk9
  have HS := Lib.hid S
  have HT := Lib.hid hT
  clear S e1 wx wk x hT
  have HG1 := Lib.hid (fun w1 => Great_any s h 600 w1)
  have HAL := Lib.hid (fun w1 hT => alive_any w1 hT)
  have hgd : Tryd.prog.eqGuardType Tryd.prog.depth 38 = false := by kernel_rfl
  have E0 := Lib.hid (((((St.below' (allocS_below w s h))).and (St.rd (HS.out.rd.next (allocS_below w s h)))).and ((St.tab HT.out).next (allocS_below w s h))).and (St.bs (allocS_bs w s h)))
  cases hg1 : greatB s 600
  case true =>
    rw [hg1] at HG1
    clear hg1
    go_enter Tryd.func8, Tryd.ntmps8
    go_wp2_with fail
    rw [allocS_fold]
    generalize allocS w s h = w0 at *
    refine (HAL.out _ E0.out.now.2.1).mono ?_
    rintro e w1 ⟨rfl, hb⟩
    have E1 := Lib.hid (E0.out.next hb)
    clear hb
    obtain ⟨⟨⟨bs_0, bs_1, bs_2, bs_3, bs_4, bs_5, -⟩, bs_l⟩, -, -, -⟩ := E1.out.now
    go_wp2_with fail
    clear bs_0 bs_1 bs_2 bs_3 bs_4 bs_5 bs_l
    refine (HG1.out _).mono ?_
    rintro e w2 ⟨rfl, hb⟩
    have E2 := Lib.hid (E1.out.next hb)
    clear hb
    go_wp2
    go_ret
    exact ⟨rfl, E2.out.now.2.2.2⟩
  rw [hg1] at HG1
  have hls := greatB_no (m := 600) hg1
  obtain ⟨hl1, hl2, hl3, hl4⟩ := hls
  have HW := Lib.hid (HS.out.wf ⟨by omega, by omega, by omega, by omega⟩)
  clear hg1 hl1 hl2 hl3 hl4
  by_cases hin : chkK s = 0 ∧ 0 ≤ k ∧ k < ((allP s).length : Int)
  · obtain ⟨p1, p2, c1, c2, d1, d2, u, v, m, hN⟩ := nums_of hin.1 hin.2
    have N := Lib.hid hN
    clear hN hin
    have H1 := Lib.hid (fun w1 (T : Tab w1) (R : SRd w1 s h) => Select_any s h k HK9.out w1 T HW.out R)
    rw [N.out.sel] at H1
    unfold AnsP1 at H1
    dsimp only at H1
    have H2 := Lib.hid (fun w1 (T : Tab w1) (R : SRd w1 s h) => Rank_any s h p1 w1 T HW.out R)
    rw [N.out.rank] at H2
    have H3 := Lib.hid (fun w1 (T : Tab w1) (R : SRd w1 s h) => Floor_any s h p1 w1 T HW.out R)
    rw [N.out.floor] at H3
    unfold AnsP1 at H3
    dsimp only at H3
    have H4 := Lib.hid (fun w1 (T : Tab w1) (R : SRd w1 s h) => Ceiling_any s h p1 w1 T HW.out R)
    rw [N.out.ceil] at H4
    unfold AnsP1 at H4
    dsimp only at H4
    have H5 := Lib.hid (fun w1 (T : Tab w1) (R : SRd w1 s h) => Min_any s h w1 T HW.out R)
    rw [N.out.min] at H5
    unfold AnsP1 at H5
    dsimp only at H5
    have H6 := Lib.hid (fun w1 (T : Tab w1) (R : SRd w1 s h) => Max_any s h w1 T HW.out R)
    rw [N.out.max] at H6
    unfold AnsP1 at H6
    dsimp only at H6
    have H7 := Lib.hid (fun w1 (T : Tab w1) (R : SRd w1 s h) => Select_any s h (k + 1) N.out.k9 w1 T HW.out R)
    rw [N.out.nxt] at H7
    unfold AnsP1 at H7
    dsimp only at H7
    have wr := N.out.wr
    have HCC := Lib.hid N.out.c
    have HDD := Lib.hid N.out.d
    clear N HK9
    go_enter Tryd.func8, Tryd.ntmps8
    go_wp2_with fail
    rw [allocS_fold]
    generalize allocS w s h = w0 at *
    refine (HAL.out _ E0.out.now.2.1).mono ?_
    rintro e w1 ⟨rfl, hb⟩
    have E1 := Lib.hid (E0.out.next hb)
    clear hb
    obtain ⟨⟨⟨bs_0, bs_1, bs_2, bs_3, bs_4, bs_5, -⟩, bs_l⟩, -, -, -⟩ := E1.out.now
    go_wp2_with fail
    clear bs_0 bs_1 bs_2 bs_3 bs_4 bs_5 bs_l
    refine (HG1.out _).mono ?_
    rintro e w2 ⟨rfl, hb⟩
    have E2 := Lib.hid (E1.out.next hb)
    clear hb
    clear HAL HG1
    obtain ⟨⟨⟨bs_0, bs_1, bs_2, bs_3, bs_4, bs_5, -⟩, bs_l⟩, -, -, -⟩ := E2.out.now
    go_wp2_with fail
    clear bs_0 bs_1 bs_2 bs_3 bs_4 bs_5 bs_l
    refine (H1.out _ E2.out.now.2.1 E2.out.now.2.2.1).mono ?_
    rintro e w3 ⟨rfl, hb⟩
    have E3 := Lib.hid (E2.out.next hb)
    clear hb
    obtain ⟨⟨⟨bs_0, bs_1, bs_2, bs_3, bs_4, bs_5, -⟩, bs_l⟩, -, -, -⟩ := E3.out.now
    go_wp2_with fail
    clear bs_0 bs_1 bs_2 bs_3 bs_4 bs_5 bs_l
    rw [allocP_fold]
    have E4 := Lib.hid ((E3.out.next (allocP_below w3 p1 p2)).and (St.bp (allocP_bp w3 p1 p2)))
    generalize allocP w3 p1 p2 = w4 at *
    refine (H2.out _ E4.out.now.2.2.1 E4.out.now.2.2.2.1).mono ?_
    rintro e w5 ⟨rfl, hb⟩
    have E5 := Lib.hid (E4.out.next hb)
    clear hb
    obtain ⟨⟨⟨bp_0, bp_1, -⟩, bp_l⟩, ⟨⟨bs_0, bs_1, bs_2, bs_3, bs_4, bs_5, -⟩, bs_l⟩, -, -, -⟩ := E5.out.now
    go_wp2_with fail
    clear bs_0 bs_1 bs_2 bs_3 bs_4 bs_5 bs_l bp_0 bp_1 bp_l
    refine (H3.out _ E5.out.now.2.2.1 E5.out.now.2.2.2.1).mono ?_
    rintro e w6 ⟨rfl, hb⟩
    have E6 := Lib.hid (E5.out.next hb)
    clear hb
    obtain ⟨⟨⟨bp_0, bp_1, -⟩, bp_l⟩, ⟨⟨bs_0, bs_1, bs_2, bs_3, bs_4, bs_5, -⟩, bs_l⟩, -, -, -⟩ := E6.out.now
    go_wp2_with fail
    clear bs_0 bs_1 bs_2 bs_3 bs_4 bs_5 bs_l bp_0 bp_1 bp_l
    rw [allocP_fold]
    have E7 := Lib.hid ((E6.out.next (allocP_below w6 p1 p2)).and (St.bp (allocP_bp w6 p1 p2)))
    generalize allocP w6 p1 p2 = w7 at *
    refine (H4.out _ E7.out.now.2.2.2.1 E7.out.now.2.2.2.2.1).mono ?_
    rintro e w8 ⟨rfl, hb⟩
    have E8 := Lib.hid (E7.out.next hb)
    clear hb
    obtain ⟨-, ⟨⟨bp_0, bp_1, -⟩, bp_l⟩, ⟨⟨bs_0, bs_1, bs_2, bs_3, bs_4, bs_5, -⟩, bs_l⟩, -, -, -⟩ := E8.out.now
    go_wp2_with fail
    clear bs_0 bs_1 bs_2 bs_3 bs_4 bs_5 bs_l bp_0 bp_1 bp_l
    rw [allocP_fold]
    have E9 := Lib.hid ((E8.out.next (allocP_below w8 p1 p2)).and (St.bp (allocP_bp w8 p1 p2)))
    generalize allocP w8 p1 p2 = w9 at *
    refine (H5.out _ E9.out.now.2.2.2.2.1 E9.out.now.2.2.2.2.2.1).mono ?_
    rintro e w10 ⟨rfl, hb⟩
    have E10 := Lib.hid (E9.out.next hb)
    clear hb
    obtain ⟨-, -, ⟨⟨bp_0, bp_1, -⟩, bp_l⟩, ⟨⟨bs_0, bs_1, bs_2, bs_3, bs_4, bs_5, -⟩, bs_l⟩, -, -, -⟩ := E10.out.now
    go_wp2_with fail
    clear bs_0 bs_1 bs_2 bs_3 bs_4 bs_5 bs_l bp_0 bp_1 bp_l
    rw [allocP_fold]
    have E11 := Lib.hid ((E10.out.next (allocP_below w10 c1 c2)).and (St.bp (allocP_bp w10 c1 c2)))
    generalize allocP w10 c1 c2 = w11 at *
    refine (H6.out _ E11.out.now.2.2.2.2.2.1 E11.out.now.2.2.2.2.2.2.1).mono ?_
    rintro e w12 ⟨rfl, hb⟩
    have E12 := Lib.hid (E11.out.next hb)
    clear hb
    obtain ⟨-, -, -, ⟨⟨bp_0, bp_1, -⟩, bp_l⟩, ⟨⟨bs_0, bs_1, bs_2, bs_3, bs_4, bs_5, -⟩, bs_l⟩, -, -, -⟩ := E12.out.now
    go_wp2_with fail
    clear bs_0 bs_1 bs_2 bs_3 bs_4 bs_5 bs_l bp_0 bp_1 bp_l
    rw [allocP_fold]
    have E13 := Lib.hid ((E12.out.next (allocP_below w12 d1 d2)).and (St.bp (allocP_bp w12 d1 d2)))
    generalize allocP w12 d1 d2 = w13 at *
    refine (H7.out _ E13.out.now.2.2.2.2.2.2.1 E13.out.now.2.2.2.2.2.2.2.1).mono ?_
    rintro e w14 ⟨rfl, hb⟩
    have E14 := Lib.hid (E13.out.next hb)
    clear hb
    clear H1 H2 H3 H4 H5 H6 H7
    have hqp : ∀ w : World, (Op.equalIn 10000 38 (.agg #[.int .i64 p1, .int .i64 p2]) (.agg #[.int .i64 p1, .int .i64 p2])).run Tryd.prog w = .ok true w := fun w => by rw [run_equal_pair]; simp
    obtain ⟨⟨⟨bd_0, bd_1, -⟩, bd_l⟩, ⟨⟨bc_0, bc_1, -⟩, bc_l⟩, ⟨⟨bb_0, bb_1, -⟩, bb_l⟩, ⟨⟨ba_0, ba_1, -⟩, ba_l⟩, ⟨⟨bp_0, bp_1, -⟩, bp_l⟩, -, -, -, -⟩ := E14.out.now
    have B0 := Lib.hid E14.out.now.2.2.2.2.2.2.2.2
    clear E14
    rcases HCC.out with ⟨rfl, rfl, hk0⟩ | ⟨hc, hk0⟩
    · have t1 : (k == 0) = true := by simpa using hk0
      clear hk0 HCC
      rcases HDD.out with ⟨rfl, rfl, hm⟩ | ⟨hd, hm⟩
      · subst hm
        clear HDD
        go_wp2_with fail
        go_ret
        exact ⟨by simp, B0.out.alloc B0.out.size _⟩
      · subst hm
        clear HDD
        have hqd : ∀ w : World, (Op.equalIn 10000 38 (.agg #[.int .i64 d1, .int .i64 d2]) (.agg #[.int .i64 c1, .int .i64 c2])).run Tryd.prog w = .ok false w := fun w => by rw [run_equal_pair]; simp [hd]
        clear hd
        go_wp2_with fail
        go_ret
        exact ⟨by simp, B0.out.alloc B0.out.size _⟩
    · have t1 : (k == 0) = false := by simpa using hk0
      have hqc : ∀ w : World, (Op.equalIn 10000 38 (.agg #[.int .i64 c1, .int .i64 c2]) (.agg #[.int .i64 p1, .int .i64 p2])).run Tryd.prog w = .ok false w := fun w => by rw [run_equal_pair]; simp [hc]
      clear hk0 HCC
      rcases HDD.out with ⟨rfl, rfl, hm⟩ | ⟨hd, hm⟩
      · subst hm
        clear HDD
        go_wp2_with fail
        go_ret
        exact ⟨by simp, B0.out.alloc B0.out.size _⟩
      · subst hm
        clear HDD
        have hqd : ∀ w : World, (Op.equalIn 10000 38 (.agg #[.int .i64 d1, .int .i64 d2]) (.agg #[.int .i64 p1, .int .i64 p2])).run Tryd.prog w = .ok false w := fun w => by rw [run_equal_pair]; simp [hd]
        clear hd
        go_wp2_with fail
        go_ret
        exact ⟨by simp, B0.out.alloc B0.out.size _⟩
  · obtain ⟨c, hc, hS⟩ : ∃ c, c ≠ 0 ∧ selV s k = ((0, 0), c) := by
      by_cases hk : chkK s = 0
      · exact ⟨290, by decide, selV_out hk (fun g => hin ⟨hk, g⟩)⟩
      · exact ⟨chkK s, hk, if_neg hk⟩
    have H1 := Lib.hid (fun w1 (T : Tab w1) (R : SRd w1 s h) => Select_any s h k HK9.out w1 T HW.out R)
    rw [hS] at H1
    unfold AnsP1 at H1
    dsimp only at H1
    have hne : (c != 0) = true := by rw [bne_iff_ne]; exact hc
    clear hc hS hin HK9
    go_enter Tryd.func8, Tryd.ntmps8
    go_wp2_with fail
    rw [allocS_fold]
    generalize allocS w s h = w0 at *
    refine (HAL.out _ E0.out.now.2.1).mono ?_
    rintro e w1 ⟨rfl, hb⟩
    have E1 := Lib.hid (E0.out.next hb)
    clear hb
    obtain ⟨⟨⟨bs_0, bs_1, bs_2, bs_3, bs_4, bs_5, -⟩, bs_l⟩, -, -, -⟩ := E1.out.now
    go_wp2_with fail
    clear bs_0 bs_1 bs_2 bs_3 bs_4 bs_5 bs_l
    refine (HG1.out _).mono ?_
    rintro e w2 ⟨rfl, hb⟩
    have E2 := Lib.hid (E1.out.next hb)
    clear hb
    obtain ⟨⟨⟨bs_0, bs_1, bs_2, bs_3, bs_4, bs_5, -⟩, bs_l⟩, -, -, -⟩ := E2.out.now
    go_wp2_with fail
    clear bs_0 bs_1 bs_2 bs_3 bs_4 bs_5 bs_l
    refine (H1.out _ E2.out.now.2.1 E2.out.now.2.2.1).mono ?_
    rintro e w3 ⟨rfl, hb⟩
    have E3 := Lib.hid (E2.out.next hb)
    clear hb
    have hq0 : ∀ w : World, (Op.equalIn 10000 38 (.agg #[.int .i64 0, .int .i64 0]) (.agg #[.int .i64 0, .int .i64 0])).run Tryd.prog w = .ok true w := fun w => by rw [run_equal_pair]; simp
    go_wp2_with fail
    go_ret
    exact ⟨by simp, (E3.out.now.2.2.2).alloc (E3.out.now.2.2.2).size _⟩
end Go.Proofs.YthkhideonceibaaDoor.Span
