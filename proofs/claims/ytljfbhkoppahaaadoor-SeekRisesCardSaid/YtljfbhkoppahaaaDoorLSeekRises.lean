/- Package seek's laws: the chapter's slots; is that what was asked for; the chapter's examples. The law SeekRises: its walk. -/
import Derived.Test.YtljfbhkoppahaaaDoorMam
set_option linter.unusedSimpArgs false
set_option linter.unusedVariables false
namespace Go.Proofs.YtljfbhkoppahaaaDoor.Seek
open Go.RowKit Go.Shelf Go.Sort Go.Proofs.YtljfbhkoppahaaaDoor Go.Proofs.YtljfbhkoppahaaaDoor.Occ Go.Proofs.YtljfbhkoppahaaaDoor.Slo
attribute [local go_sem] sval Oper.semAt_some

theorem wfS {s : Sl} (h1 : (Lit.int .i64 s.seg).wf = true) (h2 : (s.ws.all fun z => decide (0 ≤ z ∧ z < 18446744073709551616)) = true) (h3 : decide (0 ≤ s.laid ∧ s.laid < 18446744073709551616) = true)
    (h4 : decide (s.ws.length ≤ 100000 ∧ s.ks.length ≤ 100000 ∧ s.vs.length ≤ 100000 ∧ s.cs.length ≤ 100000) = true) : s.Wf := wf_of h1 h2 h3 (by simpa using h4)
def chV : Sl := layV (layV (emptyV 4 8) 1 5 0) 6 9 0
theorem chV_plain : ∃ V0 V1 V2 : Sl, newSV 4 8 = (V0, 0) ∧ V0.Wf ∧ laySV V0 1 5 0 = (V1, 0) ∧ V1.Wf ∧ laySV V1 6 9 0 = (V2, 0) ∧ V2 = chV :=
  ⟨emptyV 4 8, layV (emptyV 4 8) 1 5 0, chV, by decide +kernel, wfS (by decide +kernel) (by decide +kernel) (by decide +kernel) (by decide +kernel), by decide +kernel, wfS (by decide +kernel) (by decide +kernel) (by decide +kernel) (by decide +kernel), by decide +kernel, rfl⟩
theorem chV_wf : chV.Wf := wfS (by decide +kernel) (by decide +kernel) (by decide +kernel) (by decide +kernel)
set_option maxRecDepth 100000 in
set_option maxHeartbeats 4000000 in
theorem chapter_any (w : World) : Calls Tryd.prog 20 #[] w fun e w' => ∃ h', e = .returned (sval chV h') ∧ SOwn w' w.heap.size w'.heap.size chV h' ∧ Below w.heap.size w w' := by
  obtain ⟨V0, V1, V2, e0, wf0, e1, wf1, e2, ez⟩ := chV_plain
  have HN := Lib.hid (fun w1 => New_any 4 8 w1 (by decide) (by decide))
  rw [e0] at HN
  have HL1 := Lib.hid (fun h1 w1 R => Lay_any V0 h1 1 5 0 w1 wf0 R)
  rw [e1] at HL1
  have HL2 := Lib.hid (fun h1 w1 R => Lay_any V1 h1 6 9 0 w1 wf1 R)
  rw [e2] at HL2
  rw [← ez]
  clear e0 wf0 e1 wf1 e2 ez
  go_enter Tryd.func20, Tryd.ntmps20
  have E0 := Lib.hid (((St.below' (allocS_below w noneS noneH))).and (St.bs (allocS_bs w noneS noneH)))
  go_wp2_with fail
  rw [show w.alloc (.cells #[.int .i64 0, .slice Option.none 0 0, .slice Option.none 0 0, .slice Option.none 0 0, .slice Option.none 0 0, .int .u64 0] 27) = allocS w noneS noneH from rfl]
  generalize hw0 : allocS w noneS noneH = w0 at *
  have hz0 : w0.heap.size = w.heap.size + 1 := by rw [← hw0, allocS_size]
  clear hw0
  refine (HN.out _).mono ?_
  rintro e w1 ⟨hd0, rfl, ho, hb⟩
  have E1 := Lib.hid ((E0.out.next hb).and (St.own ho))
  clear hb
  clear ho
  go_wp2_with fail
  rw [allocS_fold]
  have E2 := Lib.hid ((E1.out.next (allocS_below w1 V0 hd0)).and (St.bs (allocS_bs w1 V0 hd0)))
  generalize allocS w1 V0 hd0 = w2 at *
  refine (HL1.out hd0 _ (SOwn.rd E2.out.now.2.1)).mono ?_
  rintro e w3 ⟨hd1, rfl, ho, hb⟩
  have E3 := Lib.hid ((E2.out.next hb).and (St.own ho))
  clear hb
  clear ho
  obtain ⟨-, ⟨⟨bs_0, bs_1, bs_2, bs_3, bs_4, bs_5, -⟩, bs_l⟩, -, -, -⟩ := E3.out.now
  have fb := E3.out.now.2.1.box.f
  have f0 := fb 0; have f1 := fb 1; have f2 := fb 2; have f3 := fb 3; have f4 := fb 4; have f5 := fb 5
  clear fb
  go_wp2_with fail
  rw [stS_fold]
  clear bs_0 bs_1 bs_2 bs_3 bs_4 bs_5 bs_l
  clear f0 f1 f2 f3 f4 f5
  have hz1 : w.heap.size < w1.heap.size := E1.out.now.2.1.lt
  have hz2 : w1.heap.size < w2.heap.size := E2.out.now.1.lt
  have hst : Below w1.heap.size w3 (stS w3 w1.heap.size V1 hd1) := stS_below (Below.refl _ _) (Nat.le_refl _)
  have hkk : Keeps w1.heap.size w3.heap.size w3.heap.size w3 _ := ⟨hst, fun i h1 h2 => by omega⟩
  have E4 := Lib.hid (((((St.below' (stS_below (p := w1.heap.size) (s := V1) (h := hd1) E3.out.now.2.2.2.2 (Nat.le_of_lt hz1)))).and (St.own (stS_own (s := V1) (h := hd1) E3.out.now.1 hz2))).and (St.bs (stS_bs (s := V1) (h := hd1) E3.out.now.2.1))).and (St.bs (keeps_bs hkk E3.out.now.2.2.2.1 (.inl hz1))))
  clear hst hkk
  generalize stS w3 w1.heap.size V1 hd1 = w4 at *
  clear hz1 hz2
  refine (HL2.out hd1 _ (SOwn.rd E4.out.now.2.2.1)).mono ?_
  rintro e w5 ⟨hd2, rfl, ho, hb⟩
  have E5 := Lib.hid ((E4.out.next hb).and (St.own ho))
  clear hb
  clear ho
  obtain ⟨-, -, ⟨⟨bs_0, bs_1, bs_2, bs_3, bs_4, bs_5, -⟩, bs_l⟩, -, -⟩ := E5.out.now
  have fb := E5.out.now.2.2.1.box.f
  have f0 := fb 0; have f1 := fb 1; have f2 := fb 2; have f3 := fb 3; have f4 := fb 4; have f5 := fb 5
  clear fb
  have hz1 : w.heap.size < w1.heap.size := E1.out.now.2.1.lt
  have hz2 : w1.heap.size < w4.heap.size := E4.out.now.2.1.lt
  have hne : w1.heap.size ≠ w.heap.size := by omega
  have d0 := E5.out.now.2.1.box.c0; have d1 := E5.out.now.2.1.box.c1; have d2 := E5.out.now.2.1.box.c2; have d3 := E5.out.now.2.1.box.c3; have d4 := E5.out.now.2.1.box.c4; have d5 := E5.out.now.2.1.box.c5
  have g := E5.out.now.2.1.box.f
  have g0 := g 0; have g1 := g 1; have g2 := g 2; have g3 := g 3; have g4 := g 4; have g5 := g 5
  clear g
  go_wp2
  rw [stS_fold, stS_fold]
  have hst : Below w1.heap.size w5 (stS w5 w1.heap.size V2 hd2) := stS_below (Below.refl _ _) (Nat.le_refl _)
  have hkk : Keeps w1.heap.size w5.heap.size w5.heap.size w5 _ := ⟨hst, fun i h1 h2 => by omega⟩
  have D4 := stS_box (s := V2) (h := hd2) (keeps_bs hkk E5.out.now.2.1 (.inl hz1)).box
  have q0 := D4.c0; have q1 := D4.c1; have q2 := D4.c2; have q3 := D4.c3; have q4 := D4.c4; have q5 := D4.c5
  refine bodyPost_ret (v := sval V2 hd2) (by simp [results, Tryd.results20, sval, go_sem, q0, q1, q2, q3, q4, q5]) rfl ⟨hd2, rfl, ?_, ?_⟩
  · exact (stS_own (stS_own E5.out.now.1 hz2) (by omega)).mono (by omega) (by rw [stS_size, stS_size]; exact Nat.le_refl _)
  · exact stS_below (stS_below E5.out.now.2.2.2.2 (Nat.le_of_lt hz1)) (Nat.le_refl _)

theorem at_any (n e m : Int) (w : World) : Calls Tryd.prog 23 #[.int .i64 n, .int .i64 e, .int .i64 m] w fun r w' => r = .returned (.bool (decide (e = 0) && decide (n = m))) ∧ w = w' := by
  by_cases he : e = 0
  · subst he
    by_cases hn : n = m
    · subst hn
      go_enter Tryd.func23, Tryd.ntmps23
      go_wp2
      go_ret
      exact ⟨by simp, rfl⟩
    · have h1 : (n == m) = false := by simpa using hn
      go_enter Tryd.func23, Tryd.ntmps23
      go_wp2
      go_ret
      exact ⟨by simp [hn], rfl⟩
  · have h1 : (e == 0) = false := by simpa using he
    go_enter Tryd.func23, Tryd.ntmps23
    go_wp2
    go_ret
    exact ⟨by simp [he], rfl⟩
theorem alive_plain : rankV chV 9 = (1, 0) ∧ findV chV 9 = (6, 0) ∧ nxtV chV 6 = (6, 0) ∧ lasV chV 9 = (1, 0) := ⟨by decide +kernel, by decide +kernel, by decide +kernel, by decide +kernel⟩
set_option maxRecDepth 100000 in
set_option maxHeartbeats 8000000 in
theorem alive_any (w : World) (hT : Tab w) : Calls Tryd.prog 22 #[] w fun e w' => e = .returned (.bool true) ∧ Below w.heap.size w w' := by
  obtain ⟨e1, e2, e3, e4⟩ := alive_plain
  have HCH := Lib.hid (fun w1 => chapter_any w1)
  have HAT := Lib.hid (fun n e m w1 => at_any n e m w1)
  have H1 := Lib.hid (fun h1 w1 (T : Tab w1) (R : SRd w1 chV h1) => Rank_any chV h1 9 w1 T chV_wf R)
  rw [e1] at H1
  have H2 := Lib.hid (fun h1 w1 (T : Tab w1) (R : SRd w1 chV h1) => Find_any chV h1 9 w1 T chV_wf R)
  rw [e2] at H2
  have H3 := Lib.hid (fun h1 w1 (T : Tab w1) (R : SRd w1 chV h1) => kNext_any chV h1 6 w1 T chV_wf R)
  rw [e3] at H3
  have H4 := Lib.hid (fun h1 w1 (T : Tab w1) (R : SRd w1 chV h1) => kLast_any chV h1 9 w1 T chV_wf R)
  rw [e4] at H4
  generalize chV = C at *
  clear e1 e2 e3 e4
  have E0 := Lib.hid (((St.below w)).and (St.tab hT))
  clear hT
  go_enter Tryd.func22, Tryd.ntmps22
  go_wp2_with fail
  refine (HCH.out _).mono ?_
  rintro e w1 ⟨hc1, rfl, ho, hb⟩
  have E1 := Lib.hid ((E0.out.next hb).and (St.own ho))
  clear hb
  clear ho
  go_wp2_with fail
  refine (H1.out hc1 _ E1.out.now.2.1 (SOwn.rd E1.out.now.1)).mono ?_
  rintro e w2 ⟨rfl, hb⟩
  have E2 := Lib.hid (E1.out.next hb)
  clear hb
  go_wp2_with fail
  refine (HCH.out _).mono ?_
  rintro e w3 ⟨hc2, rfl, ho, hb⟩
  have E3 := Lib.hid ((E2.out.next hb).and (St.own ho))
  clear hb
  clear ho
  go_wp2_with fail
  refine (H2.out hc2 _ E3.out.now.2.2.1 (SOwn.rd E3.out.now.1)).mono ?_
  rintro e w4 ⟨rfl, hb⟩
  have E4 := Lib.hid (E3.out.next hb)
  clear hb
  go_wp2_with fail
  refine (HCH.out _).mono ?_
  rintro e w5 ⟨hc3, rfl, ho, hb⟩
  have E5 := Lib.hid ((E4.out.next hb).and (St.own ho))
  clear hb
  clear ho
  go_wp2_with fail
  refine (H3.out hc3 _ E5.out.now.2.2.2.1 (SOwn.rd E5.out.now.1)).mono ?_
  rintro e w6 ⟨rfl, hb⟩
  have E6 := Lib.hid (E5.out.next hb)
  clear hb
  go_wp2_with fail
  refine (HCH.out _).mono ?_
  rintro e w7 ⟨hc4, rfl, ho, hb⟩
  have E7 := Lib.hid ((E6.out.next hb).and (St.own ho))
  clear hb
  clear ho
  go_wp2_with fail
  refine (H4.out hc4 _ E7.out.now.2.2.2.2.1 (SOwn.rd E7.out.now.1)).mono ?_
  rintro e w8 ⟨rfl, hb⟩
  have E8 := Lib.hid (E7.out.next hb)
  clear hb
  go_wp2_with fail
  refine (HAT.out _ _ _ _).mono ?_
  rintro e w' ⟨rfl, rfl⟩
  go_wp2_with fail
  refine (HAT.out _ _ _ _).mono ?_
  rintro e w' ⟨rfl, rfl⟩
  go_wp2_with fail
  refine (HAT.out _ _ _ _).mono ?_
  rintro e w' ⟨rfl, rfl⟩
  go_wp2_with fail
  refine (HAT.out _ _ _ _).mono ?_
  rintro e w' ⟨rfl, rfl⟩
  go_wp2_with fail
  go_ret
  exact ⟨by simp, E8.out.now.2.2.2.2.2⟩
end Go.Proofs.YtljfbhkoppahaaaDoor.Seek

namespace Go.Proofs.YtljfbhkoppahaaaDoor.Seek
open Go.RowKit Go.Shelf Go.Sort Go.Proofs.YtljfbhkoppahaaaDoor Go.Proofs.YtljfbhkoppahaaaDoor.Occ Go.Proofs.YtljfbhkoppahaaaDoor.Slo
attribute [local go_sem] sval Oper.semAt_some

/-- How many keys lie between. -/
def betw (L : List (Int × Int)) (a b : Int) : Nat := L.countP (fun p => decide (a ≤ p.1) && decide (p.1 < b))
theorem betw_bel (L : List (Int × Int)) {a b : Int} (h : a ≤ b) : bel L b = bel L a + betw L a b := by
  unfold bel betw
  induction L with
  | nil => rfl
  | cons p L ih =>
    simp only [List.countP_cons]
    rw [ih]
    by_cases h1 : p.1 < a
    · have h2 : p.1 < b := by omega
      have h3 : ¬ a ≤ p.1 := by omega
      simp [h1, h2, h3]; omega
    · have h3 : a ≤ p.1 := by omega
      by_cases h2 : p.1 < b
      · simp [h1, h2, h3]; omega
      · simp [h1, h2, h3]
theorem betw_take (L : List (Int × Int)) (a b : Int) (k : Nat) (h : k < L.length) : betw (L.take (k + 1)) a b = betw (L.take k) a b + if a ≤ (L.getD k (0, 0)).1 ∧ (L.getD k (0, 0)).1 < b then 1 else 0 := by
  unfold betw
  rw [List.take_succ_eq_append_getElem h, List.countP_append]
  simp [List.getD_eq_getElem?_getD, h]
theorem betw_le (L : List (Int × Int)) (a b : Int) : betw L a b ≤ L.length := List.countP_le_length
set_option maxRecDepth 100000 in
set_option maxHeartbeats 16000000 in
theorem seekRises (x : In) (a b : Int) (w : World) (wx : x.Ok w) (wa : (Lit.int .i64 a).wf = true) (wb : (Lit.int .i64 b).wf = true) (hT : Tab w) :
    Calls Tryd.prog 5 #[x.val, .int .i64 a, .int .i64 b] w fun e w' => e = .returned (.bool true) ∧ Below w.heap.size w w' := by
  obtain ⟨s, h, e1, S⟩ := wx.open
  rw [e1]
  have HS := Lib.hid S
  have HT := Lib.hid hT
  clear S e1 wx wa wb x hT
  have HG1 := Lib.hid (fun w1 => Great_any s h 600 w1)
  have HAL := Lib.hid (fun w1 hT => alive_any w1 hT)
  have E0 := Lib.hid (((((St.below' (allocS_below w s h))).and (St.rd (HS.out.rd.next (allocS_below w s h)))).and ((St.tab HT.out).next (allocS_below w s h))).and (St.bs (allocS_bs w s h)))
  cases hg1 : greatB s 600
  case true =>
    rw [hg1] at HG1
    clear hg1
    go_enter Tryd.func5, Tryd.ntmps5
    go_wp2_with fail
    rw [allocS_fold]
    generalize allocS w s h = w0 at *
    refine (HAL.out _ E0.out.now.2.1).mono ?_
    rintro e w1 ⟨rfl, hb⟩
    have E1 := Lib.hid (E0.out.next hb)
    clear hb
    obtain ⟨⟨⟨bs_0, bs_1, bs_2, bs_3, bs_4, bs_5, -⟩, bs_l⟩, -, -, -⟩ := E1.out.now
    go_wp2_with fail
    clear bs_0 bs_1 bs_2 bs_3 bs_4 bs_5 bs_l
    refine (HG1.out _).mono ?_
    rintro e w2 ⟨rfl, hb⟩
    have E2 := Lib.hid (E1.out.next hb)
    clear hb
    go_wp2
    go_ret
    exact ⟨rfl, E2.out.now.2.2.2⟩
  rw [hg1] at HG1
  have hls := greatB_no (m := 600) hg1
  obtain ⟨hl1, hl2, hl3, hl4⟩ := hls
  have HW := Lib.hid (HS.out.wf ⟨by omega, by omega, by omega, by omega⟩)
  clear hg1 hl1 hl2 hl3 hl4
  by_cases hab : b < a
  · go_enter Tryd.func5, Tryd.ntmps5
    go_wp2_with fail
    rw [allocS_fold]
    generalize allocS w s h = w0 at *
    refine (HAL.out _ E0.out.now.2.1).mono ?_
    rintro e w1 ⟨rfl, hb⟩
    have E1 := Lib.hid (E0.out.next hb)
    clear hb
    obtain ⟨⟨⟨bs_0, bs_1, bs_2, bs_3, bs_4, bs_5, -⟩, bs_l⟩, -, -, -⟩ := E1.out.now
    go_wp2_with fail
    clear bs_0 bs_1 bs_2 bs_3 bs_4 bs_5 bs_l
    refine (HG1.out _).mono ?_
    rintro e w2 ⟨rfl, hb⟩
    have E2 := Lib.hid (E1.out.next hb)
    clear hb
    go_wp2
    go_ret
    exact ⟨by simp, E2.out.now.2.2.2⟩
  have HA := Lib.hid (fun w1 (T : Tab w1) (R : SRd w1 s h) => Rank_any s h a w1 T HW.out R)
  have HB := Lib.hid (fun w1 (T : Tab w1) (R : SRd w1 s h) => Rank_any s h b w1 T HW.out R)
  have HP := Lib.hid (fun w1 (R : SRd w1 s h) => sPairs_any s h 0 s.ks.length w1 HW.out R)
  by_cases hk : chkK s = 0
  · obtain ⟨hok, hri⟩ := chkK_ok hk
    have hsm := all_small hok
    rw [show rankV s a = ((bel (allP s) a : Int), 0) from if_pos hk] at HA
    rw [show rankV s b = ((bel (allP s) b : Int), 0) from if_pos hk] at HB
    rw [allV_ok hok] at HP
    have HBB := Lib.hid (betw_bel (allP s) (show a ≤ b by omega))
    have hb1 := bel_le (allP s) a
    have hb2 := bel_le (allP s) b
    generalize allP s = L at *
    generalize hba : bel L a = ra at *
    generalize hbb : bel L b = rb at *
    clear hk hok hri hba hbb
    go_enter Tryd.func5, Tryd.ntmps5
    go_wp2_with fail
    rw [allocS_fold]
    generalize allocS w s h = w0 at *
    refine (HAL.out _ E0.out.now.2.1).mono ?_
    rintro e w1 ⟨rfl, hb⟩
    have E1 := Lib.hid (E0.out.next hb)
    clear hb
    obtain ⟨⟨⟨bs_0, bs_1, bs_2, bs_3, bs_4, bs_5, -⟩, bs_l⟩, -, -, -⟩ := E1.out.now
    go_wp2_with fail
    clear bs_0 bs_1 bs_2 bs_3 bs_4 bs_5 bs_l
    refine (HG1.out _).mono ?_
    rintro e w2 ⟨rfl, hb⟩
    have E2 := Lib.hid (E1.out.next hb)
    clear hb
    obtain ⟨⟨⟨bs_0, bs_1, bs_2, bs_3, bs_4, bs_5, -⟩, bs_l⟩, -, -, -⟩ := E2.out.now
    go_wp2_with fail
    clear bs_0 bs_1 bs_2 bs_3 bs_4 bs_5 bs_l
    refine (HA.out _ E2.out.now.2.1 E2.out.now.2.2.1).mono ?_
    rintro e w3 ⟨rfl, hb⟩
    have E3 := Lib.hid (E2.out.next hb)
    clear hb
    obtain ⟨⟨⟨bs_0, bs_1, bs_2, bs_3, bs_4, bs_5, -⟩, bs_l⟩, -, -, -⟩ := E3.out.now
    go_wp2_with fail
    clear bs_0 bs_1 bs_2 bs_3 bs_4 bs_5 bs_l
    refine (HB.out _ E3.out.now.2.1 E3.out.now.2.2.1).mono ?_
    rintro e w4 ⟨rfl, hb⟩
    have E4 := Lib.hid (E3.out.next hb)
    clear hb
    obtain ⟨⟨⟨bs_0, bs_1, bs_2, bs_3, bs_4, bs_5, -⟩, bs_l⟩, -, -, -⟩ := E4.out.now
    go_wp2_with fail
    clear bs_0 bs_1 bs_2 bs_3 bs_4 bs_5 bs_l
    refine (HP.out _ E4.out.now.2.2.1).mono ?_
    rintro e w5 ⟨v, rfl, ho, hb⟩
    obtain ⟨al, cl, rfl, -, hr2, hcl, -⟩ := owns2_arg ho
    clear ho
    have E5 := Lib.hid ((E4.out.next hb).and (St.rd2 hr2))
    clear hb
    clear HA HB HP HAL HG1
    go_wp2
    go_loop [14, 15] (fun n i => ∃ k : Nat, k ≤ L.length ∧ i = .int .i64 k ∧ n = .int .i64 ((betw (L.take k) a b : Nat) : Int)) (fun _ i => L.length - (intOf i).toNat)
    case atStart => exact ⟨0, Nat.zero_le _, rfl, rfl⟩
    case round =>
      obtain ⟨k, hk, rfl, rfl⟩ := hrel
      by_cases hlt : k < L.length
      · obtain ⟨bl, ol, rfl, ca, cb⟩ := Rd2.at E5.out.now.1 (Below.refl _ _) (Nat.le_refl _) hlt
        have HBT := Lib.hid (betw_take L a b k hlt)
        have hle := betw_le (L.take k) a b
        rw [List.length_take] at hle
        generalize hc1 : betw (L.take (k + 1)) a b = c1 at *
        have HC1 := Lib.hid hc1
        clear hc1
        generalize betw (L.take k) a b = c0 at *
        generalize L.getD k (0, 0) = xk at *
        obtain ⟨x1, x2⟩ := xk
        dsimp only at ca cb HBT
        by_cases h1 : a ≤ x1
        · by_cases h2 : x1 < b
          · have HB1 : Hid (c1 = c0 + 1) := Lib.hid (by rw [HBT.out, if_pos ⟨h1, h2⟩])
            clear HBT
            go_wp2
            go_round
            case rel => exact ⟨k + 1, by omega, by go_num, by rw [HC1.out, HB1.out]; go_num⟩
            case measure => simp [intOf]; omega
          · have HB1 : Hid (c1 = c0) := Lib.hid (by rw [HBT.out, if_neg (by omega)]; rfl)
            clear HBT
            go_wp2
            go_round
            case rel => exact ⟨k + 1, by omega, by go_num, by rw [HC1.out, HB1.out]⟩
            case measure => simp [intOf]; omega
        · have HB1 : Hid (c1 = c0) := Lib.hid (by rw [HBT.out, if_neg (by omega)]; rfl)
          clear HBT
          go_wp2
          go_round
          case rel => exact ⟨k + 1, by omega, by go_num, by rw [HC1.out, HB1.out]⟩
          case measure => simp [intOf]; omega
      · obtain rfl : k = L.length := by omega
        have e : L.take L.length = L := List.take_of_length_le (Nat.le_refl _)
        rw [e]
        have hbt := betw_le L a b
        have hbo := HBB.out
        generalize betw L a b = m at *
        have e2 : IntKind.i64.wrap ((rb : Int) - (ra : Int)) = (m : Int) := by rw [IntKind.wrap_i64]; omega
        clear e hbo
        go_wp2
        go_ret
        exact ⟨by simp, E5.out.now.2.2.2.2⟩
  · rw [show rankV s a = (0, chkK s) from if_neg hk] at HA
    rw [show rankV s b = (0, chkK s) from if_neg hk] at HB
    have hne : (chkK s != 0) = true := by rw [bne_iff_ne]; exact hk
    generalize chkK s = c at *
    generalize prsV s 0 s.ks.length = PV at *
    obtain ⟨PL, pe⟩ := PV
    clear hk
    go_enter Tryd.func5, Tryd.ntmps5
    go_wp2_with fail
    rw [allocS_fold]
    generalize allocS w s h = w0 at *
    refine (HAL.out _ E0.out.now.2.1).mono ?_
    rintro e w1 ⟨rfl, hb⟩
    have E1 := Lib.hid (E0.out.next hb)
    clear hb
    obtain ⟨⟨⟨bs_0, bs_1, bs_2, bs_3, bs_4, bs_5, -⟩, bs_l⟩, -, -, -⟩ := E1.out.now
    go_wp2_with fail
    clear bs_0 bs_1 bs_2 bs_3 bs_4 bs_5 bs_l
    refine (HG1.out _).mono ?_
    rintro e w2 ⟨rfl, hb⟩
    have E2 := Lib.hid (E1.out.next hb)
    clear hb
    obtain ⟨⟨⟨bs_0, bs_1, bs_2, bs_3, bs_4, bs_5, -⟩, bs_l⟩, -, -, -⟩ := E2.out.now
    go_wp2_with fail
    clear bs_0 bs_1 bs_2 bs_3 bs_4 bs_5 bs_l
    refine (HA.out _ E2.out.now.2.1 E2.out.now.2.2.1).mono ?_
    rintro e w3 ⟨rfl, hb⟩
    have E3 := Lib.hid (E2.out.next hb)
    clear hb
    obtain ⟨⟨⟨bs_0, bs_1, bs_2, bs_3, bs_4, bs_5, -⟩, bs_l⟩, -, -, -⟩ := E3.out.now
    go_wp2_with fail
    clear bs_0 bs_1 bs_2 bs_3 bs_4 bs_5 bs_l
    refine (HB.out _ E3.out.now.2.1 E3.out.now.2.2.1).mono ?_
    rintro e w4 ⟨rfl, hb⟩
    have E4 := Lib.hid (E3.out.next hb)
    clear hb
    obtain ⟨⟨⟨bs_0, bs_1, bs_2, bs_3, bs_4, bs_5, -⟩, bs_l⟩, -, -, -⟩ := E4.out.now
    go_wp2_with fail
    clear bs_0 bs_1 bs_2 bs_3 bs_4 bs_5 bs_l
    refine (HP.out _ E4.out.now.2.2.1).mono ?_
    rintro e w5 ⟨v, rfl, ho, hb⟩
    obtain ⟨al, cl, rfl, -, hr2, hcl, -⟩ := owns2_arg ho
    clear ho
    have E5 := Lib.hid ((E4.out.next hb).and (St.rd2 hr2))
    clear hb
    go_wp2
    go_ret
    exact ⟨by simp, E5.out.now.2.2.2.2⟩
end Go.Proofs.YtljfbhkoppahaaaDoor.Seek
