/- Package seek's laws: the chapter's slots; is that what was asked for; the chapter's examples. The law SeekPlaces: its walk. -/
import Derived.Test.YtljfbhkoppahaaaDoorMam
set_option linter.unusedSimpArgs false
set_option linter.unusedVariables false
namespace Go.Proofs.YtljfbhkoppahaaaDoor.Seek
open Go.RowKit Go.Shelf Go.Sort Go.Proofs.YtljfbhkoppahaaaDoor Go.Proofs.YtljfbhkoppahaaaDoor.Occ Go.Proofs.YtljfbhkoppahaaaDoor.Slo
attribute [local go_sem] sval Oper.semAt_some

theorem wfS {s : Sl} (h1 : (Lit.int .i64 s.seg).wf = true) (h2 : (s.ws.all fun z => decide (0 ≤ z ∧ z < 18446744073709551616)) = true) (h3 : decide (0 ≤ s.laid ∧ s.laid < 18446744073709551616) = true)
    (h4 : decide (s.ws.length ≤ 100000 ∧ s.ks.length ≤ 100000 ∧ s.vs.length ≤ 100000 ∧ s.cs.length ≤ 100000) = true) : s.Wf := wf_of h1 h2 h3 (by simpa using h4)
def chV : Sl := layV (layV (emptyV 4 8) 1 5 0) 6 9 0
theorem chV_plain : ∃ V0 V1 V2 : Sl, newSV 4 8 = (V0, 0) ∧ V0.Wf ∧ laySV V0 1 5 0 = (V1, 0) ∧ V1.Wf ∧ laySV V1 6 9 0 = (V2, 0) ∧ V2 = chV :=
  ⟨emptyV 4 8, layV (emptyV 4 8) 1 5 0, chV, by decide +kernel, wfS (by decide +kernel) (by decide +kernel) (by decide +kernel) (by decide +kernel), by decide +kernel, wfS (by decide +kernel) (by decide +kernel) (by decide +kernel) (by decide +kernel), by decide +kernel, rfl⟩
theorem chV_wf : chV.Wf := wfS (by decide +kernel) (by decide +kernel) (by decide +kernel) (by decide +kernel)
set_option maxRecDepth 100000 in
set_option maxHeartbeats 4000000 in
theorem chapter_any (w : World) : Calls Tryd.prog 20 #[] w fun e w' => ∃ h', e = .returned (sval chV h') ∧ SOwn w' w.heap.size w'.heap.size chV h' ∧ Below w.heap.size w w' := by
  obtain ⟨V0, V1, V2, e0, wf0, e1, wf1, e2, ez⟩ := chV_plain
  have HN := Lib.hid (fun w1 => New_any 4 8 w1 (by decide) (by decide))
  rw [e0] at HN
  have HL1 := Lib.hid (fun h1 w1 R => Lay_any V0 h1 1 5 0 w1 wf0 R)
  rw [e1] at HL1
  have HL2 := Lib.hid (fun h1 w1 R => Lay_any V1 h1 6 9 0 w1 wf1 R)
  rw [e2] at HL2
  rw [← ez]
  clear e0 wf0 e1 wf1 e2 ez
  go_enter Tryd.func20, Tryd.ntmps20
  have E0 := Lib.hid (((St.below' (allocS_below w noneS noneH))).and (St.bs (allocS_bs w noneS noneH)))
  go_wp2_with fail
  rw [show w.alloc (.cells #[.int .i64 0, .slice Option.none 0 0, .slice Option.none 0 0, .slice Option.none 0 0, .slice Option.none 0 0, .int .u64 0] 27) = allocS w noneS noneH from rfl]
  generalize hw0 : allocS w noneS noneH = w0 at *
  have hz0 : w0.heap.size = w.heap.size + 1 := by rw [← hw0, allocS_size]
  clear hw0
  refine (HN.out _).mono ?_
  rintro e w1 ⟨hd0, rfl, ho, hb⟩
  have E1 := Lib.hid ((E0.out.next hb).and (St.own ho))
  clear hb
  clear ho
  go_wp2_with fail
  rw [allocS_fold]
  have E2 := Lib.hid ((E1.out.next (allocS_below w1 V0 hd0)).and (St.bs (allocS_bs w1 V0 hd0)))
  generalize allocS w1 V0 hd0 = w2 at *
  refine (HL1.out hd0 _ (SOwn.rd E2.out.now.2.1)).mono ?_
  rintro e w3 ⟨hd1, rfl, ho, hb⟩
  have E3 := Lib.hid ((E2.out.next hb).and (St.own ho))
  clear hb
  clear ho
  obtain ⟨-, ⟨⟨bs_0, bs_1, bs_2, bs_3, bs_4, bs_5, -⟩, bs_l⟩, -, -, -⟩ := E3.out.now
  have fb := E3.out.now.2.1.box.f
  have f0 := fb 0; have f1 := fb 1; have f2 := fb 2; have f3 := fb 3; have f4 := fb 4; have f5 := fb 5
  clear fb
  go_wp2_with fail
  rw [stS_fold]
  clear bs_0 bs_1 bs_2 bs_3 bs_4 bs_5 bs_l
  clear f0 f1 f2 f3 f4 f5
  have hz1 : w.heap.size < w1.heap.size := E1.out.now.2.1.lt
  have hz2 : w1.heap.size < w2.heap.size := E2.out.now.1.lt
  have hst : Below w1.heap.size w3 (stS w3 w1.heap.size V1 hd1) := stS_below (Below.refl _ _) (Nat.le_refl _)
  have hkk : Keeps w1.heap.size w3.heap.size w3.heap.size w3 _ := ⟨hst, fun i h1 h2 => by omega⟩
  have E4 := Lib.hid (((((St.below' (stS_below (p := w1.heap.size) (s := V1) (h := hd1) E3.out.now.2.2.2.2 (Nat.le_of_lt hz1)))).and (St.own (stS_own (s := V1) (h := hd1) E3.out.now.1 hz2))).and (St.bs (stS_bs (s := V1) (h := hd1) E3.out.now.2.1))).and (St.bs (keeps_bs hkk E3.out.now.2.2.2.1 (.inl hz1))))
  clear hst hkk
  generalize stS w3 w1.heap.size V1 hd1 = w4 at *
  clear hz1 hz2
  refine (HL2.out hd1 _ (SOwn.rd E4.out.now.2.2.1)).mono ?_
  rintro e w5 ⟨hd2, rfl, ho, hb⟩
  have E5 := Lib.hid ((E4.out.next hb).and (St.own ho))
  clear hb
  clear ho
  obtain ⟨-, -, ⟨⟨bs_0, bs_1, bs_2, bs_3, bs_4, bs_5, -⟩, bs_l⟩, -, -⟩ := E5.out.now
  have fb := E5.out.now.2.2.1.box.f
  have f0 := fb 0; have f1 := fb 1; have f2 := fb 2; have f3 := fb 3; have f4 := fb 4; have f5 := fb 5
  clear fb
  have hz1 : w.heap.size < w1.heap.size := E1.out.now.2.1.lt
  have hz2 : w1.heap.size < w4.heap.size := E4.out.now.2.1.lt
  have hne : w1.heap.size ≠ w.heap.size := by omega
  have d0 := E5.out.now.2.1.box.c0; have d1 := E5.out.now.2.1.box.c1; have d2 := E5.out.now.2.1.box.c2; have d3 := E5.out.now.2.1.box.c3; have d4 := E5.out.now.2.1.box.c4; have d5 := E5.out.now.2.1.box.c5
  have g := E5.out.now.2.1.box.f
  have g0 := g 0; have g1 := g 1; have g2 := g 2; have g3 := g 3; have g4 := g 4; have g5 := g 5
  clear g
  go_wp2
  rw [stS_fold, stS_fold]
  have hst : Below w1.heap.size w5 (stS w5 w1.heap.size V2 hd2) := stS_below (Below.refl _ _) (Nat.le_refl _)
  have hkk : Keeps w1.heap.size w5.heap.size w5.heap.size w5 _ := ⟨hst, fun i h1 h2 => by omega⟩
  have D4 := stS_box (s := V2) (h := hd2) (keeps_bs hkk E5.out.now.2.1 (.inl hz1)).box
  have q0 := D4.c0; have q1 := D4.c1; have q2 := D4.c2; have q3 := D4.c3; have q4 := D4.c4; have q5 := D4.c5
  refine bodyPost_ret (v := sval V2 hd2) (by simp [results, Tryd.results20, sval, go_sem, q0, q1, q2, q3, q4, q5]) rfl ⟨hd2, rfl, ?_, ?_⟩
  · exact (stS_own (stS_own E5.out.now.1 hz2) (by omega)).mono (by omega) (by rw [stS_size, stS_size]; exact Nat.le_refl _)
  · exact stS_below (stS_below E5.out.now.2.2.2.2 (Nat.le_of_lt hz1)) (Nat.le_refl _)

theorem at_any (n e m : Int) (w : World) : Calls Tryd.prog 23 #[.int .i64 n, .int .i64 e, .int .i64 m] w fun r w' => r = .returned (.bool (decide (e = 0) && decide (n = m))) ∧ w = w' := by
  by_cases he : e = 0
  · subst he
    by_cases hn : n = m
    · subst hn
      go_enter Tryd.func23, Tryd.ntmps23
      go_wp2
      go_ret
      exact ⟨by simp, rfl⟩
    · have h1 : (n == m) = false := by simpa using hn
      go_enter Tryd.func23, Tryd.ntmps23
      go_wp2
      go_ret
      exact ⟨by simp [hn], rfl⟩
  · have h1 : (e == 0) = false := by simpa using he
    go_enter Tryd.func23, Tryd.ntmps23
    go_wp2
    go_ret
    exact ⟨by simp [he], rfl⟩
theorem alive_plain : rankV chV 9 = (1, 0) ∧ findV chV 9 = (6, 0) ∧ nxtV chV 6 = (6, 0) ∧ lasV chV 9 = (1, 0) := ⟨by decide +kernel, by decide +kernel, by decide +kernel, by decide +kernel⟩
set_option maxRecDepth 100000 in
set_option maxHeartbeats 8000000 in
theorem alive_any (w : World) (hT : Tab w) : Calls Tryd.prog 22 #[] w fun e w' => e = .returned (.bool true) ∧ Below w.heap.size w w' := by
  obtain ⟨e1, e2, e3, e4⟩ := alive_plain
  have HCH := Lib.hid (fun w1 => chapter_any w1)
  have HAT := Lib.hid (fun n e m w1 => at_any n e m w1)
  have H1 := Lib.hid (fun h1 w1 (T : Tab w1) (R : SRd w1 chV h1) => Rank_any chV h1 9 w1 T chV_wf R)
  rw [e1] at H1
  have H2 := Lib.hid (fun h1 w1 (T : Tab w1) (R : SRd w1 chV h1) => Find_any chV h1 9 w1 T chV_wf R)
  rw [e2] at H2
  have H3 := Lib.hid (fun h1 w1 (T : Tab w1) (R : SRd w1 chV h1) => kNext_any chV h1 6 w1 T chV_wf R)
  rw [e3] at H3
  have H4 := Lib.hid (fun h1 w1 (T : Tab w1) (R : SRd w1 chV h1) => kLast_any chV h1 9 w1 T chV_wf R)
  rw [e4] at H4
  generalize chV = C at *
  clear e1 e2 e3 e4
  have E0 := Lib.hid (((St.below w)).and (St.tab hT))
  clear hT
  go_enter Tryd.func22, Tryd.ntmps22
  go_wp2_with fail
  refine (HCH.out _).mono ?_
  rintro e w1 ⟨hc1, rfl, ho, hb⟩
  have E1 := Lib.hid ((E0.out.next hb).and (St.own ho))
  clear hb
  clear ho
  go_wp2_with fail
  refine (H1.out hc1 _ E1.out.now.2.1 (SOwn.rd E1.out.now.1)).mono ?_
  rintro e w2 ⟨rfl, hb⟩
  have E2 := Lib.hid (E1.out.next hb)
  clear hb
  go_wp2_with fail
  refine (HCH.out _).mono ?_
  rintro e w3 ⟨hc2, rfl, ho, hb⟩
  have E3 := Lib.hid ((E2.out.next hb).and (St.own ho))
  clear hb
  clear ho
  go_wp2_with fail
  refine (H2.out hc2 _ E3.out.now.2.2.1 (SOwn.rd E3.out.now.1)).mono ?_
  rintro e w4 ⟨rfl, hb⟩
  have E4 := Lib.hid (E3.out.next hb)
  clear hb
  go_wp2_with fail
  refine (HCH.out _).mono ?_
  rintro e w5 ⟨hc3, rfl, ho, hb⟩
  have E5 := Lib.hid ((E4.out.next hb).and (St.own ho))
  clear hb
  clear ho
  go_wp2_with fail
  refine (H3.out hc3 _ E5.out.now.2.2.2.1 (SOwn.rd E5.out.now.1)).mono ?_
  rintro e w6 ⟨rfl, hb⟩
  have E6 := Lib.hid (E5.out.next hb)
  clear hb
  go_wp2_with fail
  refine (HCH.out _).mono ?_
  rintro e w7 ⟨hc4, rfl, ho, hb⟩
  have E7 := Lib.hid ((E6.out.next hb).and (St.own ho))
  clear hb
  clear ho
  go_wp2_with fail
  refine (H4.out hc4 _ E7.out.now.2.2.2.2.1 (SOwn.rd E7.out.now.1)).mono ?_
  rintro e w8 ⟨rfl, hb⟩
  have E8 := Lib.hid (E7.out.next hb)
  clear hb
  go_wp2_with fail
  refine (HAT.out _ _ _ _).mono ?_
  rintro e w' ⟨rfl, rfl⟩
  go_wp2_with fail
  refine (HAT.out _ _ _ _).mono ?_
  rintro e w' ⟨rfl, rfl⟩
  go_wp2_with fail
  refine (HAT.out _ _ _ _).mono ?_
  rintro e w' ⟨rfl, rfl⟩
  go_wp2_with fail
  refine (HAT.out _ _ _ _).mono ?_
  rintro e w' ⟨rfl, rfl⟩
  go_wp2_with fail
  go_ret
  exact ⟨by simp, E8.out.now.2.2.2.2.2⟩
end Go.Proofs.YtljfbhkoppahaaaDoor.Seek

namespace Go.Proofs.YtljfbhkoppahaaaDoor.Seek
open Go.RowKit Go.Shelf Go.Sort Go.Proofs.YtljfbhkoppahaaaDoor Go.Proofs.YtljfbhkoppahaaaDoor.Occ Go.Proofs.YtljfbhkoppahaaaDoor.Slo
attribute [local go_sem] sval Oper.semAt_some

/-- The slots ahead of an occupied one. -/
theorem occs_to (s : Sl) {i : Nat} (hi : i < (slotsL s).length) : (occs s.ws 0 ((slotsL s).getD i 0)).length = i := by
  have e : occs s.ws 0 ((slotsL s).getD i 0) = (slotsL s).take i := by
    refine occs_eq ?_ fun x => ?_
    · exact (slots_sorted s).sublist (List.take_sublist _ _)
    · constructor
      · intro hm
        obtain ⟨j, hj, e⟩ := List.getElem_of_mem hm
        rw [List.length_take] at hj
        rw [List.getElem_take] at e
        have hj2 : j < (slotsL s).length := by omega
        have e2 : (slotsL s).getD j 0 = x := by simp [List.getD_eq_getElem?_getD, hj2, e]
        have := slots_lt s (show j < i by omega) hi
        rw [← e2]
        exact ⟨⟨by omega, by omega⟩, (slots_mem s hj2).2⟩
      · rintro ⟨⟨_, hx⟩, ho⟩
        have := (slots_mem s hi).1
        obtain ⟨j, hj, e⟩ := slots_at s (show x < s.ks.length by omega) ho
        have hji : j < i := by
          rcases Nat.lt_or_ge j i with g | g
          · exact g
          · rcases Nat.lt_or_ge i j with g2 | g2
            · have := slots_lt s g2 hj; omega
            · obtain e3 : j = i := by omega
              rw [← e3] at hx; omega
        rw [← e, show (slotsL s).getD j 0 = ((slotsL s).take i)[j]'(by rw [List.length_take]; omega) by rw [List.getElem_take]; simp [List.getD_eq_getElem?_getD, hj]]
        exact List.getElem_mem _
  rw [e, List.length_take]; omega
/-- What is told of an occupied slot. -/
structure Spot (s : Sl) (i : Nat) (a : Nat) : Prop where
  at_ : atV s a = (pairAt s a, 0)
  cnt : cntV s.ws s.ks.length 0 a = ((i : Int), 0)
theorem spot_of {s : Sl} (hok : okS s = true) {i : Nat} (hi : i < (slotsL s).length) : Spot s i ((slotsL s).getD i 0) := by
  have hm := slots_mem s hi
  refine ⟨by rw [atV_of hok hm.1, if_pos hm.2], ?_⟩
  unfold cntV
  rw [if_pos (ask_ok (chk_slots hok) (inB_iff.2 ⟨by omega, by omega, by omega⟩))]
  simp only [Int.toNat_zero, Int.sub_zero, Int.toNat_natCast]
  rw [occs_to s hi]
set_option maxRecDepth 100000 in
set_option maxHeartbeats 16000000 in
theorem seekPlaces (x : In) (key : Int) (w : World) (wx : x.Ok w) (wk : (Lit.int .i64 key).wf = true) (hT : Tab w) :
    Calls Tryd.prog 6 #[x.val, .int .i64 key] w fun e w' => e = .returned (.bool true) ∧ Below w.heap.size w w' := by
  obtain ⟨s, h, e1, S⟩ := wx.open
  rw [e1]
  have HS := Lib.hid S
  have HT := Lib.hid hT
  clear S e1 wx wk x hT
  have HG1 := Lib.hid (fun w1 => Great_any s h 600 w1)
  have HAL := Lib.hid (fun w1 hT => alive_any w1 hT)
  have E0 := Lib.hid (((((St.below' (allocS_below w s h))).and (St.rd (HS.out.rd.next (allocS_below w s h)))).and ((St.tab HT.out).next (allocS_below w s h))).and (St.bs (allocS_bs w s h)))
  cases hg1 : greatB s 600
  case true =>
    rw [hg1] at HG1
    clear hg1
    go_enter Tryd.func6, Tryd.ntmps6
    go_wp2_with fail
    rw [allocS_fold]
    generalize allocS w s h = w0 at *
    refine (HAL.out _ E0.out.now.2.1).mono ?_
    rintro e w1 ⟨rfl, hb⟩
    have E1 := Lib.hid (E0.out.next hb)
    clear hb
    obtain ⟨⟨⟨bs_0, bs_1, bs_2, bs_3, bs_4, bs_5, -⟩, bs_l⟩, -, -, -⟩ := E1.out.now
    go_wp2_with fail
    clear bs_0 bs_1 bs_2 bs_3 bs_4 bs_5 bs_l
    refine (HG1.out _).mono ?_
    rintro e w2 ⟨rfl, hb⟩
    have E2 := Lib.hid (E1.out.next hb)
    clear hb
    go_wp2
    go_ret
    exact ⟨rfl, E2.out.now.2.2.2⟩
  rw [hg1] at HG1
  have hls := greatB_no (m := 600) hg1
  obtain ⟨hl1, hl2, hl3, hl4⟩ := hls
  have HW := Lib.hid (HS.out.wf ⟨by omega, by omega, by omega, by omega⟩)
  clear hg1 hl1 hl2 hl3 hl4
  have HC := Lib.hid (fun w1 (R : SRd w1 s h) => kCheck_any s h w1 HW.out R)
  by_cases hk : chkK s = 0
  · have HAT := Lib.hid (fun n e m w1 => at_any n e m w1)
    have H1 := Lib.hid (fun w1 (T : Tab w1) (R : SRd w1 s h) => Rank_any s h key w1 T HW.out R)
    have H2 := Lib.hid (fun w1 (T : Tab w1) (R : SRd w1 s h) => kNext_any s h key w1 T HW.out R)
    have H3 := Lib.hid (fun w1 (T : Tab w1) (R : SRd w1 s h) => kLast_any s h key w1 T HW.out R)
    have H4 := Lib.hid (fun w1 (T : Tab w1) (R : SRd w1 s h) => Find_any s h key w1 T HW.out R)
    have HCN := Lib.hid (fun t w1 (R : SRd w1 s h) => Count_any h.aw h.cw s.ws s.ks.length 0 t w1 HW.out.u R.fw HW.out.lw)
    have HS1 := Lib.hid (fun t w1 (R : SRd w1 s h) => sAt_any s h t w1 HW.out R)
    obtain ⟨hok, hri⟩ := chkK_ok hk
    have hbl := bel_le (allP s) key
    rw [allP_length] at hbl
    have hlen := occs_length s.ws 0 s.ks.length
    have HALL : Hid (cntV s.ws s.ks.length 0 s.ks.length = (((slotsL s).length : Int), 0)) := Lib.hid (by unfold cntV; rw [if_pos (ask_ok (chk_slots hok) (inB_iff.2 ⟨by omega, by omega, by omega⟩))]; simp [slotsL])
    have HC5 := Lib.hid (fun w1 R => HCN.out s.ks.length w1 R)
    rw [HALL.out] at HC5
    rw [show rankV s key = ((bel (allP s) key : Int), 0) from if_pos hk] at H1
    rw [hk] at HC
    have hn1 : s.ks.length ≤ 65536 := by obtain ⟨g, q, o⟩ := okS_iff.1 hok; exact o.n1
    have hll : (slotsL s).length ≤ 65536 := Nat.le_trans (show (slotsL s).length ≤ s.ks.length from hlen) hn1
    clear hlen HALL
    have HNX : Hid (bel (allP s) key < (slotsL s).length → nxtV s key = ((((slotsL s).getD (bel (allP s) key) 0 : Nat) : Int), 0) ∧ Spot s (bel (allP s) key) ((slotsL s).getD (bel (allP s) key) 0) ∧ key ≤ s.ks.getD ((slotsL s).getD (bel (allP s) key) 0) 0) := Lib.hid (fun hb => ⟨by unfold nxtV; rw [if_pos hk, if_pos hb], spot_of hok hb, by
      have h1 := bel_iff hri key (i := bel (allP s) key) (by rw [allP_length]; exact hb)
      rw [allP_getD s hb] at h1
      have h2 : ¬ s.ks.getD ((slotsL s).getD (bel (allP s) key) 0) 0 < key := fun g => absurd (h1.1 g) (Nat.lt_irrefl _)
      omega⟩)
    have HLA : Hid (∀ m, bel (allP s) key = m + 1 → lasV s key = ((((slotsL s).getD m 0 : Nat) : Int), 0) ∧ Spot s m ((slotsL s).getD m 0) ∧ s.ks.getD ((slotsL s).getD m 0) 0 < key) := Lib.hid (fun m hm => ⟨by unfold lasV; rw [if_pos hk, if_neg (by omega), hm, Nat.add_sub_cancel], spot_of hok (by omega), by
      have hb : m < (slotsL s).length := by omega
      have h1 := bel_iff hri key (i := m) (by rw [allP_length]; exact hb)
      rw [allP_getD s hb] at h1
      exact h1.2 (by omega)⟩)
    have HNN : Hid (¬ bel (allP s) key < (slotsL s).length → nxtV s key = (0, 6)) := Lib.hid (fun hb => by unfold nxtV; rw [if_pos hk, if_neg hb])
    have HLN : Hid (bel (allP s) key = 0 → lasV s key = (0, 6)) := Lib.hid (fun hb => by unfold lasV; rw [if_pos hk, if_pos hb])
    have HFV : Hid (findV s key = if (nxtV s key).2 = 0 then (if s.ks.getD (nxtV s key).1.toNat 0 = key then nxtV s key else (0, 6)) else (0, (nxtV s key).2)) := Lib.hid rfl
    clear hk hok hri
    generalize findV s key = VF at *
    generalize nxtV s key = VN at *
    generalize lasV s key = VL at *
    generalize hbk : bel (allP s) key = b at *
    clear hbk
    by_cases hb : b < (slotsL s).length
    · obtain ⟨en, sp, hky⟩ := HNX.out hb
      rw [en] at H2 HFV
      have HA1 := Lib.hid (fun w1 R => HS1.out ((slotsL s).getD b 0 : Nat) w1 R)
      rw [sp.at_] at HA1
      have HA2 := Lib.hid (fun w1 R => HCN.out ((slotsL s).getD b 0 : Nat) w1 R)
      rw [sp.cnt] at HA2
      have HF1 : Hid (VF = if s.ks.getD ((slotsL s).getD b 0) 0 = key then ((((slotsL s).getD b 0 : Nat) : Int), 0) else (0, 6)) := Lib.hid (by rw [HFV.out]; simp)
      have hpy : (pairAt s ((slotsL s).getD b 0)).1 = s.ks.getD ((slotsL s).getD b 0) 0 := rfl
      generalize pairAt s ((slotsL s).getD b 0) = P1 at *
      obtain ⟨y1, y2⟩ := P1
      dsimp only at hpy HA1
      rw [← hpy] at HF1 hky
      clear sp en HFV hpy
      have d1 : decide ((b : Int) < ((slotsL s).length : Int)) = true := by simp; omega
      have d2 : decide (y1 < key) = false := by simp; omega
      generalize hxb : (slotsL s).getD b 0 = xb at *
      clear hxb
      clear HNX HNN
      cases b with
      | zero =>
        have d3 : decide ((0 : Int) < 0) = false := by decide
        rw [HLN.out rfl] at H3
        clear HLA HLN
        by_cases hy : y1 = key
        · have e4 : VF = ((xb : Int), 0) := by rw [HF1.out, if_pos hy]
          have d6 : (y1 == key) = true := by simpa using hy
          rw [e4] at H4
          clear e4 HF1 hy
          go_enter Tryd.func6, Tryd.ntmps6
          go_wp2_with fail
          rw [allocS_fold]
          generalize allocS w s h = w0 at *
          refine (HAL.out _ E0.out.now.2.1).mono ?_
          rintro e w1 ⟨rfl, hb⟩
          have E1 := Lib.hid (E0.out.next hb)
          clear hb
          obtain ⟨⟨⟨bs_0, bs_1, bs_2, bs_3, bs_4, bs_5, -⟩, bs_l⟩, -, -, -⟩ := E1.out.now
          go_wp2_with fail
          clear bs_0 bs_1 bs_2 bs_3 bs_4 bs_5 bs_l
          refine (HG1.out _).mono ?_
          rintro e w2 ⟨rfl, hb⟩
          have E2 := Lib.hid (E1.out.next hb)
          clear hb
          obtain ⟨⟨⟨bs_0, bs_1, bs_2, bs_3, bs_4, bs_5, -⟩, bs_l⟩, -, -, -⟩ := E2.out.now
          go_wp2_with fail
          clear bs_0 bs_1 bs_2 bs_3 bs_4 bs_5 bs_l
          refine (HC.out _ E2.out.now.2.2.1).mono ?_
          rintro e w3 ⟨rfl, hb⟩
          have E3 := Lib.hid (E2.out.next hb)
          clear hb
          obtain ⟨⟨⟨bs_0, bs_1, bs_2, bs_3, bs_4, bs_5, -⟩, bs_l⟩, -, -, -⟩ := E3.out.now
          go_wp2_with fail
          clear bs_0 bs_1 bs_2 bs_3 bs_4 bs_5 bs_l
          refine (H1.out _ E3.out.now.2.1 E3.out.now.2.2.1).mono ?_
          rintro e w4 ⟨rfl, hb⟩
          have E4 := Lib.hid (E3.out.next hb)
          clear hb
          obtain ⟨⟨⟨bs_0, bs_1, bs_2, bs_3, bs_4, bs_5, -⟩, bs_l⟩, -, -, -⟩ := E4.out.now
          go_wp2_with fail
          clear bs_0 bs_1 bs_2 bs_3 bs_4 bs_5 bs_l
          refine (H2.out _ E4.out.now.2.1 E4.out.now.2.2.1).mono ?_
          rintro e w5 ⟨rfl, hb⟩
          have E5 := Lib.hid (E4.out.next hb)
          clear hb
          obtain ⟨⟨⟨bs_0, bs_1, bs_2, bs_3, bs_4, bs_5, -⟩, bs_l⟩, -, -, -⟩ := E5.out.now
          go_wp2_with fail
          clear bs_0 bs_1 bs_2 bs_3 bs_4 bs_5 bs_l
          refine (H3.out _ E5.out.now.2.1 E5.out.now.2.2.1).mono ?_
          rintro e w6 ⟨rfl, hb⟩
          have E6 := Lib.hid (E5.out.next hb)
          clear hb
          obtain ⟨⟨⟨bs_0, bs_1, bs_2, bs_3, bs_4, bs_5, -⟩, bs_l⟩, -, -, -⟩ := E6.out.now
          go_wp2_with fail
          clear bs_0 bs_1 bs_2 bs_3 bs_4 bs_5 bs_l
          refine (H4.out _ E6.out.now.2.1 E6.out.now.2.2.1).mono ?_
          rintro e w7 ⟨rfl, hb⟩
          have E7 := Lib.hid (E6.out.next hb)
          clear hb
          obtain ⟨⟨⟨bs_0, bs_1, bs_2, bs_3, bs_4, bs_5, -⟩, bs_l⟩, -, -, -⟩ := E7.out.now
          go_wp2_with fail
          clear bs_0 bs_1 bs_2 bs_3 bs_4 bs_5 bs_l
          refine (HC5.out _ E7.out.now.2.2.1).mono ?_
          rintro e w8 ⟨rfl, hb⟩
          have E8 := Lib.hid (E7.out.next hb)
          clear hb
          clear HC H1 H2 H3 H4 HC5 HAL HG1
          obtain ⟨⟨⟨bs_0, bs_1, bs_2, bs_3, bs_4, bs_5, -⟩, bs_l⟩, -, -, -⟩ := E8.out.now
          go_wp2_with fail
          clear bs_0 bs_1 bs_2 bs_3 bs_4 bs_5 bs_l
          refine (HA1.out _ E8.out.now.2.2.1).mono ?_
          rintro e w9 ⟨rfl, hb⟩
          have E9 := Lib.hid (E8.out.next hb)
          clear hb
          obtain ⟨⟨⟨bs_0, bs_1, bs_2, bs_3, bs_4, bs_5, -⟩, bs_l⟩, -, -, -⟩ := E9.out.now
          go_wp2_with fail
          clear bs_0 bs_1 bs_2 bs_3 bs_4 bs_5 bs_l
          rw [allocP_fold]
          have E10 := Lib.hid ((E9.out.next (allocP_below w9 y1 y2)).and (St.bp (allocP_bp w9 y1 y2)))
          generalize allocP w9 y1 y2 = w10 at *
          refine (HA2.out _ E10.out.now.2.2.2.1).mono ?_
          rintro e w11 ⟨rfl, hb⟩
          have E11 := Lib.hid (E10.out.next hb)
          clear hb
          obtain ⟨⟨⟨p1_0, p1_1, -⟩, p1_l⟩, -, -, -, -⟩ := E11.out.now
          go_wp2_with fail
          refine (HAT.out _ _ _ _).mono ?_
          rintro e w' ⟨rfl, rfl⟩
          clear p1_0 p1_1 p1_l
          obtain ⟨⟨⟨p1_0, p1_1, -⟩, p1_l⟩, -, -, -, -⟩ := E11.out.now
          go_wp2_with fail
          go_ret
          exact ⟨by simp, E11.out.now.2.2.2.2⟩
        · have e4 : VF = (0, 6) := by rw [HF1.out, if_neg hy]
          have d6 : (y1 == key) = false := by simpa using hy
          rw [e4] at H4
          clear e4 HF1 hy
          go_enter Tryd.func6, Tryd.ntmps6
          go_wp2_with fail
          rw [allocS_fold]
          generalize allocS w s h = w0 at *
          refine (HAL.out _ E0.out.now.2.1).mono ?_
          rintro e w1 ⟨rfl, hb⟩
          have E1 := Lib.hid (E0.out.next hb)
          clear hb
          obtain ⟨⟨⟨bs_0, bs_1, bs_2, bs_3, bs_4, bs_5, -⟩, bs_l⟩, -, -, -⟩ := E1.out.now
          go_wp2_with fail
          clear bs_0 bs_1 bs_2 bs_3 bs_4 bs_5 bs_l
          refine (HG1.out _).mono ?_
          rintro e w2 ⟨rfl, hb⟩
          have E2 := Lib.hid (E1.out.next hb)
          clear hb
          obtain ⟨⟨⟨bs_0, bs_1, bs_2, bs_3, bs_4, bs_5, -⟩, bs_l⟩, -, -, -⟩ := E2.out.now
          go_wp2_with fail
          clear bs_0 bs_1 bs_2 bs_3 bs_4 bs_5 bs_l
          refine (HC.out _ E2.out.now.2.2.1).mono ?_
          rintro e w3 ⟨rfl, hb⟩
          have E3 := Lib.hid (E2.out.next hb)
          clear hb
          obtain ⟨⟨⟨bs_0, bs_1, bs_2, bs_3, bs_4, bs_5, -⟩, bs_l⟩, -, -, -⟩ := E3.out.now
          go_wp2_with fail
          clear bs_0 bs_1 bs_2 bs_3 bs_4 bs_5 bs_l
          refine (H1.out _ E3.out.now.2.1 E3.out.now.2.2.1).mono ?_
          rintro e w4 ⟨rfl, hb⟩
          have E4 := Lib.hid (E3.out.next hb)
          clear hb
          obtain ⟨⟨⟨bs_0, bs_1, bs_2, bs_3, bs_4, bs_5, -⟩, bs_l⟩, -, -, -⟩ := E4.out.now
          go_wp2_with fail
          clear bs_0 bs_1 bs_2 bs_3 bs_4 bs_5 bs_l
          refine (H2.out _ E4.out.now.2.1 E4.out.now.2.2.1).mono ?_
          rintro e w5 ⟨rfl, hb⟩
          have E5 := Lib.hid (E4.out.next hb)
          clear hb
          obtain ⟨⟨⟨bs_0, bs_1, bs_2, bs_3, bs_4, bs_5, -⟩, bs_l⟩, -, -, -⟩ := E5.out.now
          go_wp2_with fail
          clear bs_0 bs_1 bs_2 bs_3 bs_4 bs_5 bs_l
          refine (H3.out _ E5.out.now.2.1 E5.out.now.2.2.1).mono ?_
          rintro e w6 ⟨rfl, hb⟩
          have E6 := Lib.hid (E5.out.next hb)
          clear hb
          obtain ⟨⟨⟨bs_0, bs_1, bs_2, bs_3, bs_4, bs_5, -⟩, bs_l⟩, -, -, -⟩ := E6.out.now
          go_wp2_with fail
          clear bs_0 bs_1 bs_2 bs_3 bs_4 bs_5 bs_l
          refine (H4.out _ E6.out.now.2.1 E6.out.now.2.2.1).mono ?_
          rintro e w7 ⟨rfl, hb⟩
          have E7 := Lib.hid (E6.out.next hb)
          clear hb
          obtain ⟨⟨⟨bs_0, bs_1, bs_2, bs_3, bs_4, bs_5, -⟩, bs_l⟩, -, -, -⟩ := E7.out.now
          go_wp2_with fail
          clear bs_0 bs_1 bs_2 bs_3 bs_4 bs_5 bs_l
          refine (HC5.out _ E7.out.now.2.2.1).mono ?_
          rintro e w8 ⟨rfl, hb⟩
          have E8 := Lib.hid (E7.out.next hb)
          clear hb
          clear HC H1 H2 H3 H4 HC5 HAL HG1
          obtain ⟨⟨⟨bs_0, bs_1, bs_2, bs_3, bs_4, bs_5, -⟩, bs_l⟩, -, -, -⟩ := E8.out.now
          go_wp2_with fail
          clear bs_0 bs_1 bs_2 bs_3 bs_4 bs_5 bs_l
          refine (HA1.out _ E8.out.now.2.2.1).mono ?_
          rintro e w9 ⟨rfl, hb⟩
          have E9 := Lib.hid (E8.out.next hb)
          clear hb
          obtain ⟨⟨⟨bs_0, bs_1, bs_2, bs_3, bs_4, bs_5, -⟩, bs_l⟩, -, -, -⟩ := E9.out.now
          go_wp2_with fail
          clear bs_0 bs_1 bs_2 bs_3 bs_4 bs_5 bs_l
          rw [allocP_fold]
          have E10 := Lib.hid ((E9.out.next (allocP_below w9 y1 y2)).and (St.bp (allocP_bp w9 y1 y2)))
          generalize allocP w9 y1 y2 = w10 at *
          refine (HA2.out _ E10.out.now.2.2.2.1).mono ?_
          rintro e w11 ⟨rfl, hb⟩
          have E11 := Lib.hid (E10.out.next hb)
          clear hb
          obtain ⟨⟨⟨p1_0, p1_1, -⟩, p1_l⟩, -, -, -, -⟩ := E11.out.now
          go_wp2_with fail
          refine (HAT.out _ _ _ _).mono ?_
          rintro e w' ⟨rfl, rfl⟩
          clear p1_0 p1_1 p1_l
          obtain ⟨⟨⟨p1_0, p1_1, -⟩, p1_l⟩, -, -, -, -⟩ := E11.out.now
          go_wp2_with fail
          go_ret
          exact ⟨by simp, E11.out.now.2.2.2.2⟩
      | succ m =>
        obtain ⟨el, sl, hkl⟩ := HLA.out m rfl
        rw [el] at H3
        have HB1 := Lib.hid (fun w1 R => HS1.out ((slotsL s).getD m 0 : Nat) w1 R)
        rw [sl.at_] at HB1
        have HB2 := Lib.hid (fun w1 R => HCN.out ((slotsL s).getD m 0 : Nat) w1 R)
        rw [sl.cnt] at HB2
        have hpz : (pairAt s ((slotsL s).getD m 0)).1 = s.ks.getD ((slotsL s).getD m 0) 0 := rfl
        generalize pairAt s ((slotsL s).getD m 0) = P2 at *
        obtain ⟨z1, z2⟩ := P2
        dsimp only at hpz HB1
        rw [← hpz] at hkl
        clear sl el hpz HLA HLN
        have d3 : decide ((0 : Int) < ((m + 1 : Nat) : Int)) = true := by simp
        have d4 : decide (key ≤ z1) = false := by simp; omega
        have d5 : IntKind.i64.wrap (((m + 1 : Nat) : Int) - 1) = (m : Int) := by rw [IntKind.wrap_i64]; omega
        generalize (slotsL s).getD m 0 = xm at *
        by_cases hy : y1 = key
        · have e4 : VF = ((xb : Int), 0) := by rw [HF1.out, if_pos hy]
          have d6 : (y1 == key) = true := by simpa using hy
          rw [e4] at H4
          clear e4 HF1 hy
          go_enter Tryd.func6, Tryd.ntmps6
          go_wp2_with fail
          rw [allocS_fold]
          generalize allocS w s h = w0 at *
          refine (HAL.out _ E0.out.now.2.1).mono ?_
          rintro e w1 ⟨rfl, hb⟩
          have E1 := Lib.hid (E0.out.next hb)
          clear hb
          obtain ⟨⟨⟨bs_0, bs_1, bs_2, bs_3, bs_4, bs_5, -⟩, bs_l⟩, -, -, -⟩ := E1.out.now
          go_wp2_with fail
          clear bs_0 bs_1 bs_2 bs_3 bs_4 bs_5 bs_l
          refine (HG1.out _).mono ?_
          rintro e w2 ⟨rfl, hb⟩
          have E2 := Lib.hid (E1.out.next hb)
          clear hb
          obtain ⟨⟨⟨bs_0, bs_1, bs_2, bs_3, bs_4, bs_5, -⟩, bs_l⟩, -, -, -⟩ := E2.out.now
          go_wp2_with fail
          clear bs_0 bs_1 bs_2 bs_3 bs_4 bs_5 bs_l
          refine (HC.out _ E2.out.now.2.2.1).mono ?_
          rintro e w3 ⟨rfl, hb⟩
          have E3 := Lib.hid (E2.out.next hb)
          clear hb
          obtain ⟨⟨⟨bs_0, bs_1, bs_2, bs_3, bs_4, bs_5, -⟩, bs_l⟩, -, -, -⟩ := E3.out.now
          go_wp2_with fail
          clear bs_0 bs_1 bs_2 bs_3 bs_4 bs_5 bs_l
          refine (H1.out _ E3.out.now.2.1 E3.out.now.2.2.1).mono ?_
          rintro e w4 ⟨rfl, hb⟩
          have E4 := Lib.hid (E3.out.next hb)
          clear hb
          obtain ⟨⟨⟨bs_0, bs_1, bs_2, bs_3, bs_4, bs_5, -⟩, bs_l⟩, -, -, -⟩ := E4.out.now
          go_wp2_with fail
          clear bs_0 bs_1 bs_2 bs_3 bs_4 bs_5 bs_l
          refine (H2.out _ E4.out.now.2.1 E4.out.now.2.2.1).mono ?_
          rintro e w5 ⟨rfl, hb⟩
          have E5 := Lib.hid (E4.out.next hb)
          clear hb
          obtain ⟨⟨⟨bs_0, bs_1, bs_2, bs_3, bs_4, bs_5, -⟩, bs_l⟩, -, -, -⟩ := E5.out.now
          go_wp2_with fail
          clear bs_0 bs_1 bs_2 bs_3 bs_4 bs_5 bs_l
          refine (H3.out _ E5.out.now.2.1 E5.out.now.2.2.1).mono ?_
          rintro e w6 ⟨rfl, hb⟩
          have E6 := Lib.hid (E5.out.next hb)
          clear hb
          obtain ⟨⟨⟨bs_0, bs_1, bs_2, bs_3, bs_4, bs_5, -⟩, bs_l⟩, -, -, -⟩ := E6.out.now
          go_wp2_with fail
          clear bs_0 bs_1 bs_2 bs_3 bs_4 bs_5 bs_l
          refine (H4.out _ E6.out.now.2.1 E6.out.now.2.2.1).mono ?_
          rintro e w7 ⟨rfl, hb⟩
          have E7 := Lib.hid (E6.out.next hb)
          clear hb
          obtain ⟨⟨⟨bs_0, bs_1, bs_2, bs_3, bs_4, bs_5, -⟩, bs_l⟩, -, -, -⟩ := E7.out.now
          go_wp2_with fail
          clear bs_0 bs_1 bs_2 bs_3 bs_4 bs_5 bs_l
          refine (HC5.out _ E7.out.now.2.2.1).mono ?_
          rintro e w8 ⟨rfl, hb⟩
          have E8 := Lib.hid (E7.out.next hb)
          clear hb
          clear HC H1 H2 H3 H4 HC5 HAL HG1
          obtain ⟨⟨⟨bs_0, bs_1, bs_2, bs_3, bs_4, bs_5, -⟩, bs_l⟩, -, -, -⟩ := E8.out.now
          go_wp2_with fail
          clear bs_0 bs_1 bs_2 bs_3 bs_4 bs_5 bs_l
          refine (HA1.out _ E8.out.now.2.2.1).mono ?_
          rintro e w9 ⟨rfl, hb⟩
          have E9 := Lib.hid (E8.out.next hb)
          clear hb
          obtain ⟨⟨⟨bs_0, bs_1, bs_2, bs_3, bs_4, bs_5, -⟩, bs_l⟩, -, -, -⟩ := E9.out.now
          go_wp2_with fail
          clear bs_0 bs_1 bs_2 bs_3 bs_4 bs_5 bs_l
          rw [allocP_fold]
          have E10 := Lib.hid ((E9.out.next (allocP_below w9 y1 y2)).and (St.bp (allocP_bp w9 y1 y2)))
          generalize allocP w9 y1 y2 = w10 at *
          refine (HA2.out _ E10.out.now.2.2.2.1).mono ?_
          rintro e w11 ⟨rfl, hb⟩
          have E11 := Lib.hid (E10.out.next hb)
          clear hb
          obtain ⟨⟨⟨p1_0, p1_1, -⟩, p1_l⟩, -, -, -, -⟩ := E11.out.now
          go_wp2_with fail
          refine (HAT.out _ _ _ _).mono ?_
          rintro e w' ⟨rfl, rfl⟩
          clear p1_0 p1_1 p1_l
          obtain ⟨⟨⟨p1_0, p1_1, -⟩, p1_l⟩, -, -, -, -⟩ := E11.out.now
          obtain ⟨-, ⟨⟨bs_0, bs_1, bs_2, bs_3, bs_4, bs_5, -⟩, bs_l⟩, -, -, -⟩ := E11.out.now
          go_wp2_with fail
          clear bs_0 bs_1 bs_2 bs_3 bs_4 bs_5 bs_l p1_0 p1_1 p1_l
          refine (HB1.out _ E11.out.now.2.2.2.1).mono ?_
          rintro e w12 ⟨rfl, hb⟩
          have E12 := Lib.hid (E11.out.next hb)
          clear hb
          obtain ⟨-, ⟨⟨bs_0, bs_1, bs_2, bs_3, bs_4, bs_5, -⟩, bs_l⟩, -, -, -⟩ := E12.out.now
          go_wp2_with fail
          clear bs_0 bs_1 bs_2 bs_3 bs_4 bs_5 bs_l
          rw [allocP_fold]
          have E13 := Lib.hid ((E12.out.next (allocP_below w12 z1 z2)).and (St.bp (allocP_bp w12 z1 z2)))
          generalize allocP w12 z1 z2 = w13 at *
          refine (HB2.out _ E13.out.now.2.2.2.2.1).mono ?_
          rintro e w14 ⟨rfl, hb⟩
          have E14 := Lib.hid (E13.out.next hb)
          clear hb
          obtain ⟨⟨⟨p2_0, p2_1, -⟩, p2_l⟩, -, -, -, -, -⟩ := E14.out.now
          go_wp2_with fail
          refine (HAT.out _ _ _ _).mono ?_
          rintro e w' ⟨rfl, rfl⟩
          go_wp2_with fail
          go_ret
          exact ⟨by simp, E14.out.now.2.2.2.2.2⟩
        · have e4 : VF = (0, 6) := by rw [HF1.out, if_neg hy]
          have d6 : (y1 == key) = false := by simpa using hy
          rw [e4] at H4
          clear e4 HF1 hy
          go_enter Tryd.func6, Tryd.ntmps6
          go_wp2_with fail
          rw [allocS_fold]
          generalize allocS w s h = w0 at *
          refine (HAL.out _ E0.out.now.2.1).mono ?_
          rintro e w1 ⟨rfl, hb⟩
          have E1 := Lib.hid (E0.out.next hb)
          clear hb
          obtain ⟨⟨⟨bs_0, bs_1, bs_2, bs_3, bs_4, bs_5, -⟩, bs_l⟩, -, -, -⟩ := E1.out.now
          go_wp2_with fail
          clear bs_0 bs_1 bs_2 bs_3 bs_4 bs_5 bs_l
          refine (HG1.out _).mono ?_
          rintro e w2 ⟨rfl, hb⟩
          have E2 := Lib.hid (E1.out.next hb)
          clear hb
          obtain ⟨⟨⟨bs_0, bs_1, bs_2, bs_3, bs_4, bs_5, -⟩, bs_l⟩, -, -, -⟩ := E2.out.now
          go_wp2_with fail
          clear bs_0 bs_1 bs_2 bs_3 bs_4 bs_5 bs_l
          refine (HC.out _ E2.out.now.2.2.1).mono ?_
          rintro e w3 ⟨rfl, hb⟩
          have E3 := Lib.hid (E2.out.next hb)
          clear hb
          obtain ⟨⟨⟨bs_0, bs_1, bs_2, bs_3, bs_4, bs_5, -⟩, bs_l⟩, -, -, -⟩ := E3.out.now
          go_wp2_with fail
          clear bs_0 bs_1 bs_2 bs_3 bs_4 bs_5 bs_l
          refine (H1.out _ E3.out.now.2.1 E3.out.now.2.2.1).mono ?_
          rintro e w4 ⟨rfl, hb⟩
          have E4 := Lib.hid (E3.out.next hb)
          clear hb
          obtain ⟨⟨⟨bs_0, bs_1, bs_2, bs_3, bs_4, bs_5, -⟩, bs_l⟩, -, -, -⟩ := E4.out.now
          go_wp2_with fail
          clear bs_0 bs_1 bs_2 bs_3 bs_4 bs_5 bs_l
          refine (H2.out _ E4.out.now.2.1 E4.out.now.2.2.1).mono ?_
          rintro e w5 ⟨rfl, hb⟩
          have E5 := Lib.hid (E4.out.next hb)
          clear hb
          obtain ⟨⟨⟨bs_0, bs_1, bs_2, bs_3, bs_4, bs_5, -⟩, bs_l⟩, -, -, -⟩ := E5.out.now
          go_wp2_with fail
          clear bs_0 bs_1 bs_2 bs_3 bs_4 bs_5 bs_l
          refine (H3.out _ E5.out.now.2.1 E5.out.now.2.2.1).mono ?_
          rintro e w6 ⟨rfl, hb⟩
          have E6 := Lib.hid (E5.out.next hb)
          clear hb
          obtain ⟨⟨⟨bs_0, bs_1, bs_2, bs_3, bs_4, bs_5, -⟩, bs_l⟩, -, -, -⟩ := E6.out.now
          go_wp2_with fail
          clear bs_0 bs_1 bs_2 bs_3 bs_4 bs_5 bs_l
          refine (H4.out _ E6.out.now.2.1 E6.out.now.2.2.1).mono ?_
          rintro e w7 ⟨rfl, hb⟩
          have E7 := Lib.hid (E6.out.next hb)
          clear hb
          obtain ⟨⟨⟨bs_0, bs_1, bs_2, bs_3, bs_4, bs_5, -⟩, bs_l⟩, -, -, -⟩ := E7.out.now
          go_wp2_with fail
          clear bs_0 bs_1 bs_2 bs_3 bs_4 bs_5 bs_l
          refine (HC5.out _ E7.out.now.2.2.1).mono ?_
          rintro e w8 ⟨rfl, hb⟩
          have E8 := Lib.hid (E7.out.next hb)
          clear hb
          clear HC H1 H2 H3 H4 HC5 HAL HG1
          obtain ⟨⟨⟨bs_0, bs_1, bs_2, bs_3, bs_4, bs_5, -⟩, bs_l⟩, -, -, -⟩ := E8.out.now
          go_wp2_with fail
          clear bs_0 bs_1 bs_2 bs_3 bs_4 bs_5 bs_l
          refine (HA1.out _ E8.out.now.2.2.1).mono ?_
          rintro e w9 ⟨rfl, hb⟩
          have E9 := Lib.hid (E8.out.next hb)
          clear hb
          obtain ⟨⟨⟨bs_0, bs_1, bs_2, bs_3, bs_4, bs_5, -⟩, bs_l⟩, -, -, -⟩ := E9.out.now
          go_wp2_with fail
          clear bs_0 bs_1 bs_2 bs_3 bs_4 bs_5 bs_l
          rw [allocP_fold]
          have E10 := Lib.hid ((E9.out.next (allocP_below w9 y1 y2)).and (St.bp (allocP_bp w9 y1 y2)))
          generalize allocP w9 y1 y2 = w10 at *
          refine (HA2.out _ E10.out.now.2.2.2.1).mono ?_
          rintro e w11 ⟨rfl, hb⟩
          have E11 := Lib.hid (E10.out.next hb)
          clear hb
          obtain ⟨⟨⟨p1_0, p1_1, -⟩, p1_l⟩, -, -, -, -⟩ := E11.out.now
          go_wp2_with fail
          refine (HAT.out _ _ _ _).mono ?_
          rintro e w' ⟨rfl, rfl⟩
          clear p1_0 p1_1 p1_l
          obtain ⟨⟨⟨p1_0, p1_1, -⟩, p1_l⟩, -, -, -, -⟩ := E11.out.now
          obtain ⟨-, ⟨⟨bs_0, bs_1, bs_2, bs_3, bs_4, bs_5, -⟩, bs_l⟩, -, -, -⟩ := E11.out.now
          go_wp2_with fail
          clear bs_0 bs_1 bs_2 bs_3 bs_4 bs_5 bs_l p1_0 p1_1 p1_l
          refine (HB1.out _ E11.out.now.2.2.2.1).mono ?_
          rintro e w12 ⟨rfl, hb⟩
          have E12 := Lib.hid (E11.out.next hb)
          clear hb
          obtain ⟨-, ⟨⟨bs_0, bs_1, bs_2, bs_3, bs_4, bs_5, -⟩, bs_l⟩, -, -, -⟩ := E12.out.now
          go_wp2_with fail
          clear bs_0 bs_1 bs_2 bs_3 bs_4 bs_5 bs_l
          rw [allocP_fold]
          have E13 := Lib.hid ((E12.out.next (allocP_below w12 z1 z2)).and (St.bp (allocP_bp w12 z1 z2)))
          generalize allocP w12 z1 z2 = w13 at *
          refine (HB2.out _ E13.out.now.2.2.2.2.1).mono ?_
          rintro e w14 ⟨rfl, hb⟩
          have E14 := Lib.hid (E13.out.next hb)
          clear hb
          obtain ⟨⟨⟨p2_0, p2_1, -⟩, p2_l⟩, -, -, -, -, -⟩ := E14.out.now
          go_wp2_with fail
          refine (HAT.out _ _ _ _).mono ?_
          rintro e w' ⟨rfl, rfl⟩
          go_wp2_with fail
          go_ret
          exact ⟨by simp, E14.out.now.2.2.2.2.2⟩
    · rw [HNN.out hb] at H2 HFV
      have HF1 : Hid (VF = (0, 6)) := Lib.hid (by rw [HFV.out]; simp)
      rw [HF1.out] at H4
      clear HFV
      have d1 : decide ((b : Int) < ((slotsL s).length : Int)) = false := by simp; omega
      clear HNX HNN
      cases b with
      | zero =>
        have d3 : decide ((0 : Int) < 0) = false := by decide
        rw [HLN.out rfl] at H3
        clear HLA HLN
        go_enter Tryd.func6, Tryd.ntmps6
        go_wp2_with fail
        rw [allocS_fold]
        generalize allocS w s h = w0 at *
        refine (HAL.out _ E0.out.now.2.1).mono ?_
        rintro e w1 ⟨rfl, hb⟩
        have E1 := Lib.hid (E0.out.next hb)
        clear hb
        obtain ⟨⟨⟨bs_0, bs_1, bs_2, bs_3, bs_4, bs_5, -⟩, bs_l⟩, -, -, -⟩ := E1.out.now
        go_wp2_with fail
        clear bs_0 bs_1 bs_2 bs_3 bs_4 bs_5 bs_l
        refine (HG1.out _).mono ?_
        rintro e w2 ⟨rfl, hb⟩
        have E2 := Lib.hid (E1.out.next hb)
        clear hb
        obtain ⟨⟨⟨bs_0, bs_1, bs_2, bs_3, bs_4, bs_5, -⟩, bs_l⟩, -, -, -⟩ := E2.out.now
        go_wp2_with fail
        clear bs_0 bs_1 bs_2 bs_3 bs_4 bs_5 bs_l
        refine (HC.out _ E2.out.now.2.2.1).mono ?_
        rintro e w3 ⟨rfl, hb⟩
        have E3 := Lib.hid (E2.out.next hb)
        clear hb
        obtain ⟨⟨⟨bs_0, bs_1, bs_2, bs_3, bs_4, bs_5, -⟩, bs_l⟩, -, -, -⟩ := E3.out.now
        go_wp2_with fail
        clear bs_0 bs_1 bs_2 bs_3 bs_4 bs_5 bs_l
        refine (H1.out _ E3.out.now.2.1 E3.out.now.2.2.1).mono ?_
        rintro e w4 ⟨rfl, hb⟩
        have E4 := Lib.hid (E3.out.next hb)
        clear hb
        obtain ⟨⟨⟨bs_0, bs_1, bs_2, bs_3, bs_4, bs_5, -⟩, bs_l⟩, -, -, -⟩ := E4.out.now
        go_wp2_with fail
        clear bs_0 bs_1 bs_2 bs_3 bs_4 bs_5 bs_l
        refine (H2.out _ E4.out.now.2.1 E4.out.now.2.2.1).mono ?_
        rintro e w5 ⟨rfl, hb⟩
        have E5 := Lib.hid (E4.out.next hb)
        clear hb
        obtain ⟨⟨⟨bs_0, bs_1, bs_2, bs_3, bs_4, bs_5, -⟩, bs_l⟩, -, -, -⟩ := E5.out.now
        go_wp2_with fail
        clear bs_0 bs_1 bs_2 bs_3 bs_4 bs_5 bs_l
        refine (H3.out _ E5.out.now.2.1 E5.out.now.2.2.1).mono ?_
        rintro e w6 ⟨rfl, hb⟩
        have E6 := Lib.hid (E5.out.next hb)
        clear hb
        obtain ⟨⟨⟨bs_0, bs_1, bs_2, bs_3, bs_4, bs_5, -⟩, bs_l⟩, -, -, -⟩ := E6.out.now
        go_wp2_with fail
        clear bs_0 bs_1 bs_2 bs_3 bs_4 bs_5 bs_l
        refine (H4.out _ E6.out.now.2.1 E6.out.now.2.2.1).mono ?_
        rintro e w7 ⟨rfl, hb⟩
        have E7 := Lib.hid (E6.out.next hb)
        clear hb
        obtain ⟨⟨⟨bs_0, bs_1, bs_2, bs_3, bs_4, bs_5, -⟩, bs_l⟩, -, -, -⟩ := E7.out.now
        go_wp2_with fail
        clear bs_0 bs_1 bs_2 bs_3 bs_4 bs_5 bs_l
        refine (HC5.out _ E7.out.now.2.2.1).mono ?_
        rintro e w8 ⟨rfl, hb⟩
        have E8 := Lib.hid (E7.out.next hb)
        clear hb
        clear HC H1 H2 H3 H4 HC5 HAL HG1
        go_wp2_with fail
        go_ret
        exact ⟨by simp, E8.out.now.2.2.2⟩
      | succ m =>
        obtain ⟨el, sl, hkl⟩ := HLA.out m rfl
        rw [el] at H3
        have HB1 := Lib.hid (fun w1 R => HS1.out ((slotsL s).getD m 0 : Nat) w1 R)
        rw [sl.at_] at HB1
        have HB2 := Lib.hid (fun w1 R => HCN.out ((slotsL s).getD m 0 : Nat) w1 R)
        rw [sl.cnt] at HB2
        have hpz : (pairAt s ((slotsL s).getD m 0)).1 = s.ks.getD ((slotsL s).getD m 0) 0 := rfl
        generalize pairAt s ((slotsL s).getD m 0) = P2 at *
        obtain ⟨z1, z2⟩ := P2
        dsimp only at hpz HB1
        rw [← hpz] at hkl
        clear sl el hpz HLA HLN
        have d3 : decide ((0 : Int) < ((m + 1 : Nat) : Int)) = true := by simp
        have d4 : decide (key ≤ z1) = false := by simp; omega
        have d5 : IntKind.i64.wrap (((m + 1 : Nat) : Int) - 1) = (m : Int) := by rw [IntKind.wrap_i64]; omega
        generalize (slotsL s).getD m 0 = xm at *
        go_enter Tryd.func6, Tryd.ntmps6
        go_wp2_with fail
        rw [allocS_fold]
        generalize allocS w s h = w0 at *
        refine (HAL.out _ E0.out.now.2.1).mono ?_
        rintro e w1 ⟨rfl, hb⟩
        have E1 := Lib.hid (E0.out.next hb)
        clear hb
        obtain ⟨⟨⟨bs_0, bs_1, bs_2, bs_3, bs_4, bs_5, -⟩, bs_l⟩, -, -, -⟩ := E1.out.now
        go_wp2_with fail
        clear bs_0 bs_1 bs_2 bs_3 bs_4 bs_5 bs_l
        refine (HG1.out _).mono ?_
        rintro e w2 ⟨rfl, hb⟩
        have E2 := Lib.hid (E1.out.next hb)
        clear hb
        obtain ⟨⟨⟨bs_0, bs_1, bs_2, bs_3, bs_4, bs_5, -⟩, bs_l⟩, -, -, -⟩ := E2.out.now
        go_wp2_with fail
        clear bs_0 bs_1 bs_2 bs_3 bs_4 bs_5 bs_l
        refine (HC.out _ E2.out.now.2.2.1).mono ?_
        rintro e w3 ⟨rfl, hb⟩
        have E3 := Lib.hid (E2.out.next hb)
        clear hb
        obtain ⟨⟨⟨bs_0, bs_1, bs_2, bs_3, bs_4, bs_5, -⟩, bs_l⟩, -, -, -⟩ := E3.out.now
        go_wp2_with fail
        clear bs_0 bs_1 bs_2 bs_3 bs_4 bs_5 bs_l
        refine (H1.out _ E3.out.now.2.1 E3.out.now.2.2.1).mono ?_
        rintro e w4 ⟨rfl, hb⟩
        have E4 := Lib.hid (E3.out.next hb)
        clear hb
        obtain ⟨⟨⟨bs_0, bs_1, bs_2, bs_3, bs_4, bs_5, -⟩, bs_l⟩, -, -, -⟩ := E4.out.now
        go_wp2_with fail
        clear bs_0 bs_1 bs_2 bs_3 bs_4 bs_5 bs_l
        refine (H2.out _ E4.out.now.2.1 E4.out.now.2.2.1).mono ?_
        rintro e w5 ⟨rfl, hb⟩
        have E5 := Lib.hid (E4.out.next hb)
        clear hb
        obtain ⟨⟨⟨bs_0, bs_1, bs_2, bs_3, bs_4, bs_5, -⟩, bs_l⟩, -, -, -⟩ := E5.out.now
        go_wp2_with fail
        clear bs_0 bs_1 bs_2 bs_3 bs_4 bs_5 bs_l
        refine (H3.out _ E5.out.now.2.1 E5.out.now.2.2.1).mono ?_
        rintro e w6 ⟨rfl, hb⟩
        have E6 := Lib.hid (E5.out.next hb)
        clear hb
        obtain ⟨⟨⟨bs_0, bs_1, bs_2, bs_3, bs_4, bs_5, -⟩, bs_l⟩, -, -, -⟩ := E6.out.now
        go_wp2_with fail
        clear bs_0 bs_1 bs_2 bs_3 bs_4 bs_5 bs_l
        refine (H4.out _ E6.out.now.2.1 E6.out.now.2.2.1).mono ?_
        rintro e w7 ⟨rfl, hb⟩
        have E7 := Lib.hid (E6.out.next hb)
        clear hb
        obtain ⟨⟨⟨bs_0, bs_1, bs_2, bs_3, bs_4, bs_5, -⟩, bs_l⟩, -, -, -⟩ := E7.out.now
        go_wp2_with fail
        clear bs_0 bs_1 bs_2 bs_3 bs_4 bs_5 bs_l
        refine (HC5.out _ E7.out.now.2.2.1).mono ?_
        rintro e w8 ⟨rfl, hb⟩
        have E8 := Lib.hid (E7.out.next hb)
        clear hb
        clear HC H1 H2 H3 H4 HC5 HAL HG1
        obtain ⟨⟨⟨bs_0, bs_1, bs_2, bs_3, bs_4, bs_5, -⟩, bs_l⟩, -, -, -⟩ := E8.out.now
        go_wp2_with fail
        clear bs_0 bs_1 bs_2 bs_3 bs_4 bs_5 bs_l
        refine (HB1.out _ E8.out.now.2.2.1).mono ?_
        rintro e w9 ⟨rfl, hb⟩
        have E9 := Lib.hid (E8.out.next hb)
        clear hb
        obtain ⟨⟨⟨bs_0, bs_1, bs_2, bs_3, bs_4, bs_5, -⟩, bs_l⟩, -, -, -⟩ := E9.out.now
        go_wp2_with fail
        clear bs_0 bs_1 bs_2 bs_3 bs_4 bs_5 bs_l
        rw [allocP_fold]
        have E10 := Lib.hid ((E9.out.next (allocP_below w9 z1 z2)).and (St.bp (allocP_bp w9 z1 z2)))
        generalize allocP w9 z1 z2 = w10 at *
        refine (HB2.out _ E10.out.now.2.2.2.1).mono ?_
        rintro e w11 ⟨rfl, hb⟩
        have E11 := Lib.hid (E10.out.next hb)
        clear hb
        obtain ⟨⟨⟨p2_0, p2_1, -⟩, p2_l⟩, -, -, -, -⟩ := E11.out.now
        go_wp2_with fail
        refine (HAT.out _ _ _ _).mono ?_
        rintro e w' ⟨rfl, rfl⟩
        go_wp2_with fail
        go_ret
        exact ⟨by simp, E11.out.now.2.2.2.2⟩
  · have hne : (chkK s != 0) = true := by rw [bne_iff_ne]; exact hk
    generalize chkK s = c at *
    clear hk
    go_enter Tryd.func6, Tryd.ntmps6
    go_wp2_with fail
    rw [allocS_fold]
    generalize allocS w s h = w0 at *
    refine (HAL.out _ E0.out.now.2.1).mono ?_
    rintro e w1 ⟨rfl, hb⟩
    have E1 := Lib.hid (E0.out.next hb)
    clear hb
    obtain ⟨⟨⟨bs_0, bs_1, bs_2, bs_3, bs_4, bs_5, -⟩, bs_l⟩, -, -, -⟩ := E1.out.now
    go_wp2_with fail
    clear bs_0 bs_1 bs_2 bs_3 bs_4 bs_5 bs_l
    refine (HG1.out _).mono ?_
    rintro e w2 ⟨rfl, hb⟩
    have E2 := Lib.hid (E1.out.next hb)
    clear hb
    obtain ⟨⟨⟨bs_0, bs_1, bs_2, bs_3, bs_4, bs_5, -⟩, bs_l⟩, -, -, -⟩ := E2.out.now
    go_wp2_with fail
    clear bs_0 bs_1 bs_2 bs_3 bs_4 bs_5 bs_l
    refine (HC.out _ E2.out.now.2.2.1).mono ?_
    rintro e w3 ⟨rfl, hb⟩
    have E3 := Lib.hid (E2.out.next hb)
    clear hb
    go_wp2
    go_ret
    exact ⟨by simp, E3.out.now.2.2.2⟩
end Go.Proofs.YtljfbhkoppahaaaDoor.Seek
