/- Package seek's laws: the chapter's slots; is that what was asked for; the chapter's examples. The law SeekNames: its walk. -/
import Derived.Test.YtljfbhkoppahaaaDoorMam
set_option linter.unusedSimpArgs false
set_option linter.unusedVariables false
namespace Go.Proofs.YtljfbhkoppahaaaDoor.Seek
open Go.RowKit Go.Shelf Go.Sort Go.Proofs.YtljfbhkoppahaaaDoor Go.Proofs.YtljfbhkoppahaaaDoor.Occ Go.Proofs.YtljfbhkoppahaaaDoor.Slo
attribute [local go_sem] sval Oper.semAt_some

theorem wfS {s : Sl} (h1 : (Lit.int .i64 s.seg).wf = true) (h2 : (s.ws.all fun z => decide (0 ≤ z ∧ z < 18446744073709551616)) = true) (h3 : decide (0 ≤ s.laid ∧ s.laid < 18446744073709551616) = true)
    (h4 : decide (s.ws.length ≤ 100000 ∧ s.ks.length ≤ 100000 ∧ s.vs.length ≤ 100000 ∧ s.cs.length ≤ 100000) = true) : s.Wf := wf_of h1 h2 h3 (by simpa using h4)
def chV : Sl := layV (layV (emptyV 4 8) 1 5 0) 6 9 0
theorem chV_plain : ∃ V0 V1 V2 : Sl, newSV 4 8 = (V0, 0) ∧ V0.Wf ∧ laySV V0 1 5 0 = (V1, 0) ∧ V1.Wf ∧ laySV V1 6 9 0 = (V2, 0) ∧ V2 = chV :=
  ⟨emptyV 4 8, layV (emptyV 4 8) 1 5 0, chV, by decide +kernel, wfS (by decide +kernel) (by decide +kernel) (by decide +kernel) (by decide +kernel), by decide +kernel, wfS (by decide +kernel) (by decide +kernel) (by decide +kernel) (by decide +kernel), by decide +kernel, rfl⟩
theorem chV_wf : chV.Wf := wfS (by decide +kernel) (by decide +kernel) (by decide +kernel) (by decide +kernel)
set_option maxRecDepth 100000 in
set_option maxHeartbeats 4000000 in
theorem chapter_any (w : World) : Calls Tryd.prog 20 #[] w fun e w' => ∃ h', e = .returned (sval chV h') ∧ SOwn w' w.heap.size w'.heap.size chV h' ∧ Below w.heap.size w w' := by
  obtain ⟨V0, V1, V2, e0, wf0, e1, wf1, e2, ez⟩ := chV_plain
  have HN := Lib.hid (fun w1 => New_any 4 8 w1 (by decide) (by decide))
  rw [e0] at HN
  have HL1 := Lib.hid (fun h1 w1 R => Lay_any V0 h1 1 5 0 w1 wf0 R)
  rw [e1] at HL1
  have HL2 := Lib.hid (fun h1 w1 R => Lay_any V1 h1 6 9 0 w1 wf1 R)
  rw [e2] at HL2
  rw [← ez]
  clear e0 wf0 e1 wf1 e2 ez
  go_enter Tryd.func20, Tryd.ntmps20
  have E0 := Lib.hid (((St.below' (allocS_below w noneS noneH))).and (St.bs (allocS_bs w noneS noneH)))
  go_wp2_with fail
  rw [show w.alloc (.cells #[.int .i64 0, .slice Option.none 0 0, .slice Option.none 0 0, .slice Option.none 0 0, .slice Option.none 0 0, .int .u64 0] 27) = allocS w noneS noneH from rfl]
  generalize hw0 : allocS w noneS noneH = w0 at *
  have hz0 : w0.heap.size = w.heap.size + 1 := by rw [← hw0, allocS_size]
  clear hw0
  refine (HN.out _).mono ?_
  rintro e w1 ⟨hd0, rfl, ho, hb⟩
  have E1 := Lib.hid ((E0.out.next hb).and (St.own ho))
  clear hb
  clear ho
  go_wp2_with fail
  rw [allocS_fold]
  have E2 := Lib.hid ((E1.out.next (allocS_below w1 V0 hd0)).and (St.bs (allocS_bs w1 V0 hd0)))
  generalize allocS w1 V0 hd0 = w2 at *
  refine (HL1.out hd0 _ (SOwn.rd E2.out.now.2.1)).mono ?_
  rintro e w3 ⟨hd1, rfl, ho, hb⟩
  have E3 := Lib.hid ((E2.out.next hb).and (St.own ho))
  clear hb
  clear ho
  obtain ⟨-, ⟨⟨bs_0, bs_1, bs_2, bs_3, bs_4, bs_5, -⟩, bs_l⟩, -, -, -⟩ := E3.out.now
  have fb := E3.out.now.2.1.box.f
  have f0 := fb 0; have f1 := fb 1; have f2 := fb 2; have f3 := fb 3; have f4 := fb 4; have f5 := fb 5
  clear fb
  go_wp2_with fail
  rw [stS_fold]
  clear bs_0 bs_1 bs_2 bs_3 bs_4 bs_5 bs_l
  clear f0 f1 f2 f3 f4 f5
  have hz1 : w.heap.size < w1.heap.size := E1.out.now.2.1.lt
  have hz2 : w1.heap.size < w2.heap.size := E2.out.now.1.lt
  have hst : Below w1.heap.size w3 (stS w3 w1.heap.size V1 hd1) := stS_below (Below.refl _ _) (Nat.le_refl _)
  have hkk : Keeps w1.heap.size w3.heap.size w3.heap.size w3 _ := ⟨hst, fun i h1 h2 => by omega⟩
  have E4 := Lib.hid (((((St.below' (stS_below (p := w1.heap.size) (s := V1) (h := hd1) E3.out.now.2.2.2.2 (Nat.le_of_lt hz1)))).and (St.own (stS_own (s := V1) (h := hd1) E3.out.now.1 hz2))).and (St.bs (stS_bs (s := V1) (h := hd1) E3.out.now.2.1))).and (St.bs (keeps_bs hkk E3.out.now.2.2.2.1 (.inl hz1))))
  clear hst hkk
  generalize stS w3 w1.heap.size V1 hd1 = w4 at *
  clear hz1 hz2
  refine (HL2.out hd1 _ (SOwn.rd E4.out.now.2.2.1)).mono ?_
  rintro e w5 ⟨hd2, rfl, ho, hb⟩
  have E5 := Lib.hid ((E4.out.next hb).and (St.own ho))
  clear hb
  clear ho
  obtain ⟨-, -, ⟨⟨bs_0, bs_1, bs_2, bs_3, bs_4, bs_5, -⟩, bs_l⟩, -, -⟩ := E5.out.now
  have fb := E5.out.now.2.2.1.box.f
  have f0 := fb 0; have f1 := fb 1; have f2 := fb 2; have f3 := fb 3; have f4 := fb 4; have f5 := fb 5
  clear fb
  have hz1 : w.heap.size < w1.heap.size := E1.out.now.2.1.lt
  have hz2 : w1.heap.size < w4.heap.size := E4.out.now.2.1.lt
  have hne : w1.heap.size ≠ w.heap.size := by omega
  have d0 := E5.out.now.2.1.box.c0; have d1 := E5.out.now.2.1.box.c1; have d2 := E5.out.now.2.1.box.c2; have d3 := E5.out.now.2.1.box.c3; have d4 := E5.out.now.2.1.box.c4; have d5 := E5.out.now.2.1.box.c5
  have g := E5.out.now.2.1.box.f
  have g0 := g 0; have g1 := g 1; have g2 := g 2; have g3 := g 3; have g4 := g 4; have g5 := g 5
  clear g
  go_wp2
  rw [stS_fold, stS_fold]
  have hst : Below w1.heap.size w5 (stS w5 w1.heap.size V2 hd2) := stS_below (Below.refl _ _) (Nat.le_refl _)
  have hkk : Keeps w1.heap.size w5.heap.size w5.heap.size w5 _ := ⟨hst, fun i h1 h2 => by omega⟩
  have D4 := stS_box (s := V2) (h := hd2) (keeps_bs hkk E5.out.now.2.1 (.inl hz1)).box
  have q0 := D4.c0; have q1 := D4.c1; have q2 := D4.c2; have q3 := D4.c3; have q4 := D4.c4; have q5 := D4.c5
  refine bodyPost_ret (v := sval V2 hd2) (by simp [results, Tryd.results20, sval, go_sem, q0, q1, q2, q3, q4, q5]) rfl ⟨hd2, rfl, ?_, ?_⟩
  · exact (stS_own (stS_own E5.out.now.1 hz2) (by omega)).mono (by omega) (by rw [stS_size, stS_size]; exact Nat.le_refl _)
  · exact stS_below (stS_below E5.out.now.2.2.2.2 (Nat.le_of_lt hz1)) (Nat.le_refl _)

theorem at_any (n e m : Int) (w : World) : Calls Tryd.prog 23 #[.int .i64 n, .int .i64 e, .int .i64 m] w fun r w' => r = .returned (.bool (decide (e = 0) && decide (n = m))) ∧ w = w' := by
  by_cases he : e = 0
  · subst he
    by_cases hn : n = m
    · subst hn
      go_enter Tryd.func23, Tryd.ntmps23
      go_wp2
      go_ret
      exact ⟨by simp, rfl⟩
    · have h1 : (n == m) = false := by simpa using hn
      go_enter Tryd.func23, Tryd.ntmps23
      go_wp2
      go_ret
      exact ⟨by simp [hn], rfl⟩
  · have h1 : (e == 0) = false := by simpa using he
    go_enter Tryd.func23, Tryd.ntmps23
    go_wp2
    go_ret
    exact ⟨by simp [he], rfl⟩
theorem alive_plain : rankV chV 9 = (1, 0) ∧ findV chV 9 = (6, 0) ∧ nxtV chV 6 = (6, 0) ∧ lasV chV 9 = (1, 0) := ⟨by decide +kernel, by decide +kernel, by decide +kernel, by decide +kernel⟩
set_option maxRecDepth 100000 in
set_option maxHeartbeats 8000000 in
theorem alive_any (w : World) (hT : Tab w) : Calls Tryd.prog 22 #[] w fun e w' => e = .returned (.bool true) ∧ Below w.heap.size w w' := by
  obtain ⟨e1, e2, e3, e4⟩ := alive_plain
  have HCH := Lib.hid (fun w1 => chapter_any w1)
  have HAT := Lib.hid (fun n e m w1 => at_any n e m w1)
  have H1 := Lib.hid (fun h1 w1 (T : Tab w1) (R : SRd w1 chV h1) => Rank_any chV h1 9 w1 T chV_wf R)
  rw [e1] at H1
  have H2 := Lib.hid (fun h1 w1 (T : Tab w1) (R : SRd w1 chV h1) => Find_any chV h1 9 w1 T chV_wf R)
  rw [e2] at H2
  have H3 := Lib.hid (fun h1 w1 (T : Tab w1) (R : SRd w1 chV h1) => kNext_any chV h1 6 w1 T chV_wf R)
  rw [e3] at H3
  have H4 := Lib.hid (fun h1 w1 (T : Tab w1) (R : SRd w1 chV h1) => kLast_any chV h1 9 w1 T chV_wf R)
  rw [e4] at H4
  generalize chV = C at *
  clear e1 e2 e3 e4
  have E0 := Lib.hid (((St.below w)).and (St.tab hT))
  clear hT
  go_enter Tryd.func22, Tryd.ntmps22
  go_wp2_with fail
  refine (HCH.out _).mono ?_
  rintro e w1 ⟨hc1, rfl, ho, hb⟩
  have E1 := Lib.hid ((E0.out.next hb).and (St.own ho))
  clear hb
  clear ho
  go_wp2_with fail
  refine (H1.out hc1 _ E1.out.now.2.1 (SOwn.rd E1.out.now.1)).mono ?_
  rintro e w2 ⟨rfl, hb⟩
  have E2 := Lib.hid (E1.out.next hb)
  clear hb
  go_wp2_with fail
  refine (HCH.out _).mono ?_
  rintro e w3 ⟨hc2, rfl, ho, hb⟩
  have E3 := Lib.hid ((E2.out.next hb).and (St.own ho))
  clear hb
  clear ho
  go_wp2_with fail
  refine (H2.out hc2 _ E3.out.now.2.2.1 (SOwn.rd E3.out.now.1)).mono ?_
  rintro e w4 ⟨rfl, hb⟩
  have E4 := Lib.hid (E3.out.next hb)
  clear hb
  go_wp2_with fail
  refine (HCH.out _).mono ?_
  rintro e w5 ⟨hc3, rfl, ho, hb⟩
  have E5 := Lib.hid ((E4.out.next hb).and (St.own ho))
  clear hb
  clear ho
  go_wp2_with fail
  refine (H3.out hc3 _ E5.out.now.2.2.2.1 (SOwn.rd E5.out.now.1)).mono ?_
  rintro e w6 ⟨rfl, hb⟩
  have E6 := Lib.hid (E5.out.next hb)
  clear hb
  go_wp2_with fail
  refine (HCH.out _).mono ?_
  rintro e w7 ⟨hc4, rfl, ho, hb⟩
  have E7 := Lib.hid ((E6.out.next hb).and (St.own ho))
  clear hb
  clear ho
  go_wp2_with fail
  refine (H4.out hc4 _ E7.out.now.2.2.2.2.1 (SOwn.rd E7.out.now.1)).mono ?_
  rintro e w8 ⟨rfl, hb⟩
  have E8 := Lib.hid (E7.out.next hb)
  clear hb
  go_wp2_with fail
  refine (HAT.out _ _ _ _).mono ?_
  rintro e w' ⟨rfl, rfl⟩
  go_wp2_with fail
  refine (HAT.out _ _ _ _).mono ?_
  rintro e w' ⟨rfl, rfl⟩
  go_wp2_with fail
  refine (HAT.out _ _ _ _).mono ?_
  rintro e w' ⟨rfl, rfl⟩
  go_wp2_with fail
  refine (HAT.out _ _ _ _).mono ?_
  rintro e w' ⟨rfl, rfl⟩
  go_wp2_with fail
  go_ret
  exact ⟨by simp, E8.out.now.2.2.2.2.2⟩
end Go.Proofs.YtljfbhkoppahaaaDoor.Seek

namespace Go.Proofs.YtljfbhkoppahaaaDoor.Seek
open Go.RowKit Go.Shelf Go.Sort Go.Proofs.YtljfbhkoppahaaaDoor Go.Proofs.YtljfbhkoppahaaaDoor.Occ Go.Proofs.YtljfbhkoppahaaaDoor.Slo
attribute [local go_sem] sval Oper.semAt_some

theorem noneS_rd (w : World) : SRd w noneS noneH := ⟨.inl rfl, .inl rfl, .inl rfl, .inl rfl⟩
theorem noneS_wf : noneS.Wf := wfS (by decide +kernel) (by decide +kernel) (by decide +kernel) (by decide +kernel)
theorem names_plain : ∃ X Y : Sl, nxtV chV 10 = (0, 6) ∧ lasV chV 5 = (0, 6) ∧ findV chV 6 = (0, 6) ∧ rankV chV (-9223372036854775808) = (0, 0) ∧ rankV chV 9223372036854775807 = (2, 0) ∧ laySV chV 7 9 0 = (X, 0) ∧ X.Wf ∧ laySV chV 0 (-9223372036854775808) 0 = (Y, 0) ∧ Y.Wf ∧ findV Y (-9223372036854775808) = (0, 0) ∧ lasV Y (-9223372036854775808) = (0, 6) ∧ chkK X = 130 ∧ chkK noneS = 8 :=
  ⟨(laySV chV 7 9 0).1, (laySV chV 0 (-9223372036854775808) 0).1, by decide +kernel, by decide +kernel, by decide +kernel, by decide +kernel, by decide +kernel, by decide +kernel, wfS (by decide +kernel) (by decide +kernel) (by decide +kernel) (by decide +kernel), by decide +kernel, wfS (by decide +kernel) (by decide +kernel) (by decide +kernel) (by decide +kernel), by decide +kernel, by decide +kernel, by decide +kernel, by decide +kernel⟩
set_option maxRecDepth 100000 in
set_option maxHeartbeats 16000000 in
theorem seekNames (w : World) (hT : Tab w) : Calls Tryd.prog 4 #[] w fun e w' => e = .returned (.bool true) ∧ Below w.heap.size w w' := by
  obtain ⟨X, Y, e1, e2, e3, e4, e5, e6, wx, e7, wy, e8, e9, e10, e11⟩ := names_plain
  have HCH := Lib.hid (fun w1 => chapter_any w1)
  have HAT := Lib.hid (fun n e m w1 => at_any n e m w1)
  have HAL := Lib.hid (fun w1 hT => alive_any w1 hT)
  have H1 := Lib.hid (fun h1 w1 (T : Tab w1) (R : SRd w1 chV h1) => kNext_any chV h1 10 w1 T chV_wf R)
  rw [e1] at H1
  have H2 := Lib.hid (fun h1 w1 (T : Tab w1) (R : SRd w1 chV h1) => kLast_any chV h1 5 w1 T chV_wf R)
  rw [e2] at H2
  have H3 := Lib.hid (fun h1 w1 (T : Tab w1) (R : SRd w1 chV h1) => Find_any chV h1 6 w1 T chV_wf R)
  rw [e3] at H3
  have H4 := Lib.hid (fun h1 w1 (T : Tab w1) (R : SRd w1 chV h1) => Rank_any chV h1 (-9223372036854775808) w1 T chV_wf R)
  rw [e4] at H4
  have H5 := Lib.hid (fun h1 w1 (T : Tab w1) (R : SRd w1 chV h1) => Rank_any chV h1 9223372036854775807 w1 T chV_wf R)
  rw [e5] at H5
  have H6 := Lib.hid (fun h1 w1 (R : SRd w1 chV h1) => Lay_any chV h1 7 9 0 w1 chV_wf R)
  rw [e6] at H6
  have H7 := Lib.hid (fun h1 w1 (R : SRd w1 chV h1) => Lay_any chV h1 0 (-9223372036854775808) 0 w1 chV_wf R)
  rw [e7] at H7
  have H8 := Lib.hid (fun h1 w1 (T : Tab w1) (R : SRd w1 Y h1) => Find_any Y h1 (-9223372036854775808) w1 T wy R)
  rw [e8] at H8
  have H9 := Lib.hid (fun h1 w1 (T : Tab w1) (R : SRd w1 Y h1) => kLast_any Y h1 (-9223372036854775808) w1 T wy R)
  rw [e9] at H9
  have H10 := Lib.hid (fun h1 w1 (R : SRd w1 X h1) => kCheck_any X h1 w1 wx R)
  rw [e10] at H10
  have H11 := Lib.hid (fun w1 => kCheck_any noneS noneH w1 noneS_wf (noneS_rd w1))
  rw [e11] at H11
  generalize chV = C at *
  clear e1 e2 e3 e4 e5 e6 wx e7 wy e8 e9 e10 e11
  have E0 := Lib.hid (((St.below w)).and (St.tab hT))
  clear hT
  go_enter Tryd.func4, Tryd.ntmps4
  go_wp2_with fail
  refine (HCH.out _).mono ?_
  rintro e w1 ⟨hc1, rfl, ho, hb⟩
  have E1 := Lib.hid ((E0.out.next hb).and (St.own ho))
  clear hb
  clear ho
  go_wp2_with fail
  refine (H1.out hc1 _ E1.out.now.2.1 (SOwn.rd E1.out.now.1)).mono ?_
  rintro e w2 ⟨rfl, hb⟩
  have E2 := Lib.hid (E1.out.next hb)
  clear hb
  go_wp2_with fail
  refine (HCH.out _).mono ?_
  rintro e w3 ⟨hc2, rfl, ho, hb⟩
  have E3 := Lib.hid ((E2.out.next hb).and (St.own ho))
  clear hb
  clear ho
  go_wp2_with fail
  refine (H2.out hc2 _ E3.out.now.2.2.1 (SOwn.rd E3.out.now.1)).mono ?_
  rintro e w4 ⟨rfl, hb⟩
  have E4 := Lib.hid (E3.out.next hb)
  clear hb
  go_wp2_with fail
  refine (HCH.out _).mono ?_
  rintro e w5 ⟨hc3, rfl, ho, hb⟩
  have E5 := Lib.hid ((E4.out.next hb).and (St.own ho))
  clear hb
  clear ho
  go_wp2_with fail
  refine (H3.out hc3 _ E5.out.now.2.2.2.1 (SOwn.rd E5.out.now.1)).mono ?_
  rintro e w6 ⟨rfl, hb⟩
  have E6 := Lib.hid (E5.out.next hb)
  clear hb
  go_wp2_with fail
  refine (HCH.out _).mono ?_
  rintro e w7 ⟨hc4, rfl, ho, hb⟩
  have E7 := Lib.hid ((E6.out.next hb).and (St.own ho))
  clear hb
  clear ho
  go_wp2_with fail
  refine (H4.out hc4 _ E7.out.now.2.2.2.2.1 (SOwn.rd E7.out.now.1)).mono ?_
  rintro e w8 ⟨rfl, hb⟩
  have E8 := Lib.hid (E7.out.next hb)
  clear hb
  go_wp2_with fail
  refine (HCH.out _).mono ?_
  rintro e w9 ⟨hc5, rfl, ho, hb⟩
  have E9 := Lib.hid ((E8.out.next hb).and (St.own ho))
  clear hb
  clear ho
  go_wp2_with fail
  refine (H5.out hc5 _ E9.out.now.2.2.2.2.2.1 (SOwn.rd E9.out.now.1)).mono ?_
  rintro e w10 ⟨rfl, hb⟩
  have E10 := Lib.hid (E9.out.next hb)
  clear hb
  go_wp2_with fail
  refine (HCH.out _).mono ?_
  rintro e w11 ⟨hc6, rfl, ho, hb⟩
  have E11 := Lib.hid ((E10.out.next hb).and (St.own ho))
  clear hb
  clear ho
  go_wp2_with fail
  refine (H6.out hc6 _ (SOwn.rd E11.out.now.1)).mono ?_
  rintro e w12 ⟨hx, rfl, ho, hb⟩
  have E12 := Lib.hid ((E11.out.next hb).and (St.own ho))
  clear hb
  clear ho
  go_wp2_with fail
  rw [allocS_fold]
  have E13 := Lib.hid ((E12.out.next (allocS_below w12 X hx)).and (St.bs (allocS_bs w12 X hx)))
  generalize allocS w12 X hx = w13 at *
  refine (HCH.out _).mono ?_
  rintro e w14 ⟨hc7, rfl, ho, hb⟩
  have E14 := Lib.hid ((E13.out.next hb).and (St.own ho))
  clear hb
  clear ho
  go_wp2_with fail
  refine (H7.out hc7 _ (SOwn.rd E14.out.now.1)).mono ?_
  rintro e w15 ⟨hy, rfl, ho, hb⟩
  have E15 := Lib.hid ((E14.out.next hb).and (St.own ho))
  clear hb
  clear ho
  go_wp2_with fail
  rw [allocS_fold]
  have E16 := Lib.hid ((E15.out.next (allocS_below w15 Y hy)).and (St.bs (allocS_bs w15 Y hy)))
  generalize allocS w15 Y hy = w16 at *
  refine (H8.out hy _ E16.out.now.2.2.2.2.2.2.2.2.2.2.2.1 (SOwn.rd E16.out.now.2.1)).mono ?_
  rintro e w17 ⟨rfl, hb⟩
  have E17 := Lib.hid (E16.out.next hb)
  clear hb
  obtain ⟨⟨⟨by_0, by_1, by_2, by_3, by_4, by_5, -⟩, by_l⟩, -, -, -, -, -, -, -, -, -, -, -, -⟩ := E17.out.now
  go_wp2_with fail
  clear by_0 by_1 by_2 by_3 by_4 by_5 by_l
  refine (H9.out hy _ E17.out.now.2.2.2.2.2.2.2.2.2.2.2.1 (SOwn.rd E17.out.now.2.1)).mono ?_
  rintro e w18 ⟨rfl, hb⟩
  have E18 := Lib.hid (E17.out.next hb)
  clear hb
  go_wp2_with fail
  refine (HAL.out _ E18.out.now.2.2.2.2.2.2.2.2.2.2.2.1).mono ?_
  rintro e w19 ⟨rfl, hb⟩
  have E19 := Lib.hid (E18.out.next hb)
  clear hb
  go_wp2_with fail
  refine (HAT.out _ _ _ _).mono ?_
  rintro e w' ⟨rfl, rfl⟩
  go_wp2_with fail
  refine (HAT.out _ _ _ _).mono ?_
  rintro e w' ⟨rfl, rfl⟩
  obtain ⟨-, -, -, ⟨⟨bx_0, bx_1, bx_2, bx_3, bx_4, bx_5, -⟩, bx_l⟩, -, -, -, -, -, -, -, -, -⟩ := E19.out.now
  go_wp2_with fail
  clear bx_0 bx_1 bx_2 bx_3 bx_4 bx_5 bx_l
  refine (H10.out hx _ (SOwn.rd E19.out.now.2.2.2.2.1)).mono ?_
  rintro e w20 ⟨rfl, hb⟩
  have E20 := Lib.hid (E19.out.next hb)
  clear hb
  go_wp2_with fail
  refine (HAT.out _ _ _ _).mono ?_
  rintro e w' ⟨rfl, rfl⟩
  go_wp2_with fail
  refine (H11.out _).mono ?_
  rintro e w21 ⟨rfl, hb⟩
  have E21 := Lib.hid (E20.out.next hb)
  clear hb
  go_wp2_with fail
  go_ret
  exact ⟨by simp, E21.out.now.2.2.2.2.2.2.2.2.2.2.2.2⟩
end Go.Proofs.YtljfbhkoppahaaaDoor.Seek
