/- The law SpanScans: its walk. -/
import Derived.Test.YthkhideonceibaaDoorMaq
set_option linter.unusedSimpArgs false
set_option linter.unusedVariables false
namespace Go.Proofs.YthkhideonceibaaDoor.Span
open Go.RowKit Go.Shelf Go.Sort Go.Proofs.YthkhideonceibaaDoor Go.Proofs.YthkhideonceibaaDoor.Occ Go.Proofs.YthkhideonceibaaDoor.Slo Go.Proofs.YthkhideonceibaaDoor.Seek
attribute [local go_sem] sval Oper.semAt_some

theorem scanV_len (s : Sl) (a b n : Int) : (scanV s a b n).1.length ≤ 1000 := by
  unfold scanV
  split
  · simp
  · split
    · simp
    · rw [List.length_take]; omega
set_option maxRecDepth 100000 in
set_option maxHeartbeats 16000000 in
theorem spanScans (x : In) (a b n : Int) (w : World) (wx : x.Ok w) (wa : (Lit.int .i64 a).wf = true) (wb : (Lit.int .i64 b).wf = true) (wn : (Lit.int .i64 n).wf = true) (hT : Tab w) :
    Calls Tryd.prog 3 #[x.val, .int .i64 a, .int .i64 b, .int .i64 n] w fun e w' => e = .returned (.bool true) ∧ Below w.heap.size w w' := by
  obtain ⟨s, h, e1, S⟩ := wx.open
  rw [e1]
  have HS := Lib.hid S
  have HT := Lib.hid hT
  clear S e1 wx wa wb wn x hT
  have HG1 := Lib.hid (fun w1 => Great_any s h 600 w1)
  have E0 := Lib.hid (((((St.below' (allocS_below w s h))).and (St.rd (HS.out.rd.next (allocS_below w s h)))).and ((St.tab HT.out).next (allocS_below w s h))).and (St.bs (allocS_bs w s h)))
  cases hg1 : greatB s 600
  case true =>
    rw [hg1] at HG1
    clear hg1
    go_enter Tryd.func3, Tryd.ntmps3
    go_wp2_with fail
    rw [allocS_fold]
    refine (HG1.out _).mono ?_
    rintro e w1 ⟨rfl, hb⟩
    have E1 := Lib.hid (E0.out.next hb)
    clear hb
    go_wp2
    go_ret
    exact ⟨rfl, E1.out.now.2.2.2⟩
  rw [hg1] at HG1
  have hls := greatB_no (m := 600) hg1
  obtain ⟨hl1, hl2, hl3, hl4⟩ := hls
  have HW := Lib.hid (HS.out.wf ⟨by omega, by omega, by omega, by omega⟩)
  have HSO := Lib.hid (fun h1 h2 w1 R1 R2 => same_refl s h1 h2 w1 R1 R2 ⟨by omega, by omega, by omega, by omega⟩)
  clear hg1 hl1 hl2 hl3 hl4
  have HA := Lib.hid (fun h1 w1 (T : Tab w1) (R : SRd w1 s h1) => Scan_any s h1 a b n w1 T HW.out R)
  have HB := Lib.hid (fun w1 (R : SRd w1 s h) => refScan_any s h a b n w1 HW.out R)
  have HVL := Lib.hid (scanV_len s a b n)
  generalize scanV s a b n = V at *
  obtain ⟨P, c⟩ := V
  unfold AnsPr at HA HB
  dsimp only at HA HB HVL
  go_enter Tryd.func3, Tryd.ntmps3
  go_wp2_with fail
  rw [allocS_fold]
  refine (HG1.out _).mono ?_
  rintro e w1 ⟨rfl, hb⟩
  have E1 := Lib.hid (E0.out.next hb)
  clear hb
  obtain ⟨⟨⟨bs_0, bs_1, bs_2, bs_3, bs_4, bs_5, -⟩, bs_l⟩, -, -, -⟩ := E1.out.now
  go_wp2_with fail
  clear bs_0 bs_1 bs_2 bs_3 bs_4 bs_5 bs_l
  refine (refTwin_any s h _ HW.out E1.out.now.2.2.1 HS.out.no).mono ?_
  rintro e w2 ⟨h1, rfl, ho, hb⟩
  have E2 := Lib.hid ((E1.out.next hb).and (St.own ho))
  clear hb
  clear ho
  go_wp2_with fail
  rw [allocS_fold]
  have E3 := Lib.hid ((E2.out.next (allocS_below w2 s h1)).and (St.bs (allocS_bs w2 s h1)))
  generalize allocS w2 s h1 = w3 at *
  obtain ⟨⟨⟨bown_0, bown_1, bown_2, bown_3, bown_4, bown_5, -⟩, bown_l⟩, -, -, -, -, -⟩ := E3.out.now
  go_wp2_with fail
  clear bown_0 bown_1 bown_2 bown_3 bown_4 bown_5 bown_l
  refine (HA.out h1 _ E3.out.now.2.2.2.1 (SOwn.rd E3.out.now.2.1)).mono ?_
  rintro e w4 ⟨v, rfl, ho, hb⟩
  have E4 := Lib.hid (((E3.out.next hb).and (St.below' hb)).and (St.row ho))
  clear hb
  obtain ⟨ax, cx, rfl, -, hrx, hcx, -⟩ := owns2_arg ho
  clear ho
  have E5 := Lib.hid ((E4.out.next (Below.refl _ _)).and (St.rd2 hrx))
  clear hrx
  obtain ⟨-, -, -, -, -, ⟨⟨bs_0, bs_1, bs_2, bs_3, bs_4, bs_5, -⟩, bs_l⟩, -, -, -⟩ := E5.out.now
  go_wp2_with fail
  clear bs_0 bs_1 bs_2 bs_3 bs_4 bs_5 bs_l
  refine (HB.out _ E5.out.now.2.2.2.2.2.2.2.1).mono ?_
  rintro e w6 ⟨v, rfl, ho, hb⟩
  have E6 := Lib.hid ((E5.out.next hb).and (St.row ho))
  clear hb
  obtain ⟨ay, cy, rfl, -, hry, hcy, -⟩ := owns2_arg ho
  clear ho
  have E7 := Lib.hid ((E6.out.next (Below.refl _ _)).and (St.rd2 hry))
  clear hry
  go_wp2_with fail
  refine (samePairs_any ax ay cx cy P P _ E7.out.now.2.2.1 E7.out.now.1 (by have := HVL.out; omega) (by have := HVL.out; omega)).mono ?_
  rintro e w8 ⟨rfl, hb⟩
  have E8 := Lib.hid (E7.out.next hb)
  clear hb
  have HX0 : Hid (XInv w3.heap.size w8 w8 ax P.length cx) := Lib.hid ⟨P, rfl, E8.out.now.2.2.2.1, Below.refl _ _⟩
  have HBA := Lib.hid E8.out.now.2.2.2.2.1
  have hpl := HVL.out
  go_wp2
  go_loopw [15] (fun i wr => ∃ k : Nat, k ≤ P.length ∧ i = .int .i64 k ∧ XInv w3.heap.size w8 wr ax P.length cx) (fun i _ => P.length - (intOf i).toNat)
  case atStart => exact ⟨0, Nat.zero_le _, rfl, HX0.out⟩
  case round =>
    obtain ⟨k, hk, rfl, hX⟩ := hrel
    have HX := Lib.hid hX
    clear hX HX0
    by_cases hlt : k < P.length
    case pos =>
      obtain ⟨gx, u, rfl, cg, fg, hT⟩ := HX.out.at hlt
      have HTT := Lib.hid hT
      clear hT
      have wk1 : IntKind.i64.wrap ((k : Int) + 1) = ((k + 1 : Nat) : Int) := by rw [IntKind.wrap_i64]; omega
      go_wp2
      go_roundw
      case rel => exact ⟨k + 1, by omega, by go_num, HTT.out _⟩
      case measure => simp [intOf]; omega
    case neg =>
      obtain rfl : k = P.length := by omega
      have EZ := Lib.hid (E3.out.next (HBA.out.trans HX.out.below))
      clear HX hlt hk
      obtain ⟨⟨⟨bo_0, bo_1, bo_2, bo_3, bo_4, bo_5, -⟩, bo_l⟩, -, ⟨⟨bs_0, bs_1, bs_2, bs_3, bs_4, bs_5, -⟩, bs_l⟩, -, -, -⟩ := EZ.out.now
      go_wp2_with fail
      clear bs_0 bs_1 bs_2 bs_3 bs_4 bs_5 bs_l bo_0 bo_1 bo_2 bo_3 bo_4 bo_5 bo_l
      refine (HSO.out h1 h _ (SOwn.rd EZ.out.now.2.1) EZ.out.now.2.2.2.2.1).mono ?_
      rintro e wz ⟨rfl, hb⟩
      have EY := Lib.hid (EZ.out.next hb)
      clear hb
      go_wp2
      go_ret
      exact ⟨by simp, EY.out.now.2.2.2.2.2⟩
end Go.Proofs.YthkhideonceibaaDoor.Span
