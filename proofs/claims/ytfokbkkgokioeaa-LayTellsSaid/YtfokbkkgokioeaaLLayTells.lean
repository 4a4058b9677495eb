/- The law LayTells: its walk. -/
import Derived.Test.YtfokbkkgokioeaaMao
set_option linter.unusedSimpArgs false
set_option linter.unusedVariables false
namespace Go.Proofs.Ytfokbkkgokioeaa.Lay
open Go.RowKit Go.Shelf Go.Sort Go.Proofs.Ytfokbkkgokioeaa Go.Proofs.Ytfokbkkgokioeaa.Occ Go.Proofs.Ytfokbkkgokioeaa.Slo
attribute [local go_sem] sval Oper.semAt_some

set_option maxRecDepth 100000 in
set_option maxHeartbeats 16000000 in
theorem layTells (x : In) (f t k : Int) (p : Pr) (w : World) (wx : x.Ok w) (wf : (Lit.int .i64 f).wf = true) (wt : (Lit.int .i64 t).wf = true) (wk : (Lit.int .i64 k).wf = true) (wp : p.Ok) :
    Calls Try.prog 4 #[x.val, .agg #[.int .i64 f, .int .i64 t], .int .i64 k, p.val] w fun e w' => e = .returned (.bool true) ∧ Below w.heap.size w w' := by
  obtain ⟨s, h, e1, S⟩ := wx.open
  obtain ⟨px, py⟩ := p
  rw [e1]
  unfold Pr.val
  dsimp only
  have HS := Lib.hid S
  clear S e1 wx wf wt wk wp x
  have HG1 := Lib.hid (fun w1 => Great_any s h 300 w1)
  have E0 := Lib.hid ((((((St.below' (in2P_below w s h f t px py))).and (St.rd (HS.out.rd.next (in2P_below w s h f t px py)))).and (St.bs (in2P_bs w s h f t px py))).and (St.bp (in2P_bt w s h f t px py))).and (St.bp (in2P_bp w s h f t px py)))
  cases hg1 : greatB s 300
  case true =>
    rw [hg1] at HG1
    clear hg1
    go_enter Try.func4, Try.ntmps4
    go_wp2_with fail
    rw [allocS_fold, alloc2_fold, allocP_fold, show allocP (alloc2 (allocS w s h) f t) px py = in2P w s h f t px py from rfl]
    refine (HG1.out _).mono ?_
    rintro e w1 ⟨rfl, hb⟩
    have E1 := Lib.hid (E0.out.next hb)
    clear hb
    go_wp2
    go_ret
    exact ⟨rfl, E1.out.now.2.2.2.2⟩
  rw [hg1] at HG1
  have hls := greatB_no (m := 300) hg1
  obtain ⟨hl1, hl2, hl3, hl4⟩ := hls
  have HW := Lib.hid (HS.out.wf ⟨by omega, by omega, by omega, by omega⟩)
  have HSO := Lib.hid (fun h1 h2 w1 R1 R2 => same_refl s h1 h2 w1 R1 R2 ⟨by omega, by omega, by omega, by omega⟩)
  have HX1 := Lib.hid (fun h1 w1 (R : SRd w1 s h1) => Even_any s h1 f t w1 HW.out R)
  have HX2 := Lib.hid (fun w1 (R : SRd w1 s h) => refEven_any s h f t w1 HW.out R HS.out.no)
  have hle := lenLe_even s f t
  generalize evenSV s f t = vX at *
  obtain ⟨X, ex⟩ := vX
  dsimp only at hle
  have HXL : Hid (X.ws.length ≤ 300 ∧ X.ks.length ≤ 300 ∧ X.vs.length ≤ 300 ∧ X.cs.length ≤ 300) := Lib.hid ⟨Nat.le_trans hle.w hl1, Nat.le_trans hle.k hl2, Nat.le_trans hle.v hl3, Nat.le_trans hle.c hl4⟩
  have HXS := Lib.hid (fun h1 h2 w1 R1 R2 => same_refl X h1 h2 w1 R1 R2 ⟨by have := HXL.out; omega, by have := HXL.out; omega, by have := HXL.out; omega, by have := HXL.out; omega⟩)
  clear hle
  have HC1 := Lib.hid (fun h1 w1 (R : SRd w1 s h1) => lWith_any s h1 f t k px py w1 HW.out R)
  have HC2 := Lib.hid (fun w1 (R : SRd w1 s h) => lrefWith_any s h f t k px py w1 HW.out R HS.out.no)
  have hle := lenLe_with s f t k px py
  generalize withSV s f t k px py = vC at *
  obtain ⟨C, ec⟩ := vC
  dsimp only at hle
  have HCL : Hid (C.ws.length ≤ 300 ∧ C.ks.length ≤ 300 ∧ C.vs.length ≤ 300 ∧ C.cs.length ≤ 300) := Lib.hid ⟨Nat.le_trans hle.w hl1, Nat.le_trans hle.k hl2, Nat.le_trans hle.v hl3, Nat.le_trans hle.c hl4⟩
  have HCS := Lib.hid (fun h1 h2 w1 R1 R2 => same_refl C h1 h2 w1 R1 R2 ⟨by have := HCL.out; omega, by have := HCL.out; omega, by have := HCL.out; omega, by have := HCL.out; omega⟩)
  clear hle
  clear hg1 hl1 hl2 hl3 hl4
  go_enter Try.func4, Try.ntmps4
  go_wp2_with fail
  rw [allocS_fold, alloc2_fold, allocP_fold, show allocP (alloc2 (allocS w s h) f t) px py = in2P w s h f t px py from rfl]
  refine (HG1.out _).mono ?_
  rintro e w1 ⟨rfl, hb⟩
  have E1 := Lib.hid (E0.out.next hb)
  clear hb
  obtain ⟨-, -, ⟨⟨bs_0, bs_1, bs_2, bs_3, bs_4, bs_5, -⟩, bs_l⟩, -, -⟩ := E1.out.now
  go_wp2_with fail
  clear bs_0 bs_1 bs_2 bs_3 bs_4 bs_5 bs_l
  refine (refTwin_any s h _ HW.out E1.out.now.2.2.2.1 HS.out.no).mono ?_
  rintro e w2 ⟨h1, rfl, ho, hb⟩
  have E2 := Lib.hid ((((E1.out.next hb).and (St.own ho)).and (St.le hb.size)).and (St.le (Nat.le_refl w2.heap.size)))
  clear hb
  clear ho
  obtain ⟨-, -, -, -, ⟨⟨bt_0, bt_1, -⟩, bt_l⟩, -, -, -⟩ := E2.out.now
  go_wp2_with fail
  clear bt_0 bt_1 bt_l
  rw [allocS_fold]
  have E3 := Lib.hid ((E2.out.next (allocS_below w2 s h1)).and (St.bs (allocS_bs w2 s h1)))
  generalize allocS w2 s h1 = w3 at *
  refine (HX1.out h1 _ (SOwn.rd E3.out.now.2.2.2.1)).mono ?_
  rintro e w4 ⟨hx, rfl, ho, hb⟩
  have E4 := Lib.hid ((((E3.out.next hb).and (St.own ho)).and (St.le hb.size)).and (St.le (Nat.le_refl w4.heap.size)))
  clear hb
  clear ho
  obtain ⟨-, -, -, -, -, -, -, -, ⟨⟨bt_0, bt_1, -⟩, bt_l⟩, ⟨⟨bs_0, bs_1, bs_2, bs_3, bs_4, bs_5, -⟩, bs_l⟩, -, -⟩ := E4.out.now
  go_wp2_with fail
  clear bs_0 bs_1 bs_2 bs_3 bs_4 bs_5 bs_l bt_0 bt_1 bt_l
  rw [allocS_fold]
  have E5 := Lib.hid ((E4.out.next (allocS_below w4 X hx)).and (St.bs (allocS_bs w4 X hx)))
  generalize allocS w4 X hx = w5 at *
  refine (HX2.out _ E5.out.now.2.2.2.2.2.2.2.2.2.2.2.1).mono ?_
  rintro e w6 ⟨hy, rfl, ho, hb⟩
  have E6 := Lib.hid ((((E5.out.next hb).and (St.own ho)).and (St.le hb.size)).and (St.le (Nat.le_refl w6.heap.size)))
  clear hb
  clear ho
  obtain ⟨-, -, -, -, -, -, -, ⟨⟨bown_0, bown_1, bown_2, bown_3, bown_4, bown_5, -⟩, bown_l⟩, -, -, -, ⟨⟨bp_0, bp_1, -⟩, bp_l⟩, ⟨⟨bt_0, bt_1, -⟩, bt_l⟩, -, -, -⟩ := E6.out.now
  go_wp2_with fail
  clear bown_0 bown_1 bown_2 bown_3 bown_4 bown_5 bown_l bt_0 bt_1 bt_l bp_0 bp_1 bp_l
  rw [allocS_fold]
  have E7 := Lib.hid ((E6.out.next (allocS_below w6 X hy)).and (St.bs (allocS_bs w6 X hy)))
  generalize allocS w6 X hy = w7 at *
  refine (HC1.out h1 _ (SOwn.rd E7.out.now.2.2.2.2.2.2.2.2.2.2.2.1)).mono ?_
  rintro e w8 ⟨hc, rfl, ho, hb⟩
  have E8 := Lib.hid ((((E7.out.next hb).and (St.own ho)).and (St.le hb.size)).and (St.le (Nat.le_refl w8.heap.size)))
  clear hb
  clear ho
  obtain ⟨-, -, -, -, -, -, -, -, -, -, -, -, -, -, -, ⟨⟨bp_0, bp_1, -⟩, bp_l⟩, ⟨⟨bt_0, bt_1, -⟩, bt_l⟩, ⟨⟨bs_0, bs_1, bs_2, bs_3, bs_4, bs_5, -⟩, bs_l⟩, -, -⟩ := E8.out.now
  go_wp2_with fail
  clear bs_0 bs_1 bs_2 bs_3 bs_4 bs_5 bs_l bt_0 bt_1 bt_l bp_0 bp_1 bp_l
  rw [allocS_fold]
  have E9 := Lib.hid ((E8.out.next (allocS_below w8 C hc)).and (St.bs (allocS_bs w8 C hc)))
  generalize allocS w8 C hc = w9 at *
  refine (HC2.out _ E9.out.now.2.2.2.2.2.2.2.2.2.2.2.2.2.2.2.2.2.2.2.1).mono ?_
  rintro e w10 ⟨hd, rfl, ho, hb⟩
  have E10 := Lib.hid ((((E9.out.next hb).and (St.own ho)).and (St.le hb.size)).and (St.le (Nat.le_refl w10.heap.size)))
  clear hb
  clear ho
  obtain ⟨-, -, -, -, -, -, -, ⟨⟨by_0, by_1, by_2, by_3, by_4, by_5, -⟩, by_l⟩, -, -, -, ⟨⟨bx_0, bx_1, bx_2, bx_3, bx_4, bx_5, -⟩, bx_l⟩, -, -, -, -, -, -, -, -, -, -, -, -⟩ := E10.out.now
  go_wp2_with fail
  clear bx_0 bx_1 bx_2 bx_3 bx_4 bx_5 bx_l by_0 by_1 by_2 by_3 by_4 by_5 by_l
  rw [allocS_fold]
  have E11 := Lib.hid ((E10.out.next (allocS_below w10 C hd)).and (St.bs (allocS_bs w10 C hd)))
  generalize allocS w10 C hd = w11 at *
  refine (HXS.out hx hy _ (SOwn.rd E11.out.now.2.2.2.2.2.2.2.2.2.2.2.2.2.2.2.1) (SOwn.rd E11.out.now.2.2.2.2.2.2.2.2.2.2.2.1)).mono ?_
  rintro e w12 ⟨rfl, hb⟩
  have E12 := Lib.hid (E11.out.next hb)
  clear hb
  obtain ⟨⟨⟨bd_0, bd_1, bd_2, bd_3, bd_4, bd_5, -⟩, bd_l⟩, -, -, -, ⟨⟨bc_0, bc_1, bc_2, bc_3, bc_4, bc_5, -⟩, bc_l⟩, -, -, -, -, -, -, -, -, -, -, -, -, -, -, -, -, -, -, -, -⟩ := E12.out.now
  go_wp2_with fail
  clear bc_0 bc_1 bc_2 bc_3 bc_4 bc_5 bc_l bd_0 bd_1 bd_2 bd_3 bd_4 bd_5 bd_l
  refine (HCS.out hc hd _ (SOwn.rd E12.out.now.2.2.2.2.2.2.2.1) (SOwn.rd E12.out.now.2.2.2.1)).mono ?_
  rintro e w13 ⟨rfl, hb⟩
  have E13 := Lib.hid (E12.out.next hb)
  clear hb
  obtain ⟨-, -, -, -, -, -, -, -, -, -, -, -, ⟨⟨bx_0, bx_1, bx_2, bx_3, bx_4, bx_5, -⟩, bx_l⟩, -, -, -, -, -, -, -, -, -, -, -, -⟩ := E13.out.now
  go_wp2_with fail
  clear bx_0 bx_1 bx_2 bx_3 bx_4 bx_5 bx_l
  have q1 : w.heap.size < w3.heap.size := E3.out.now.2.2.2.2.2.2.1.lt
  have q2 : w2.heap.size < w3.heap.size := E3.out.now.1.lt
  have q3 : w2.heap.size ≤ w3.heap.size := E3.out.now.2.1
  have q4 : w3.heap.size ≤ w4.heap.size := E4.out.now.2.1
  have q5 : w4.heap.size ≤ w7.heap.size := E7.out.now.2.2.2.2.2.1
  have q6 : w4.heap.size ≤ w8.heap.size := E8.out.now.2.2.2.2.2.2.2.2.1
  have q7 : w7.heap.size ≤ w8.heap.size := E8.out.now.2.1
  have q11 : w8.heap.size ≤ w13.heap.size := E13.out.now.2.2.2.2.2.1
  refine (lspoil_any X hx w3.heap.size w4.heap.size w13 E13.out.now.2.2.2.2.2.2.2.2.2.2.2.2.2.2.2.1 (by omega) (by omega) (by have := HXL.out; omega) (by have := HXL.out; omega) (by have := HXL.out; omega) (by have := HXL.out; omega)).mono ?_
  rintro e w14 ⟨rfl, hk⟩
  have hB := keeps_below hk E13.out.now.2.2.2.2.2.2.2.2.2.2.2.2.2.2.2.2.2.2.2.2.2.2.2.2 (by omega)
  have hsz14 : w13.heap.size ≤ w14.heap.size := hk.below.size
  have E14 := Lib.hid ((((((((St.below' hB)).and (St.rd (HS.out.rd.mono hB (Nat.le_refl _)))).and (St.bs (keeps_bs hk E13.out.now.2.2.2.2.2.2.2.2.2.2.2.2.2.2.2.2.2.2.2.2.2.2.1 (by omega)))).and (St.bs (keeps_bs hk E13.out.now.2.2.2.2.2.2.2.2.2.2.2.2.2.2.2.2.1 (by omega)))).and (St.own (keeps_own hk E13.out.now.2.2.2.2.2.2.2.2.2.2.2.2.2.2.2.2.2.2.2.1 (by omega)))).and (St.own (keeps_own hk E13.out.now.2.2.2.2.2.2.2.1 (by omega)))).and (St.bs (keeps_bs hk E13.out.now.2.2.2.2.1 (by omega))))
  clear hk hB
  obtain ⟨⟨⟨bc_0, bc_1, bc_2, bc_3, bc_4, bc_5, -⟩, bc_l⟩, -, -, -, -, -, -⟩ := E14.out.now
  go_wp2_with fail
  clear bc_0 bc_1 bc_2 bc_3 bc_4 bc_5 bc_l
  refine (lspoil_any C hc w7.heap.size w8.heap.size w14 E14.out.now.2.1 (by omega) (by omega) (by have := HCL.out; omega) (by have := HCL.out; omega) (by have := HCL.out; omega) (by have := HCL.out; omega)).mono ?_
  rintro e w15 ⟨rfl, hk⟩
  have hB := keeps_below hk E14.out.now.2.2.2.2.2.2 (by omega)
  have hsz15 : w14.heap.size ≤ w15.heap.size := hk.below.size
  have E15 := Lib.hid ((((((St.below' hB)).and (St.rd (HS.out.rd.mono hB (Nat.le_refl _)))).and (St.bs (keeps_bs hk E14.out.now.2.2.2.2.1 (by omega)))).and (St.bs (keeps_bs hk E14.out.now.2.2.2.1 (by omega)))).and (St.own (keeps_own hk E14.out.now.2.2.1 (by omega))))
  clear hk hB
  obtain ⟨-, ⟨⟨bown_0, bown_1, bown_2, bown_3, bown_4, bown_5, -⟩, bown_l⟩, ⟨⟨bs_0, bs_1, bs_2, bs_3, bs_4, bs_5, -⟩, bs_l⟩, -, -⟩ := E15.out.now
  go_wp2_with fail
  clear bs_0 bs_1 bs_2 bs_3 bs_4 bs_5 bs_l bown_0 bown_1 bown_2 bown_3 bown_4 bown_5 bown_l
  refine (HSO.out h1 h _ (SOwn.rd E15.out.now.1) E15.out.now.2.2.2.1).mono ?_
  rintro e w16 ⟨rfl, hb⟩
  have E16 := Lib.hid (E15.out.next hb)
  clear hb
  go_wp2_with fail
  go_ret
  exact ⟨by simp, E16.out.now.2.2.2.2⟩
end Go.Proofs.Ytfokbkkgokioeaa.Lay
