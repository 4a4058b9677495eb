/- The law SlotsTells: its walk. -/
import Derived.Test.YtfdkaahkhgljdaaMap
set_option linter.unusedSimpArgs false
set_option linter.unusedVariables false
namespace Go.Proofs.Ytfdkaahkhgljdaa.Slo
open Go.RowKit Go.Shelf Go.Sort Go.Proofs.Ytfdkaahkhgljdaa Go.Proofs.Ytfdkaahkhgljdaa.Occ Go.Proofs.Ytfdkaahkhgljdaa.Frac
attribute [local go_sem] sval Oper.semAt_some

theorem prsV_len (s : Sl) (a b : Int) : (prsV s a b).1.length ≤ s.ks.length := by
  unfold prsV
  split
  · rename_i h
    obtain ⟨_, hin⟩ := askS_ok h
    obtain ⟨h0, h1, h2⟩ := inB_iff.1 hin
    rw [prs_length]
    have := occs_length s.ws a.toNat (b - a).toNat
    omega
  · simp

theorem pcells_set (P : List (Int × Int)) (k : Nat) (u : Int) (hk : k < P.length) : (pcells P).set (k * 2) (.int .i64 u) = pcells (P.set k (u, (P.getD k (0, 0)).2)) := by
  induction P generalizing k with
  | nil => simp at hk
  | cons p P ih =>
    have e : ∀ (p : Int × Int) P, pcells (p :: P) = .int .i64 p.1 :: .int .i64 p.2 :: pcells P := fun _ _ => rfl
    cases k with
    | zero => simp [e]
    | succ k =>
      rw [e, show (k + 1) * 2 = k * 2 + 1 + 1 by omega, List.set_cons_succ, List.set_cons_succ, ih k (by simpa using hk), List.set_cons_succ, e]
      simp
/-- Pairs of the law's own, while their keys are turned. -/
def XInv (n : Nat) (w wr : World) (a : Option Addr) (l c : Nat) : Prop := ∃ P : List (Int × Int), P.length = l ∧ wr.ownsRow n 43 2 (.slice a l c) l (pcells P) ∧ Below n w wr
theorem XInv.at {n l c k : Nat} {w wr : World} {a : Option Addr} (h : XInv n w wr a l c) (hk : k < l) : ∃ g u, a = some ⟨g, 0, Option.none⟩ ∧ wr.cell? ⟨g, k * 2, Option.none⟩ = some (.int .i64 u) ∧ wr.frozen? ⟨g, k * 2, Option.none⟩ = false ∧
    ∀ x, XInv n w (wr.setCell ⟨g, k * 2, Option.none⟩ (.int .i64 x)) a l c := by
  obtain ⟨P, rfl, ho, hb⟩ := h
  rcases ho.2 with ⟨h1, h2⟩ | ⟨g, cap, cur, h1, hg, _⟩
  · have := pcells_length P
    rw [h2] at this; simp at this; omega
  · simp only [Value.slice.injEq] at h1
    obtain ⟨rfl, -, -⟩ := h1
    refine ⟨g, _, rfl, by rw [ho.cellAt (k * 2) (by omega), (pcells_get P k hk).1], ho.frozenAt _, fun x => ⟨P.set k (x, (P.getD k (0, 0)).2), List.length_set, ?_, hb.setCell hg _⟩⟩
    have := (ho.stored (k * 2) (.int .i64 x)).1
    rwa [pcells_set P k x hk] at this
theorem XInv.below {n l c : Nat} {w wr : World} {a : Option Addr} (h : XInv n w wr a l c) : Below n w wr := by
  obtain ⟨P, _, _, hb⟩ := h; exact hb
theorem keeps_lo {n : Nat} {W W' : World} (hb : Below n W W') : Keeps n W.heap.size W.heap.size W W' := ⟨hb, fun i h1 h2 => by omega⟩
theorem newSV_len (g n : Int) : (newSV g n).1.ws.length ≤ 100000 ∧ (newSV g n).1.ks.length ≤ 100000 ∧ (newSV g n).1.vs.length ≤ 100000 ∧ (newSV g n).1.cs.length ≤ 100000 := by
  unfold newSV
  split
  · rename_i h
    obtain ⟨h1, h2, h3, h4, h5, h6, h7⟩ := fitsB_iff.1 h
    have := Nat.div_le_self n.toNat g.toNat
    simp [emptyV]
    omega
  · simp [noneS]

set_option maxRecDepth 100000 in
set_option maxHeartbeats 8000000 in
theorem slotsTells (x y : In) (a b : Int) (w : World) (wx : x.Ok w) (wy : y.Ok w) (wa : (Lit.int .i64 a).wf = true) (wb : (Lit.int .i64 b).wf = true) :
    Calls Try.prog 4 #[x.val, y.val, .int .i64 a, .int .i64 b] w fun e w' => e = .returned (.bool true) ∧ Below w.heap.size w w' := by
  obtain ⟨s, h, e1, S⟩ := wx.open
  obtain ⟨o, i, e2, O⟩ := wy.open
  rw [e1, e2]
  have HS := Lib.hid S
  have HO := Lib.hid O
  have HWA := Lib.hid wa
  have HWB := Lib.hid wb
  clear S O e1 e2 wx wy wa wb x y
  have HG1 := Lib.hid (fun w1 => Great_any s h 300 w1)
  have HG2 := Lib.hid (fun w1 => Great_any o i 300 w1)
  have E0 := Lib.hid (((((((St.below w).next ((allocS_below w s h).trans ((allocS_below (allocS w s h) o i).mono (by rw [allocS_size]; omega)))).and (St.rd (HS.out.rd.next ((allocS_below w s h).trans ((allocS_below (allocS w s h) o i).mono (by rw [allocS_size]; omega)))))).and (St.rd (HO.out.rd.next ((allocS_below w s h).trans ((allocS_below (allocS w s h) o i).mono (by rw [allocS_size]; omega)))))).and (St.bs ((allocS_bs w s h).next (allocS_below (allocS w s h) o i)))).and (St.bs (allocS_bs2 w s o h i))).and (St.le (W := allocS (allocS w s h) o i) (n := w.heap.size + 2) (by rw [allocS_size, allocS_size]; omega)))
  cases hg1 : greatB s 300
  case true =>
    rw [hg1] at HG1
    clear hg1 HG2
    go_enter Try.func4, Try.ntmps4
    go_wp2_with fail
    rw [allocS_fold, allocS_fold]
    refine (HG1.out _).mono ?_
    rintro e w1 ⟨rfl, hb⟩
    have E1 := Lib.hid (E0.out.next hb)
    clear hb
    go_wp2
    go_ret
    exact ⟨rfl, E1.out.now.2.2.2.2.2⟩
  cases hg2 : greatB o 300
  case true =>
    rw [hg1] at HG1
    rw [hg2] at HG2
    clear hg1 hg2
    go_enter Try.func4, Try.ntmps4
    go_wp2_with fail
    rw [allocS_fold, allocS_fold]
    refine (HG1.out _).mono ?_
    rintro e w1 ⟨rfl, hb⟩
    have E1 := Lib.hid (E0.out.next hb)
    clear hb
    obtain ⟨-, ⟨⟨c0, c1, c2, c3, c4, c5, -⟩, -⟩, -, -, -, -⟩ := E1.out.now
    go_wp2_with fail
    refine (HG2.out _).mono ?_
    rintro e w2 ⟨rfl, hb⟩
    have E2 := Lib.hid (E1.out.next hb)
    clear hb
    go_wp2
    go_ret
    exact ⟨rfl, E2.out.now.2.2.2.2.2⟩
  rw [hg1] at HG1
  rw [hg2] at HG2
  have hls := greatB_no (m := 300) hg1
  have hlo := greatB_no (m := 300) hg2
  obtain ⟨hl1, hl2, hl3, hl4⟩ := hls
  obtain ⟨hl5, hl6, hl7, hl8⟩ := hlo
  have HW := Lib.hid (HS.out.wf ⟨by omega, by omega, by omega, by omega⟩)
  have HLS : Hid (s.ws.length ≤ 1000000000 ∧ s.ks.length ≤ 1000000000 ∧ s.vs.length ≤ 1000000000 ∧ s.cs.length ≤ 1000000000) := Lib.hid ⟨by omega, by omega, by omega, by omega⟩
  have HLO : Hid (o.ws.length ≤ 9223372036854775807 ∧ o.ks.length ≤ 9223372036854775807 ∧ o.vs.length ≤ 9223372036854775807 ∧ o.cs.length ≤ 9223372036854775807) := Lib.hid ⟨by omega, by omega, by omega, by omega⟩
  have HLS2 : Hid (s.ws.length ≤ 9223372036854775807 ∧ s.ks.length ≤ 9223372036854775807 ∧ s.vs.length ≤ 9223372036854775807 ∧ s.cs.length ≤ 9223372036854775807) := Lib.hid ⟨by omega, by omega, by omega, by omega⟩
  have HSR := Lib.hid (sameB_refl s)
  have HN1 := Lib.hid (fun w1 => New_any a b w1 HWA.out HWB.out)
  have HN2 := Lib.hid (fun w1 => refNew_any a b w1 HWA.out HWB.out)
  have HNL := Lib.hid (newSV_len a b)
  have HL3 : Hid (s.ws.length ≤ 300 ∧ s.ks.length ≤ 300 ∧ s.vs.length ≤ 300 ∧ s.cs.length ≤ 300) := Lib.hid ⟨hl1, hl2, hl3, hl4⟩
  have HA1 := Lib.hid (fun h1 w1 (R : SRd w1 s h1) => sAt_any s h1 a w1 HW.out R)
  have HA2 := Lib.hid (fun w1 (R : SRd w1 s h) => refAt_any s h a w1 HW.out R)
  have HP1 := Lib.hid (fun h1 w1 (R : SRd w1 s h1) => sPairs_any s h1 a b w1 HW.out R)
  have HP2 := Lib.hid (fun w1 (R : SRd w1 s h) => refPairs_any s h a b w1 HW.out R)
  have HPL : Hid ((prsV s a b).1.length ≤ 1000000) := Lib.hid (by have := prsV_len s a b; have := hl2; omega)
  generalize atV s a = va at *
  obtain ⟨⟨px, py⟩, pe⟩ := va
  have HCK1 := Lib.hid (fun h1 w1 (R : SRd w1 s h1) => sCheck_any s h1 w1 HW.out R)
  have HCK2 := Lib.hid (fun w1 (R : SRd w1 s h) => sRefCheck_any s h w1 HW.out R)
  have HSM1 := Lib.hid (fun h1 w1 (R : SRd w1 s h1) (R2 : SRd w1 o i) => sSame_any s o h1 i w1 R R2 HLS.out HLO.out)
  have HSM2 := Lib.hid (fun w1 (R : SRd w1 s h) (R2 : SRd w1 o i) => sRefSame_any s o h i w1 R R2 HLS.out HLO.out)
  have HSM3 := Lib.hid (fun h1 w1 (R : SRd w1 s h1) (R2 : SRd w1 s h) => sSame_any s s h1 h w1 R R2 HLS.out HLS2.out)
  have HSM4 := Lib.hid (fun h1 w1 (R : SRd w1 s h1) (R2 : SRd w1 s h) => sRefSame_any s s h1 h w1 R R2 HLS.out HLS2.out)
  rw [sameB_refl] at HSM3 HSM4
  generalize chkS s = ck at *
  generalize sameB s o = so at *
  generalize prsV s a b = vp at *
  obtain ⟨PL, pe2⟩ := vp
  dsimp only at HPL
  have HSP := Lib.hid (fun a1 a2 c1 c2 w1 (R1 : Rd2 w1 a1 PL) (R2 : Rd2 w1 a2 PL) => samePairs_any a1 a2 c1 c2 PL PL w1 R1 R2 HPL.out HPL.out)
  rw [show decide (PL = PL) = true by simp] at HSP
  clear hg1 hg2 hl1 hl2 hl3 hl4 hl5 hl6 hl7 hl8
  go_enter Try.func4, Try.ntmps4
  go_wp2_with fail
  rw [allocS_fold, allocS_fold]
  refine (HG1.out _).mono ?_
  rintro e w1 ⟨rfl, hb⟩
  have E1 := Lib.hid (E0.out.next hb)
  clear hb
  obtain ⟨-, ⟨⟨bo_0, bo_1, bo_2, bo_3, bo_4, bo_5, -⟩, bo_l⟩, -, -, -, -⟩ := E1.out.now
  go_wp2_with fail
  refine (HG2.out _).mono ?_
  rintro e w2 ⟨rfl, hb⟩
  clear bo_0 bo_1 bo_2 bo_3 bo_4 bo_5 bo_l
  have E2 := Lib.hid (E1.out.next hb)
  clear hb
  obtain ⟨-, -, ⟨⟨bs_0, bs_1, bs_2, bs_3, bs_4, bs_5, -⟩, bs_l⟩, -, -, -⟩ := E2.out.now
  go_wp2_with fail
  clear bs_0 bs_1 bs_2 bs_3 bs_4 bs_5 bs_l
  refine (refTwin_any s h _ HW.out E2.out.now.2.2.2.2.1 HS.out.no).mono ?_
  rintro e w3 ⟨h1, rfl, ho, hb⟩
  have E3 := Lib.hid ((((E2.out.next hb).and (St.own ho)).and (St.le hb.size)).and (St.le (Nat.le_refl w3.heap.size)))
  clear hb
  go_wp2_with fail
  rw [allocS_fold]
  have E4 := Lib.hid ((E3.out.next (allocS_below w3 s h1)).and (St.bs (allocS_bs w3 s h1)))
  generalize allocS w3 s h1 = w4 at *
  refine (sTwin_any s h1 _ HW.out (SOwn.rd E4.out.now.2.2.2.1) (SOwn.pl E4.out.now.2.2.2.1)).mono ?_
  rintro e w5 ⟨h2, rfl, ho, hb⟩
  have E5 := Lib.hid ((((E4.out.next hb).and (St.own ho)).and (St.le hb.size)).and (St.le (Nat.le_refl w5.heap.size)))
  clear hb
  obtain ⟨-, -, -, ⟨⟨bown_0, bown_1, bown_2, bown_3, bown_4, bown_5, -⟩, bown_l⟩, -, -, -, -, -, -, -, -, -⟩ := E5.out.now
  go_wp2_with fail
  clear bown_0 bown_1 bown_2 bown_3 bown_4 bown_5 bown_l
  rw [allocS_fold]
  have E6 := Lib.hid ((E5.out.next (allocS_below w5 s h2)).and (St.bs (allocS_bs w5 s h2)))
  generalize allocS w5 s h2 = w6 at *
  refine (HA1.out h1 _ (SOwn.rd E6.out.now.2.2.2.2.2.2.2.1)).mono ?_
  rintro e w7 ⟨rfl, hb⟩
  have E7 := Lib.hid (E6.out.next hb)
  clear hb
  obtain ⟨-, -, -, -, -, -, -, -, -, -, ⟨⟨bs_0, bs_1, bs_2, bs_3, bs_4, bs_5, -⟩, bs_l⟩, -, -, -⟩ := E7.out.now
  go_wp2_with fail
  clear bs_0 bs_1 bs_2 bs_3 bs_4 bs_5 bs_l
  rw [allocP_fold]
  have E8 := Lib.hid ((E7.out.next (allocP_below w7 px py)).and (St.bp (allocP_bp w7 px py)))
  generalize allocP w7 px py = w8 at *
  refine (HA2.out _ E8.out.now.2.2.2.2.2.2.2.2.2.2.2.2.2.1).mono ?_
  rintro e w9 ⟨rfl, hb⟩
  have E9 := Lib.hid (E8.out.next hb)
  clear hb
  obtain ⟨-, -, -, -, -, ⟨⟨bown_0, bown_1, bown_2, bown_3, bown_4, bown_5, -⟩, bown_l⟩, -, -, -, -, -, -, -, -, -⟩ := E9.out.now
  go_wp2_with fail
  clear bown_0 bown_1 bown_2 bown_3 bown_4 bown_5 bown_l
  rw [allocP_fold]
  have E10 := Lib.hid ((E9.out.next (allocP_below w9 px py)).and (St.bp (allocP_bp w9 px py)))
  generalize allocP w9 px py = w10 at *
  refine (HP1.out h1 _ (SOwn.rd E10.out.now.2.2.2.2.2.2.2.2.2.1)).mono ?_
  rintro e w11 ⟨v, rfl, ho, hb⟩
  obtain ⟨ax, cx, rfl, -, hr2, -⟩ := owns2_arg ho
  have E11 := Lib.hid (((((E10.out.next hb).and (St.row ho)).and (St.rd2 hr2)).and (St.le hb.size)).and (St.le (Nat.le_refl w11.heap.size)))
  clear hb
  obtain ⟨-, -, -, -, -, -, -, -, -, -, -, -, -, -, -, -, ⟨⟨bs_0, bs_1, bs_2, bs_3, bs_4, bs_5, -⟩, bs_l⟩, -, -, -⟩ := E11.out.now
  go_wp2_with fail
  clear bs_0 bs_1 bs_2 bs_3 bs_4 bs_5 bs_l
  refine (HP2.out _ E11.out.now.2.2.2.2.2.2.2.2.2.2.2.2.2.2.2.2.2.2.1).mono ?_
  rintro e w12 ⟨v, rfl, ho, hb⟩
  obtain ⟨ay, cy, rfl, -, hr2, -⟩ := owns2_arg ho
  have E12 := Lib.hid ((E11.out.next hb).and (St.rd2 hr2))
  clear hb
  obtain ⟨-, -, -, -, -, ⟨⟨bq_0, bq_1, -⟩, bq_l⟩, ⟨⟨bp_0, bp_1, -⟩, bp_l⟩, ⟨⟨bt_0, bt_1, bt_2, bt_3, bt_4, bt_5, -⟩, bt_l⟩, -, -, -, ⟨⟨bown_0, bown_1, bown_2, bown_3, bown_4, bown_5, -⟩, bown_l⟩, -, -, -, -, ⟨⟨bo_0, bo_1, bo_2, bo_3, bo_4, bo_5, -⟩, bo_l⟩, ⟨⟨bs_0, bs_1, bs_2, bs_3, bs_4, bs_5, -⟩, bs_l⟩, -, -, -⟩ := E12.out.now
  go_wp2_with fail
  clear bs_0 bs_1 bs_2 bs_3 bs_4 bs_5 bs_l bo_0 bo_1 bo_2 bo_3 bo_4 bo_5 bo_l bown_0 bown_1 bown_2 bown_3 bown_4 bown_5 bown_l bt_0 bt_1 bt_2 bt_3 bt_4 bt_5 bt_l bp_0 bp_1 bp_l bq_0 bq_1 bq_l
  have hq : ∀ w : World, (Op.equalIn 10000 43 (.agg #[.int .i64 px, .int .i64 py]) (.agg #[.int .i64 px, .int .i64 py])).run Try.prog w = .ok true w := fun w => by rw [run_equal_pair]; simp
  have hgd : Try.prog.eqGuardType Try.prog.depth 43 = false := by kernel_rfl
  refine region_qb' w12 w12.heap.size (Below.refl _ _) mixed' (by kernel_rfl) fun w13 hB hz => ?_
  have E13 := Lib.hid (E12.out.next hB)
  clear hB hz
  have EC := Lib.hid (fun d os => E13.out.next (below_regrown w13 d os))
  obtain ⟨-, -, -, -, -, ⟨⟨bq_0, bq_1, -⟩, bq_l⟩, ⟨⟨bp_0, bp_1, -⟩, bp_l⟩, ⟨⟨bt_0, bt_1, bt_2, bt_3, bt_4, bt_5, -⟩, bt_l⟩, -, -, -, ⟨⟨bown_0, bown_1, bown_2, bown_3, bown_4, bown_5, -⟩, bown_l⟩, -, -, -, -, ⟨⟨bo_0, bo_1, bo_2, bo_3, bo_4, bo_5, -⟩, bo_l⟩, ⟨⟨bs_0, bs_1, bs_2, bs_3, bs_4, bs_5, -⟩, bs_l⟩, -, -, -⟩ := E13.out.now
  have qbs_0 := cell_regrown bs_0
  have qbs_1 := cell_regrown bs_1
  have qbs_2 := cell_regrown bs_2
  have qbs_3 := cell_regrown bs_3
  have qbs_4 := cell_regrown bs_4
  have qbs_5 := cell_regrown bs_5
  have qbo_0 := cell_regrown bo_0
  have qbo_1 := cell_regrown bo_1
  have qbo_2 := cell_regrown bo_2
  have qbo_3 := cell_regrown bo_3
  have qbo_4 := cell_regrown bo_4
  have qbo_5 := cell_regrown bo_5
  have qbown_0 := cell_regrown bown_0
  have qbown_1 := cell_regrown bown_1
  have qbown_2 := cell_regrown bown_2
  have qbown_3 := cell_regrown bown_3
  have qbown_4 := cell_regrown bown_4
  have qbown_5 := cell_regrown bown_5
  have qbt_0 := cell_regrown bt_0
  have qbt_1 := cell_regrown bt_1
  have qbt_2 := cell_regrown bt_2
  have qbt_3 := cell_regrown bt_3
  have qbt_4 := cell_regrown bt_4
  have qbt_5 := cell_regrown bt_5
  have qbp_0 := cell_regrown bp_0
  have qbp_1 := cell_regrown bp_1
  have qbq_0 := cell_regrown bq_0
  have qbq_1 := cell_regrown bq_1
  clear bs_0 bs_1 bs_2 bs_3 bs_4 bs_5 bs_l bo_0 bo_1 bo_2 bo_3 bo_4 bo_5 bo_l bown_0 bown_1 bown_2 bown_3 bown_4 bown_5 bown_l bt_0 bt_1 bt_2 bt_3 bt_4 bt_5 bt_l bp_0 bp_1 bp_l bq_0 bq_1 bq_l
  repeat (go_big_quiet_step (fail))
  go_big_quiet_step (exact Calls.regrown_of (HCK1.out h1 _ (SOwn.rd (EC.out _ _).now.2.2.2.2.2.2.2.2.2.2.2.2.2.2.1)))
  repeat (go_big_quiet_step (fail))
  go_big_quiet_step (exact Calls.regrown_of (HCK2.out _ (EC.out _ _).now.2.2.2.2.2.2.2.2.2.2.2.2.2.2.2.2.2.2.2.1))
  repeat (go_big_quiet_step (fail))
  go_big_quiet_step (exact Calls.regrown_of (HSM1.out h1 _ (SOwn.rd (EC.out _ _).now.2.2.2.2.2.2.2.2.2.2.2.2.2.2.1) (EC.out _ _).now.2.2.2.2.2.2.2.2.2.2.2.2.2.2.2.2.2.2.1))
  repeat (go_big_quiet_step (fail))
  go_big_quiet_step (exact Calls.regrown_of (HSM2.out _ (EC.out _ _).now.2.2.2.2.2.2.2.2.2.2.2.2.2.2.2.2.2.2.2.1 (EC.out _ _).now.2.2.2.2.2.2.2.2.2.2.2.2.2.2.2.2.2.2.1))
  repeat (go_big_quiet_step (fail))
  go_big_quiet_step (exact Calls.regrown_of (HSM3.out h1 _ (SOwn.rd (EC.out _ _).now.2.2.2.2.2.2.2.2.2.2.2.2.2.2.1) (EC.out _ _).now.2.2.2.2.2.2.2.2.2.2.2.2.2.2.2.2.2.2.2.1))
  repeat (go_big_quiet_step (fail))
  go_big_quiet_step (exact Calls.regrown_of (HSM4.out h2 _ (SOwn.rd (EC.out _ _).now.2.2.2.2.2.2.2.2.2.2.1) (EC.out _ _).now.2.2.2.2.2.2.2.2.2.2.2.2.2.2.2.2.2.2.2.1))
  repeat (go_big_quiet_step (fail))
  go_big_quiet_step (exact Calls.regrown_of (HSP.out _ _ _ _ _ (EC.out _ _).now.2.2.2.1 (EC.out _ _).now.1))
  repeat (go_big_quiet_step (fail))
  refine wpQuiet_nil ?_
  rintro _ ⟨⟨dq, osq⟩, rfl⟩
  have E14 := Lib.hid (EC.out dq osq)
  generalize grow (redrawn w13 dq) osq = w14 at *
  clear EC qbs_0 qbs_1 qbs_2 qbs_3 qbs_4 qbs_5 qbo_0 qbo_1 qbo_2 qbo_3 qbo_4 qbo_5 qbown_0 qbown_1 qbown_2 qbown_3 qbown_4 qbown_5 qbt_0 qbt_1 qbt_2 qbt_3 qbt_4 qbt_5 qbp_0 qbp_1 qbq_0 qbq_1
  obtain ⟨-, -, -, -, -, -, -, ⟨⟨bt_0, bt_1, bt_2, bt_3, bt_4, bt_5, -⟩, bt_l⟩, -, -, -, -, -, -, -, -, -, -, -, -, -⟩ := E14.out.now
  go_wp2_with fail
  clear bt_0 bt_1 bt_2 bt_3 bt_4 bt_5 bt_l
  have hz1 : w.heap.size + 2 ≤ w2.heap.size := E2.out.now.1
  have hz2 : w2.heap.size ≤ w3.heap.size := E3.out.now.2.1
  have hz3 : w3.heap.size < w4.heap.size := E4.out.now.1.lt
  have hz4 : w4.heap.size ≤ w5.heap.size := E5.out.now.2.1
  have hz5 : w5.heap.size ≤ w10.heap.size := E10.out.now.2.2.2.1
  have hz6 : w10.heap.size ≤ w14.heap.size := E14.out.now.2.2.1
  have hz7 : w5.heap.size ≤ w14.heap.size := E14.out.now.2.2.2.2.2.2.2.2.1
  refine (spoil_any s h2 w4.heap.size w5.heap.size w14 E14.out.now.2.2.2.2.2.2.2.2.2.2.1 hz4 hz7 (by have := HL3.out.1; omega) (by have := HL3.out.2.1; omega) (by have := HL3.out.2.2.1; omega) (by have := HL3.out.2.2.2; omega)).mono ?_
  rintro e w15 ⟨rfl, hk⟩
  have hB := keeps_below hk E14.out.now.2.2.2.2.2.2.2.2.2.2.2.2.2.2.2.2.2.2.2.2 (by omega)
  have hX := keeps_row hk E14.out.now.2.2.2.2.1 (fun b hb => .inr (by have := E14.out.now.2.2.2.2.1.lt b hb; omega))
  have E15 := Lib.hid ((((((St.below' hB)).and (St.rd (HS.out.rd.mono hB (Nat.le_refl _)))).and (St.bs (keeps_bs hk E14.out.now.2.2.2.2.2.2.2.2.2.2.2.2.2.2.2.2.2.1 (.inl (by omega))))).and (St.bs (keeps_bs hk E14.out.now.2.2.2.2.2.2.2.2.2.2.2.1 (.inl (by omega))))).and (St.own (keeps_own hk E14.out.now.2.2.2.2.2.2.2.2.2.2.2.2.2.2.1 (.inl (by omega)))))
  have HX0 : Hid (XInv w10.heap.size w15 w15 ax PL.length cx) := Lib.hid ⟨PL, rfl, hX, Below.refl _ _⟩
  have HZ : Hid (w.heap.size + 2 ≤ w2.heap.size ∧ w2.heap.size ≤ w3.heap.size ∧ w3.heap.size < w10.heap.size) := Lib.hid ⟨hz1, hz2, by omega⟩
  clear hX hB hk hz1 hz2 hz3 hz4 hz5 hz6 hz7 hq hgd E1 E2 E3 E4 E5 E6 E7 E8 E9 E10 E11 E12 E13 E14 HG1 HG2 HA1 HA2 HP1 HP2 HCK1 HCK2 HSM1 HSM2 HSM3 HSP
  generalize hN : newSV a b = vn at HN1 HN2 HNL
  clear hN
  obtain ⟨NS, ne⟩ := vn
  dsimp only at HNL
  have HSN := Lib.hid (fun h1 h2 w1 (R1 : SRd w1 NS h1) (R2 : SRd w1 NS h2) => sRefSame_any NS NS h1 h2 w1 R1 R2 ⟨by have := HNL.out; omega, by have := HNL.out; omega, by have := HNL.out; omega, by have := HNL.out; omega⟩ ⟨by have := HNL.out; omega, by have := HNL.out; omega, by have := HNL.out; omega, by have := HNL.out; omega⟩)
  rw [sameB_refl] at HSN
  have hpl := HPL.out
  go_wp2
  go_loopw [20] (fun i wr => ∃ k : Nat, k ≤ PL.length ∧ i = .int .i64 k ∧ XInv w10.heap.size w15 wr ax PL.length cx) (fun i _ => PL.length - (intOf i).toNat)
  case atStart => exact ⟨0, Nat.zero_le _, rfl, HX0.out⟩
  case round =>
    obtain ⟨k, hk, rfl, hX⟩ := hrel
    have HX := Lib.hid hX
    clear hX HX0
    by_cases hlt : k < PL.length
    case pos =>
      obtain ⟨gx, u, rfl, cg, fg, hT⟩ := HX.out.at hlt
      have HT := Lib.hid hT
      clear hT
      have wk1 : IntKind.i64.wrap ((k : Int) + 1) = ((k + 1 : Nat) : Int) := by rw [IntKind.wrap_i64]; omega
      go_wp2
      go_roundw
      case rel => exact ⟨k + 1, by omega, by go_num, HT.out _⟩
      case measure => simp [intOf]; omega
    case neg =>
      obtain rfl : k = PL.length := by omega
      have hnl : ¬ ((PL.length : Int) < (PL.length : Int)) := by omega
      have hb := HX.out.below
      have hkk := keeps_lo hb
      have hz := HZ.out
      have E16 := Lib.hid ((((((St.below' (E15.out.now.2.2.2.2.trans (hb.mono (by omega))))).and (St.rd (HS.out.rd.mono (E15.out.now.2.2.2.2.trans (hb.mono (by omega))) (Nat.le_refl _)))).and (St.bs (keeps_bs hkk E15.out.now.2.2.1 (.inl (by omega))))).and (St.bs (keeps_bs hkk E15.out.now.2.1 (.inl (by omega))))).and (St.own (keeps_own hkk E15.out.now.1 (.inl (by omega)))))
      clear hb hkk hz HX HZ E15 hlt hk
      by_cases hb1 : b ≤ 300
      · go_wp2_with fail
        refine (HN1.out _).mono ?_
        rintro e w17 ⟨hm, rfl, ho, hb⟩
        have E17 := Lib.hid ((E16.out.next hb).and (St.own ho))
        clear hb
        go_wp2_with fail
        rw [allocS_fold]
        have E18 := Lib.hid ((E17.out.next (allocS_below w17 NS hm)).and (St.bs (allocS_bs w17 NS hm)))
        generalize allocS w17 NS hm = w18 at *
        refine (HN2.out _).mono ?_
        rintro e w19 ⟨hn, rfl, ho, hb⟩
        have E19 := Lib.hid ((E18.out.next hb).and (St.own ho))
        clear hb
        obtain ⟨-, ⟨⟨bm_0, bm_1, bm_2, bm_3, bm_4, bm_5, -⟩, bm_l⟩, -, -, -, -, -, -⟩ := E19.out.now
        go_wp2_with fail
        clear bm_0 bm_1 bm_2 bm_3 bm_4 bm_5 bm_l
        rw [allocS_fold]
        have E20 := Lib.hid ((E19.out.next (allocS_below w19 NS hn)).and (St.bs (allocS_bs w19 NS hn)))
        generalize allocS w19 NS hn = w20 at *
        refine (HSN.out hm hn _ (SOwn.rd E20.out.now.2.2.2.1) (SOwn.rd E20.out.now.2.1)).mono ?_
        rintro e w21 ⟨rfl, hb⟩
        have E21 := Lib.hid (E20.out.next hb)
        clear hb
        obtain ⟨-, -, -, -, -, ⟨⟨bown_0, bown_1, bown_2, bown_3, bown_4, bown_5, -⟩, bown_l⟩, ⟨⟨bs_0, bs_1, bs_2, bs_3, bs_4, bs_5, -⟩, bs_l⟩, -, -⟩ := E21.out.now
        go_wp2_with fail
        clear bs_0 bs_1 bs_2 bs_3 bs_4 bs_5 bs_l bown_0 bown_1 bown_2 bown_3 bown_4 bown_5 bown_l
        refine (HSM4.out h1 _ (SOwn.rd E21.out.now.2.2.2.2.1) E21.out.now.2.2.2.2.2.2.2.1).mono ?_
        rintro e w22 ⟨rfl, hb⟩
        have E22 := Lib.hid (E21.out.next hb)
        clear hb
        go_wp2_with fail
        go_ret
        exact ⟨by simp, E22.out.now.2.2.2.2.2.2.2.2⟩
      by_cases hb2 : 65536 < b
      · go_wp2_with fail
        refine (HN1.out _).mono ?_
        rintro e w17 ⟨hm, rfl, ho, hb⟩
        have E17 := Lib.hid ((E16.out.next hb).and (St.own ho))
        clear hb
        go_wp2_with fail
        rw [allocS_fold]
        have E18 := Lib.hid ((E17.out.next (allocS_below w17 NS hm)).and (St.bs (allocS_bs w17 NS hm)))
        generalize allocS w17 NS hm = w18 at *
        refine (HN2.out _).mono ?_
        rintro e w19 ⟨hn, rfl, ho, hb⟩
        have E19 := Lib.hid ((E18.out.next hb).and (St.own ho))
        clear hb
        obtain ⟨-, ⟨⟨bm_0, bm_1, bm_2, bm_3, bm_4, bm_5, -⟩, bm_l⟩, -, -, -, -, -, -⟩ := E19.out.now
        go_wp2_with fail
        clear bm_0 bm_1 bm_2 bm_3 bm_4 bm_5 bm_l
        rw [allocS_fold]
        have E20 := Lib.hid ((E19.out.next (allocS_below w19 NS hn)).and (St.bs (allocS_bs w19 NS hn)))
        generalize allocS w19 NS hn = w20 at *
        refine (HSN.out hm hn _ (SOwn.rd E20.out.now.2.2.2.1) (SOwn.rd E20.out.now.2.1)).mono ?_
        rintro e w21 ⟨rfl, hb⟩
        have E21 := Lib.hid (E20.out.next hb)
        clear hb
        obtain ⟨-, -, -, -, -, ⟨⟨bown_0, bown_1, bown_2, bown_3, bown_4, bown_5, -⟩, bown_l⟩, ⟨⟨bs_0, bs_1, bs_2, bs_3, bs_4, bs_5, -⟩, bs_l⟩, -, -⟩ := E21.out.now
        go_wp2_with fail
        clear bs_0 bs_1 bs_2 bs_3 bs_4 bs_5 bs_l bown_0 bown_1 bown_2 bown_3 bown_4 bown_5 bown_l
        refine (HSM4.out h1 _ (SOwn.rd E21.out.now.2.2.2.2.1) E21.out.now.2.2.2.2.2.2.2.1).mono ?_
        rintro e w22 ⟨rfl, hb⟩
        have E22 := Lib.hid (E21.out.next hb)
        clear hb
        go_wp2_with fail
        go_ret
        exact ⟨by simp, E22.out.now.2.2.2.2.2.2.2.2⟩
      · obtain ⟨-, ⟨⟨bown_0, bown_1, bown_2, bown_3, bown_4, bown_5, -⟩, bown_l⟩, ⟨⟨bs_0, bs_1, bs_2, bs_3, bs_4, bs_5, -⟩, bs_l⟩, -, -⟩ := E16.out.now
        go_wp2_with fail
        clear bs_0 bs_1 bs_2 bs_3 bs_4 bs_5 bs_l bown_0 bown_1 bown_2 bown_3 bown_4 bown_5 bown_l
        refine (HSM4.out h1 _ (SOwn.rd E16.out.now.1) E16.out.now.2.2.2.1).mono ?_
        rintro e w17 ⟨rfl, hb⟩
        have E17 := Lib.hid (E16.out.next hb)
        clear hb
        go_wp2_with fail
        go_ret
        exact ⟨by simp, E17.out.now.2.2.2.2⟩
end Go.Proofs.Ytfdkaahkhgljdaa.Slo
