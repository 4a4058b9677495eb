/- load.Merge of the chapter's config. The chapter's map; has a map these pairs? The chapter's examples. What LoadNames needs: rows beside a box that is written; nine pairs. -/
import Derived.Test.YtiemfklonhlnnaaMar
import Derived.ArgAppend
import Derived.Laws.MakeOwn
set_option linter.unusedSimpArgs false
set_option linter.unusedVariables false
namespace Go.Proofs.Ytiemfklonhlnnaa.Load
open Go.RowKit Go.Shelf Go.Sort Go.Proofs.Ytiemfklonhlnnaa Go.Proofs.Ytiemfklonhlnnaa.Occ Go.Proofs.Ytiemfklonhlnnaa.Slo Go.Proofs.Ytiemfklonhlnnaa.Seek Go.Proofs.Ytiemfklonhlnnaa.Lay
attribute [local go_sem] sval cval mval Oper.semAt_some

/-- Merge's boxes. -/
def mgW (w : World) (c : Conf.Cfg) (s : Sl) (h : Hd) (d : Conf.Cfg) (t : Sl) (g : Hd) : World := allocMZ (allocM (allocM w c s h) d t g)
theorem mgW_fold (w : World) (c : Conf.Cfg) (s : Sl) (h : Hd) (d : Conf.Cfg) (t : Sl) (g : Hd) : allocMZ (allocM (allocM w c s h) d t g) = mgW w c s h d t g := rfl
theorem mgW_from (w : World) (c : Conf.Cfg) (s : Sl) (h : Hd) (d : Conf.Cfg) (t : Sl) (g : Hd) : Below (allocM w c s h).heap.size (allocM w c s h) (mgW w c s h d t g) := (allocM_below _ d t g).trans ((allocMZ_below _).mono (allocM_below _ d t g).size)
theorem mgW_below (w : World) (c : Conf.Cfg) (s : Sl) (h : Hd) (d : Conf.Cfg) (t : Sl) (g : Hd) : Below w.heap.size w (mgW w c s h d t g) := (allocM_below w c s h).trans ((mgW_from w c s h d t g).mono (by rw [allocM_size]; omega))
theorem mgW_m (w : World) (c : Conf.Cfg) (s : Sl) (h : Hd) (d : Conf.Cfg) (t : Sl) (g : Hd) : BV (mgW w c s h d t g) w.heap.size (ml c s h) := (allocM_bv w c s h).next (mgW_from w c s h d t g)
theorem mgW_o (w : World) (c : Conf.Cfg) (s : Sl) (h : Hd) (d : Conf.Cfg) (t : Sl) (g : Hd) : BV (mgW w c s h d t g) (w.heap.size + 1) (ml d t g) := by
  have := (allocM_bv (allocM w c s h) d t g).next (allocMZ_below _); rw [allocM_size] at this; exact this
theorem mgW_z (w : World) (c : Conf.Cfg) (s : Sl) (h : Hd) (d : Conf.Cfg) (t : Sl) (g : Hd) : BV (mgW w c s h d t g) (w.heap.size + 1 + 1) mz := by
  have := allocMZ_bv (allocM (allocM w c s h) d t g); rw [allocM_size, allocM_size] at this; exact this
set_option maxRecDepth 100000 in
set_option maxHeartbeats 16000000 in
theorem Merge_no1 (c : Conf.Cfg) (s : Sl) (h : Hd) (d : Conf.Cfg) (t : Sl) (g : Hd) (w : World) (W : c.Wf) (hne : Conf.checkV c ≠ 0) : Calls Try.prog 8 #[mval c s h, mval d t g] w fun e w' => AnsM ((cz, noneS), Conf.checkV c) w e w' := by
  have HC := Lib.hid (fun w1 => Pairs_no c s h w1 W hne)
  have hn : (Conf.checkV c != 0) = true := by rw [bne_iff_ne]; exact hne
  generalize Conf.checkV c = k at *
  unfold AnsM
  clear W hne
  have E0 := Lib.hid (((St.below' (mgW_below w c s h d t g))).and (St.bv (mgW_z w c s h d t g)))
  go_enter Try.func8, Try.ntmps8
  go_wp2_with fail
  rw [allocM_fold, allocM_fold, allocMZ_fold, mgW_fold]
  generalize (mgW w c s h d t g) = w0 at *
  refine (HC.out _).mono ?_
  rintro e w1 ⟨rfl, hb⟩
  have E1 := Lib.hid (E0.out.next hb)
  clear hb
  have hth : w1.there _ 0 15 := BV.there (E1.out.now.1) rfl
  go_wp2_with (first | (refine wpList_store_map _ _ rfl rfl rfl rfl (by first | exact hth | exact there_alloc hth) ?_) | (refine wpList_store_newmap _ _ rfl rfl rfl rfl ?_))
  have D := BV.st (vs := [.int .u8 0, .int .i64 0, .int .i64 0, .int .i64 0, .int .i64 0, .int .i64 0, .int .i64 0, .int .i64 0, .int .i64 0, .int .i64 0, .slice Option.none 0 0, .slice Option.none 0 0, .slice Option.none 0 0, .slice Option.none 0 0, .int .u64 0]) (E1.out.now.1) rfl
  have q0 := D.c 0 _ rfl; have q1 := D.c 1 _ rfl; have q2 := D.c 2 _ rfl; have q3 := D.c 3 _ rfl; have q4 := D.c 4 _ rfl; have q5 := D.c 5 _ rfl; have q6 := D.c 6 _ rfl; have q7 := D.c 7 _ rfl; have q8 := D.c 8 _ rfl; have q9 := D.c 9 _ rfl; have q10 := D.c 10 _ rfl; have q11 := D.c 11 _ rfl; have q12 := D.c 12 _ rfl; have q13 := D.c 13 _ rfl; have q14 := D.c 14 _ rfl
  refine bodyPost_ret (v := .tuple #[.agg #[.int .u8 0, .int .i64 0, .int .i64 0, .int .i64 0, .int .i64 0, .int .i64 0, .int .i64 0, .int .i64 0, .int .i64 0, .int .i64 0, .slice Option.none 0 0, .slice Option.none 0 0, .slice Option.none 0 0, .slice Option.none 0 0, .int .u64 0], .int .i64 k]) (by simp [results, Try.results8, mval, cval, sval, go_sem, q0, q1, q2, q3, q4, q5, q6, q7, q8, q9, q10, q11, q12, q13, q14]) rfl ⟨noneH, rfl, noneS_own _ _ _, stV_below E1.out.now.2 (by omega)⟩
set_option maxRecDepth 100000 in
set_option maxHeartbeats 16000000 in
theorem Merge_no2 (c : Conf.Cfg) (s : Sl) (h : Hd) (d : Conf.Cfg) (t : Sl) (g : Hd) (w : World) (hc0 : c = c0) (G : Good s) (R : MRd w s h) (W : d.Wf) (hne : Conf.checkV d ≠ 0) : Calls Try.prog 8 #[mval c s h, mval d t g] w fun e w' => AnsM ((cz, noneS), Conf.checkV d) w e w' := by
  have HP := Lib.hid (fun w1 R => Pairs_ok c s h w1 hc0 G R)
  have HC := Lib.hid (fun w1 => Pairs_no d t g w1 W hne)
  have hn : (Conf.checkV d != 0) = true := by rw [bne_iff_ne]; exact hne
  have HR1 := Lib.hid R
  generalize Conf.checkV d = k at *
  unfold AnsPr at HP
  unfold AnsM
  dsimp only at HP
  clear W hne R G hc0
  have E0 := Lib.hid (((((St.below' (mgW_below w c s h d t g))).and (St.mrd (HR1.out.next (mgW_below w c s h d t g)))).and (St.bv (mgW_o w c s h d t g))).and (St.bv (mgW_z w c s h d t g)))
  go_enter Try.func8, Try.ntmps8
  go_wp2_with fail
  rw [allocM_fold, allocM_fold, allocMZ_fold, mgW_fold]
  generalize (mgW w c s h d t g) = w0 at *
  refine (HP.out _ E0.out.now.2.2.1).mono ?_
  rintro e w1 ⟨v, rfl, ho, hb⟩
  have E1 := Lib.hid (E0.out.next hb)
  clear hb
  clear ho
  obtain ⟨-, bo_v, -, -⟩ := E1.out.now
  have bo_0 := bo_v.c 0 _ rfl; have bo_1 := bo_v.c 1 _ rfl; have bo_2 := bo_v.c 2 _ rfl; have bo_3 := bo_v.c 3 _ rfl; have bo_4 := bo_v.c 4 _ rfl; have bo_5 := bo_v.c 5 _ rfl; have bo_6 := bo_v.c 6 _ rfl; have bo_7 := bo_v.c 7 _ rfl; have bo_8 := bo_v.c 8 _ rfl; have bo_9 := bo_v.c 9 _ rfl; have bo_10 := bo_v.c 10 _ rfl; have bo_11 := bo_v.c 11 _ rfl; have bo_12 := bo_v.c 12 _ rfl; have bo_13 := bo_v.c 13 _ rfl; have bo_14 := bo_v.c 14 _ rfl; have bo_l := bo_v.lt
  clear bo_v
  go_wp2_with fail
  clear bo_0 bo_1 bo_2 bo_3 bo_4 bo_5 bo_6 bo_7 bo_8 bo_9 bo_10 bo_11 bo_12 bo_13 bo_14 bo_l
  refine (HC.out _).mono ?_
  rintro e w2 ⟨rfl, hb⟩
  have E2 := Lib.hid (E1.out.next hb)
  clear hb
  have hth : w2.there _ 0 15 := BV.there (E2.out.now.1) rfl
  go_wp2_with (first | (refine wpList_store_map _ _ rfl rfl rfl rfl (by first | exact hth | exact there_alloc hth) ?_) | (refine wpList_store_newmap _ _ rfl rfl rfl rfl ?_))
  have D := BV.st (vs := [.int .u8 0, .int .i64 0, .int .i64 0, .int .i64 0, .int .i64 0, .int .i64 0, .int .i64 0, .int .i64 0, .int .i64 0, .int .i64 0, .slice Option.none 0 0, .slice Option.none 0 0, .slice Option.none 0 0, .slice Option.none 0 0, .int .u64 0]) (E2.out.now.1) rfl
  have q0 := D.c 0 _ rfl; have q1 := D.c 1 _ rfl; have q2 := D.c 2 _ rfl; have q3 := D.c 3 _ rfl; have q4 := D.c 4 _ rfl; have q5 := D.c 5 _ rfl; have q6 := D.c 6 _ rfl; have q7 := D.c 7 _ rfl; have q8 := D.c 8 _ rfl; have q9 := D.c 9 _ rfl; have q10 := D.c 10 _ rfl; have q11 := D.c 11 _ rfl; have q12 := D.c 12 _ rfl; have q13 := D.c 13 _ rfl; have q14 := D.c 14 _ rfl
  refine bodyPost_ret (v := .tuple #[.agg #[.int .u8 0, .int .i64 0, .int .i64 0, .int .i64 0, .int .i64 0, .int .i64 0, .int .i64 0, .int .i64 0, .int .i64 0, .int .i64 0, .slice Option.none 0 0, .slice Option.none 0 0, .slice Option.none 0 0, .slice Option.none 0 0, .int .u64 0], .int .i64 k]) (by simp [results, Try.results8, mval, cval, sval, go_sem, q0, q1, q2, q3, q4, q5, q6, q7, q8, q9, q10, q11, q12, q13, q14]) rfl ⟨noneH, rfl, noneS_own _ _ _, stV_below E2.out.now.2.2.2 (by omega)⟩
set_option maxRecDepth 100000 in
set_option maxHeartbeats 16000000 in
theorem Merge_any (c : Conf.Cfg) (s : Sl) (h : Hd) (t : Sl) (g : Hd) (w : World) (hc0 : c = c0) (G : Good s) (R : MRd w s h) (G2 : Good t) (R2 : MRd w t g) : Calls Try.prog 8 #[mval c s h, mval c t g] w fun e w' => AnsM (anewV s (bothL (allP s) (allP t))) w e w' := by
  have HP1 := Lib.hid (fun w1 R => Pairs_ok c s h w1 hc0 G R)
  have HP2 := Lib.hid (fun w1 R => Pairs_ok c t g w1 hc0 G2 R)
  have hp1 := allP_short G
  have hp2 := allP_short G2
  have hbl := bothL_len _ (allP s) (allP t) (Nat.le_refl _)
  have HA := Lib.hid (fun al cl w1 R RP => anew_any c s h al cl (bothL (allP s) (allP t)) w1 hc0 G R RP (by omega))
  have HB := Lib.hid (fun aA aB cA cB w1 hA hB lA lB nA nB => both_any aA aB cA cB (allP s) (allP t) w1 hA hB lA lB nA nB (by omega) (by omega))
  have HR1 := Lib.hid R
  have HR2 := Lib.hid R2
  unfold AnsPr at HP1 HP2
  unfold AnsM at HA ⊢
  dsimp only at HP1 HP2
  generalize anewV s (bothL (allP s) (allP t)) = V at *
  generalize bothL (allP s) (allP t) = Z at *
  generalize allP s = P1 at *
  generalize allP t = P2 at *
  obtain ⟨⟨c2, s2⟩, ec⟩ := V
  dsimp only at HA ⊢
  clear R R2 G G2 hc0 hbl
  obtain ⟨d, hd⟩ : ∃ d, d = c := ⟨_, rfl⟩
  have HDC := Lib.hid hd
  rw [show mval c t g = mval d t g by rw [hd]]
  clear hd
  have E0 := Lib.hid (((((((St.below' (mgW_below w c s h d t g))).and (St.mrd (HR1.out.next (mgW_below w c s h d t g)))).and (St.mrd (HR2.out.next (mgW_below w c s h d t g)))).and (St.bv (mgW_m w c s h d t g))).and (St.bv (mgW_o w c s h d t g))).and (St.bv (mgW_z w c s h d t g)))
  go_enter Try.func8, Try.ntmps8
  go_wp2_with fail
  rw [allocM_fold, allocM_fold, allocMZ_fold, mgW_fold]
  generalize (mgW w c s h d t g) = w0 at *
  refine (HP1.out _ E0.out.now.2.2.2.2.1).mono ?_
  rintro e w1 ⟨v, rfl, ho, hb⟩
  obtain ⟨a1, k1, rfl, -, hr2, l1, n1, -⟩ := owns2_arg ho
  clear ho
  have E1 := Lib.hid ((E0.out.next hb).and (St.rd2 hr2))
  clear hb
  clear hr2
  have HQ2 := Lib.hid (fun w1 R => HP2.out w1 R)
  rw [show mval c t g = mval d t g by rw [HDC.out]] at HQ2
  obtain ⟨-, -, bo_v, -, -, -, -⟩ := E1.out.now
  have bo_0 := bo_v.c 0 _ rfl; have bo_1 := bo_v.c 1 _ rfl; have bo_2 := bo_v.c 2 _ rfl; have bo_3 := bo_v.c 3 _ rfl; have bo_4 := bo_v.c 4 _ rfl; have bo_5 := bo_v.c 5 _ rfl; have bo_6 := bo_v.c 6 _ rfl; have bo_7 := bo_v.c 7 _ rfl; have bo_8 := bo_v.c 8 _ rfl; have bo_9 := bo_v.c 9 _ rfl; have bo_10 := bo_v.c 10 _ rfl; have bo_11 := bo_v.c 11 _ rfl; have bo_12 := bo_v.c 12 _ rfl; have bo_13 := bo_v.c 13 _ rfl; have bo_14 := bo_v.c 14 _ rfl; have bo_l := bo_v.lt
  clear bo_v
  go_wp2_with fail
  clear bo_0 bo_1 bo_2 bo_3 bo_4 bo_5 bo_6 bo_7 bo_8 bo_9 bo_10 bo_11 bo_12 bo_13 bo_14 bo_l
  refine (HQ2.out _ E1.out.now.2.2.2.2.1).mono ?_
  rintro e w2 ⟨v, rfl, ho, hb⟩
  obtain ⟨a2, k2, rfl, -, hr2, l2, n2, -⟩ := owns2_arg ho
  clear ho
  have E2 := Lib.hid ((E1.out.next hb).and (St.rd2 hr2))
  clear hb
  clear hr2 HP1 HP2 HQ2
  go_wp2
  have HBM := Lib.hid E2.out.now.2.2.2.2.1
  refine Mix2.wp_region_plan (fun W' => Below w2.heap.size w2 W') [7] [.dep [true, true, true], .run [false, false, false, true, true], .dep [false, false, false, false, false, true, true]] #[true, true, true, true, true, true, true, false, false] 2 mixed' (by kernel_rfl) (by kernel_rfl) (by kernel_rfl) (fun _ _ _ _ _ h => h) (Below.refl _ _).drew ?_
  simp only [Mix2.wpPlan, Mix2.maskL]
  refine quiet_by (.agg #[.int .u8 c.tag, .int .i64 c.most, .int .i64 c.seg, .int .i64 c.least, .int .i64 c.den, .int .i64 c.ll, .int .i64 c.rl, .int .i64 c.rh, .int .i64 c.lh, .int .i64 s.seg, .slice h.aw s.ws.length h.cw, .slice h.ak s.ks.length h.ck, .slice h.av s.vs.length h.cv, .slice h.ac s.cs.length h.cc, .int .u64 s.laid]) rfl (fun W' hS => by have cc := HBM.out.next hS; have c0 := cc.c 0 _ rfl; have c1 := cc.c 1 _ rfl; have c2 := cc.c 2 _ rfl; have c3 := cc.c 3 _ rfl; have c4 := cc.c 4 _ rfl; have c5 := cc.c 5 _ rfl; have c6 := cc.c 6 _ rfl; have c7 := cc.c 7 _ rfl; have c8 := cc.c 8 _ rfl; have c9 := cc.c 9 _ rfl; have c10 := cc.c 10 _ rfl; have c11 := cc.c 11 _ rfl; have c12 := cc.c 12 _ rfl; have c13 := cc.c 13 _ rfl; have c14 := cc.c 14 _ rfl; simp [execOp, go_sem, c0, c1, c2, c3, c4, c5, c6, c7, c8, c9, c10, c11, c12, c13, c14]) ?_
  refine quiet_by (.slice a1 P1.length k1) rfl (fun W' hS => by simp [execOp, go_sem]) ?_
  refine quiet_by (.slice a2 P2.length k2) rfl (fun W' hS => by simp [execOp, go_sem]) ?_
  refine wpQuiet_nil ?_
  unfold Mix2.wpListS
  go_wp2_with fail
  have hdr := (Below.refl w2.heap.size w2).drew
  have E3 := Lib.hid (E2.out.next hdr)
  refine (HB.out a1 a2 k1 k2 _ E3.out.now.2.1 E3.out.now.1 l1 l2 n1 n2).mono ?_
  rintro e wb ⟨v, rfl, ho, hb⟩
  obtain ⟨az, kz, rfl, -, hrz, -⟩ := owns2_arg ho
  clear ho
  have hS1 : Below w2.heap.size w2 wb := hdr.trans hb
  have E4 := Lib.hid ((E3.out.next hb).and (St.rd2 hrz))
  clear hrz HB
  go_wp2_with fail
  refine ⟨hS1, ?_⟩
  unfold Mix2.wpListS
  go_wp2_with fail
  refine (HA.out az kz _ E4.out.now.2.2.2.2.2.2.2.1 E4.out.now.1).mono ?_
  rintro e wc ⟨h', rfl, ho, hb⟩
  have hS2 : Below w2.heap.size w2 wc := hS1.trans (hb.mono hS1.size)
  have E5 := Lib.hid ((E4.out.next hb).and (St.own ho))
  clear ho HA hb
  go_wp2_with fail
  refine ⟨hS2, ?_⟩
  unfold Mix2.wpListS
  refine quiet_by (mval c2 s2 h') rfl (fun W' hS => by simp [execOp, go_sem]) ?_
  refine quiet_by (.int .i64 ec) rfl (fun W' hS => by simp [execOp, go_sem]) ?_
  refine wpQuiet_nil ?_
  refine Mix2.wpAny_tail [false, false, false, false, false, false, false, true, true] (Array.replicate 9 true) (by kernel_rfl) (by kernel_rfl) ?_
  simp only [Mix2.maskL]
  have hz1 := E4.out.now.2.2.2.1.lt
  have hz0 := E4.out.now.2.2.2.2.2.2.2.2.size
  have hth : wc.there _ 0 15 := BV.there (E5.out.now.2.2.2.2.1) rfl
  go_wp2_with (first | (refine wpList_store_map _ _ rfl rfl rfl rfl (by first | exact hth | exact there_alloc hth) ?_) | (refine wpList_store_newmap _ _ rfl rfl rfl rfl ?_))
  have D := BV.st (vs := [.int .u8 c2.tag, .int .i64 c2.most, .int .i64 c2.seg, .int .i64 c2.least, .int .i64 c2.den, .int .i64 c2.ll, .int .i64 c2.rl, .int .i64 c2.rh, .int .i64 c2.lh, .int .i64 s2.seg, .slice h'.aw s2.ws.length h'.cw, .slice h'.ak s2.ks.length h'.ck, .slice h'.av s2.vs.length h'.cv, .slice h'.ac s2.cs.length h'.cc, .int .u64 s2.laid]) (E5.out.now.2.2.2.2.1) rfl
  have q0 := D.c 0 _ rfl; have q1 := D.c 1 _ rfl; have q2 := D.c 2 _ rfl; have q3 := D.c 3 _ rfl; have q4 := D.c 4 _ rfl; have q5 := D.c 5 _ rfl; have q6 := D.c 6 _ rfl; have q7 := D.c 7 _ rfl; have q8 := D.c 8 _ rfl; have q9 := D.c 9 _ rfl; have q10 := D.c 10 _ rfl; have q11 := D.c 11 _ rfl; have q12 := D.c 12 _ rfl; have q13 := D.c 13 _ rfl; have q14 := D.c 14 _ rfl
  refine bodyPost_ret (v := .tuple #[mval c2 s2 h', .int .i64 ec]) (by simp [results, Try.results8, mval, cval, sval, go_sem, q0, q1, q2, q3, q4, q5, q6, q7, q8, q9, q10, q11, q12, q13, q14]) rfl ⟨h', rfl, ?_, stV_below E5.out.now.2.2.2.2.2.2.2.2.2 (by omega)⟩
  exact (stV_own E5.out.now.1 hz1).mono (by omega) (by rw [stV_size]; exact Nat.le_refl _)
end Go.Proofs.Ytiemfklonhlnnaa.Load

namespace Go.Proofs.Ytiemfklonhlnnaa.Load
open Go.RowKit Go.Shelf Go.Sort Go.Proofs.Ytiemfklonhlnnaa Go.Proofs.Ytiemfklonhlnnaa.Occ Go.Proofs.Ytiemfklonhlnnaa.Slo Go.Proofs.Ytiemfklonhlnnaa.Seek Go.Proofs.Ytiemfklonhlnnaa.Lay
attribute [local go_sem] sval cval mval Oper.semAt_some
/-- A map read: the operation. -/
theorem wpList_load_map {ops : Array Oper} {rest : List Oper} {op : Oper} {a : Act} {w : World} {Q : Exit → Act → World → Prop} (x : Operand) (hgd : op.guard = none) (ho : op.op = .load 31 x) {b : Nat} {cs : List Value} (hx : a.eval x = .pointer (some ⟨b, 0, Option.none⟩)) (X : BV w b cs) (hl : cs.length = 15)
    (h : wpList Try.prog ops Q rest (a.put op.dst (.agg cs.toArray)) w) : wpList Try.prog ops Q (op :: rest) a w :=
  wpList_load_mid hgd 31 x ho b 0 hx cs _ (fun j v hv => by rw [Nat.zero_add]; exact X.c j v hv) Try.underlying31 rfl (by rw [hl]; kernel_rfl) h
set_option maxRecDepth 100000 in
set_option maxHeartbeats 16000000 in
theorem has_any (c : Conf.Cfg) (s : Sl) (h : Hd) (al : Option Addr) (cl : Nat) (P : List (Int × Int)) (w : World) (hc0 : c = c0) (G : Good s) (R : MRd w s h) (hrp : Rd2 w al P) (lp : P.length ≤ 100) :
    Calls Try.prog 10 #[mval c s h, .slice al P.length cl] w fun e w' => e = .returned (.bool (decide (allP s = P))) ∧ Below w.heap.size w w' := by
  have HP := Lib.hid (fun w1 R => Pairs_ok c s h w1 hc0 G R)
  have hp1 := allP_short G
  have HS := Lib.hid (fun a k w1 h1 h2 => samePairs_any a al k cl (allP s) P w1 h1 h2 (by omega) (by omega))
  have HR := Lib.hid R
  have HRP := Lib.hid hrp
  unfold AnsPr at HP
  dsimp only at HP
  generalize allP s = Q at *
  clear R G hc0 hrp
  have E0 := Lib.hid (((((St.below' (allocM_below w c s h))).and (St.mrd (HR.out.next (allocM_below w c s h)))).and (St.rd2 (HRP.out.mono (allocM_below w c s h) (Nat.le_refl _)))).and (St.bv (allocM_bv w c s h)))
  go_enter Try.func10, Try.ntmps10
  go_wp2_with fail
  rw [allocM_fold]
  generalize (allocM w c s h) = w0 at *
  refine (HP.out _ E0.out.now.2.2.1).mono ?_
  rintro e w1 ⟨v, rfl, ho, hb⟩
  obtain ⟨a1, k1, rfl, -, hr2, -⟩ := owns2_arg ho
  clear ho
  have E1 := Lib.hid ((E0.out.next hb).and (St.rd2 hr2))
  clear hb
  clear hr2 HP
  go_wp2_with fail
  refine (HS.out a1 k1 _ E1.out.now.1 E1.out.now.2.2.1).mono ?_
  rintro e w2 ⟨rfl, hb⟩
  have E2 := Lib.hid (E1.out.next hb)
  clear hb
  go_wp2
  go_ret
  exact ⟨by simp, E2.out.now.2.2.2.2⟩
attribute [local irreducible] stV World.there
set_option maxRecDepth 100000 in
set_option maxHeartbeats 16000000 in
theorem chapter_any (c : Conf.Cfg) (al : Option Addr) (cl : Nat) (ps : List (Int × Int)) (w : World) (hc : c = c0) (hr : riseB ps = true) (lp : ps.length ≤ 8) (hrp : Rd2 w al ps) :
    Calls Try.prog 4 #[.slice al ps.length cl] w fun e w' => ∃ h', e = .returned (mval c (mL ps) h') ∧ SOwn w' w.heap.size w'.heap.size (mL ps) h' ∧ Below w.heap.size w w' := by
  have HN : Hid (∀ w1, Calls Try.prog 11 #[cval c0] w1 fun e w' => AnsM ((c, mE), 0) w1 e w') := Lib.hid (fun w1 => by rw [hc]; exact pmaNew_any c0 w1 rfl)
  have HL := Lib.hid (fun h1 w1 R RP => Load_any c mE h1 al cl ps w1 hc mE_good R RP (by omega))
  rw [show LoadV mE ps = ((c, mL ps), 0) by unfold LoadV; rw [if_pos hr, hc]; exact if_neg (by omega)] at HL
  have HRP := Lib.hid hrp
  unfold AnsM at HN HL
  dsimp only at HN HL
  generalize mL ps = S at *
  generalize mE = E at *
  clear hc hr lp hrp
  have E0 := Lib.hid ((((St.below' (allocMZ_below w))).and (St.rd2 (HRP.out.mono (allocMZ_below w) (Nat.le_refl _)))).and (St.bv (allocMZ_bv w)))
  go_enter Try.func4, Try.ntmps4
  go_wp2_with fail
  rw [allocMZ_fold]
  generalize (allocMZ w) = w0 at *
  refine (HN.out _).mono ?_
  rintro e w1 ⟨h1, rfl, ho, hb⟩
  have E1 := Lib.hid ((E0.out.next hb).and (St.own ho))
  clear hb
  clear ho HN
  go_wp2_with (first | (refine wpList_store_newmap _ _ rfl rfl rfl rfl ?_))
  rw [allocM_fold]
  have E2 := Lib.hid ((E1.out.next (allocM_below w1 c E h1)).and (St.bv (allocM_bv w1 c E h1)))
  have hz1 := E1.out.now.2.1.lt
  have hz0 := E1.out.now.2.2.2.size
  have hz2 : w1.heap.size < (allocM w1 c E h1).heap.size := by rw [allocM_size]; omega
  generalize allocM w1 c E h1 = wm at *
  refine (HL.out h1 _ (SOwn.mrd E2.out.now.2.1) E2.out.now.2.2.2.1).mono ?_
  rintro e w3 ⟨h', rfl, ho, hb⟩
  have E3 := Lib.hid ((E2.out.next hb).and (St.own ho))
  clear hb
  clear ho HL
  have D1 := BV.st (vs := [.int .u8 c.tag, .int .i64 c.most, .int .i64 c.seg, .int .i64 c.least, .int .i64 c.den, .int .i64 c.ll, .int .i64 c.rl, .int .i64 c.rh, .int .i64 c.lh, .int .i64 S.seg, .slice h'.aw S.ws.length h'.cw, .slice h'.ak S.ks.length h'.ck, .slice h'.av S.vs.length h'.cv, .slice h'.ac S.cs.length h'.cc, .int .u64 S.laid]) (E3.out.now.2.1) rfl
  have Z1 := BV.other (vs := [.int .u8 c.tag, .int .i64 c.most, .int .i64 c.seg, .int .i64 c.least, .int .i64 c.den, .int .i64 c.ll, .int .i64 c.rl, .int .i64 c.rh, .int .i64 c.lh, .int .i64 S.seg, .slice h'.aw S.ws.length h'.cw, .slice h'.ak S.ks.length h'.ck, .slice h'.av S.vs.length h'.cv, .slice h'.ac S.cs.length h'.cc, .int .u64 S.laid]) (i := 0) (E3.out.now.2.2.2.1) (show w1.heap.size ≠ w.heap.size by omega)
  have hth : w3.there _ 0 15 := BV.there (E3.out.now.2.1) rfl
  have hth2 : (stV w3 w1.heap.size 0 [.int .u8 c.tag, .int .i64 c.most, .int .i64 c.seg, .int .i64 c.least, .int .i64 c.den, .int .i64 c.ll, .int .i64 c.rl, .int .i64 c.rh, .int .i64 c.lh, .int .i64 S.seg, .slice h'.aw S.ws.length h'.cw, .slice h'.ak S.ks.length h'.ck, .slice h'.av S.vs.length h'.cv, .slice h'.ac S.cs.length h'.cc, .int .u64 S.laid]).there w.heap.size 0 15 := BV.there Z1 rfl
  go_wp2_with (first | (refine wpList_load_map _ rfl rfl rfl D1 rfl ?_) | (refine wpList_store_map _ _ rfl rfl rfl rfl (by first | exact hth | exact hth2) ?_))
  have D2 := BV.st (vs := [.int .u8 c.tag, .int .i64 c.most, .int .i64 c.seg, .int .i64 c.least, .int .i64 c.den, .int .i64 c.ll, .int .i64 c.rl, .int .i64 c.rh, .int .i64 c.lh, .int .i64 S.seg, .slice h'.aw S.ws.length h'.cw, .slice h'.ak S.ks.length h'.ck, .slice h'.av S.vs.length h'.cv, .slice h'.ac S.cs.length h'.cc, .int .u64 S.laid]) Z1 rfl
  have q0 := D2.c 0 _ rfl; have q1 := D2.c 1 _ rfl; have q2 := D2.c 2 _ rfl; have q3 := D2.c 3 _ rfl; have q4 := D2.c 4 _ rfl; have q5 := D2.c 5 _ rfl; have q6 := D2.c 6 _ rfl; have q7 := D2.c 7 _ rfl; have q8 := D2.c 8 _ rfl; have q9 := D2.c 9 _ rfl; have q10 := D2.c 10 _ rfl; have q11 := D2.c 11 _ rfl; have q12 := D2.c 12 _ rfl; have q13 := D2.c 13 _ rfl; have q14 := D2.c 14 _ rfl
  refine bodyPost_ret (v := mval c S h') (by simp [results, Try.results4, mval, go_sem, q0, q1, q2, q3, q4, q5, q6, q7, q8, q9, q10, q11, q12, q13, q14]) rfl ⟨h', rfl, ?_, ?_⟩
  · exact (stV_own (stV_own E3.out.now.1 (by omega)) (by omega)).mono (by omega) (by rw [stV_size, stV_size]; exact Nat.le_refl _)
  · exact stV_below (stV_below E3.out.now.2.2.2.2.2 (by omega)) (Nat.le_refl _)
end Go.Proofs.Ytiemfklonhlnnaa.Load

namespace Go.Proofs.Ytiemfklonhlnnaa.Load
open Go.RowKit Go.Shelf Go.Sort Go.Proofs.Ytiemfklonhlnnaa Go.Proofs.Ytiemfklonhlnnaa.Occ Go.Proofs.Ytiemfklonhlnnaa.Slo Go.Proofs.Ytiemfklonhlnnaa.Seek Go.Proofs.Ytiemfklonhlnnaa.Lay
attribute [local go_sem] sval cval mval Oper.semAt_some

theorem rd2_lits {w : World} {news : Array Value} {zs : List (Int × Int)} (h : news.toList = pcells zs) (hs : news.size = zs.length * 2) (hm : zs.length ≤ maxLen) : Rd2 (w.alloc (.cells news 34)) (some ⟨w.heap.size, 0, Option.none⟩) zs := by
  have h2 := World.ownsRow_lit (base := w.heap.size) (e := 34) (size := 2) w news zs.length (Nat.le_refl _) hm hs
  rw [h] at h2
  obtain ⟨a', c', e, -, hr, -⟩ := owns2_arg h2
  cases e; exact hr
theorem below_lit (w : World) (o : Obj) : Below w.heap.size w (w.alloc o) := (Below.refl _ w).alloc (Nat.le_refl _) o
set_option maxRecDepth 100000 in
set_option maxHeartbeats 16000000 in
theorem alive_any (w : World) : Calls Try.prog 9 #[] w fun e w' => e = .returned (.bool true) ∧ Below w.heap.size w w' := by
  obtain ⟨c, hc⟩ : ∃ c, c = c0 := ⟨_, rfl⟩
  have HCA : Hid (∀ al cl w1, Rd2 w1 al [(1, 10), (3, 30)] → Calls Try.prog 4 #[.slice al 2 cl] w1 fun e w' => ∃ h', e = .returned (mval c sA h') ∧ SOwn w' w1.heap.size w'.heap.size sA h' ∧ Below w1.heap.size w1 w') := Lib.hid (fun al cl w1 R => chapter_any c al cl [(1, 10), (3, 30)] w1 hc (by decide) (by decide) R)
  have HCB : Hid (∀ al cl w1, Rd2 w1 al [(2, 20), (3, 31)] → Calls Try.prog 4 #[.slice al 2 cl] w1 fun e w' => ∃ h', e = .returned (mval c sB h') ∧ SOwn w' w1.heap.size w'.heap.size sB h' ∧ Below w1.heap.size w1 w') := Lib.hid (fun al cl w1 R => chapter_any c al cl [(2, 20), (3, 31)] w1 hc (by decide) (by decide) R)
  have HM : Hid (∀ h g w1, MRd w1 sA h → MRd w1 sB g → Calls Try.prog 8 #[mval c sA h, mval c sB g] w1 fun e w' => AnsM ((c, sM), 0) w1 e w') := Lib.hid (fun h g w1 R1 R2 => by
    have := Merge_any c sA h sB g w1 hc sA_good R1 sB_good R2
    rw [AB_both, show anewV sA [(1, 10), (2, 20), (3, 31)] = ((c, sM), 0) by rw [hc]; exact if_neg (by decide)] at this
    exact this)
  have HR : Hid (∀ h w1, MRd w1 sM h → Calls Try.prog 6 #[mval c sM h, .int .i64 2, .int .i64 9] w1 fun e w' => ∃ h', e = .returned (.tuple #[mval c sX h', .int .i64 2, .int .i64 0]) ∧ SOwn w' w1.heap.size w'.heap.size sX h' ∧ Below w1.heap.size w1 w') := Lib.hid (fun h w1 R => by
    have := Range_any c sM h 2 9 [(1, 10)] w1 hc sM_good R (by decide) (by rw [sM_all]; decide) (by
      intro al cl n0 p1 p2 w1 C hO hn0
      have := delete_tail n0 al cl (allP sM) 1 2 9 p1 p2 w1 C hO hn0 (by rw [sM_all]; decide) (by rw [sM_all]; decide) (by rw [sM_all]; intro j hj; obtain rfl : j = 0 := (by omega); decide) (by rw [sM_all]; intro j h1 h2; have h3 : j = 1 ∨ j = 2 := (by simp at h2; omega); rcases h3 with rfl | rfl <;> decide)
      rw [show (allP sM).take 1 = [(1, 10)] by rw [sM_all]; rfl] at this
      exact this
      )
    rw [show (((allP sM).length - ([(1, 10)] : List (Int × Int)).length : Nat) : Int) = 2 by rw [sM_all]; rfl] at this
    exact this)
  have HH1 : Hid (∀ h al cl w1, MRd w1 sM h → Rd2 w1 al [(1, 10), (2, 20), (3, 31)] → Calls Try.prog 10 #[mval c sM h, .slice al 3 cl] w1 fun e w' => e = .returned (.bool true) ∧ Below w1.heap.size w1 w') := Lib.hid (fun h al cl w1 R RP => by
    have := has_any c sM h al cl [(1, 10), (2, 20), (3, 31)] w1 hc sM_good R RP (by decide)
    rw [sM_all] at this
    exact this.mono (by rintro e w' ⟨rfl, hb⟩; exact ⟨by simp, hb⟩))
  have HH2 : Hid (∀ h al cl w1, MRd w1 sX h → Rd2 w1 al [(1, 10)] → Calls Try.prog 10 #[mval c sX h, .slice al 1 cl] w1 fun e w' => e = .returned (.bool true) ∧ Below w1.heap.size w1 w') := Lib.hid (fun h al cl w1 R RP => by
    have := has_any c sX h al cl [(1, 10)] w1 hc sX_good R RP (by decide)
    rw [sX_all] at this
    exact this.mono (by rintro e w' ⟨rfl, hb⟩; exact ⟨by simp, hb⟩))
  clear hc
  unfold AnsM at HM
  dsimp only at HM
  generalize sA = SA at *
  generalize sB = SB at *
  generalize sM = SM at *
  generalize sX = SX at *
  have E0 := Lib.hid ((St.below w))
  go_enter Try.func9, Try.ntmps9
  go_wp2_with fail
  have E1 := Lib.hid ((E0.out.next (below_lit w (.cells #[.int .i64 1, .int .i64 10, .int .i64 3, .int .i64 30] 34))).and (St.rd2 (by have hl := rd2_lits (w := w) (news := #[.int .i64 1, .int .i64 10, .int .i64 3, .int .i64 30]) (zs := [(1, 10), (3, 30)]) rfl rfl (by decide); exact hl)))
  generalize w.alloc (.cells #[.int .i64 1, .int .i64 10, .int .i64 3, .int .i64 30] 34) = wl1 at *
  refine (HCA.out _ _ _ E1.out.now.1).mono ?_
  rintro e w2 ⟨hA, rfl, ho, hb⟩
  have E2 := Lib.hid ((E1.out.next hb).and (St.own ho))
  clear hb
  clear ho
  go_wp2_with fail
  have E3 := Lib.hid ((E2.out.next (below_lit w2 (.cells #[.int .i64 2, .int .i64 20, .int .i64 3, .int .i64 31] 34))).and (St.rd2 (by have hl := rd2_lits (w := w2) (news := #[.int .i64 2, .int .i64 20, .int .i64 3, .int .i64 31]) (zs := [(2, 20), (3, 31)]) rfl rfl (by decide); exact hl)))
  generalize w2.alloc (.cells #[.int .i64 2, .int .i64 20, .int .i64 3, .int .i64 31] 34) = wl3 at *
  refine (HCB.out _ _ _ E3.out.now.1).mono ?_
  rintro e w4 ⟨hB, rfl, ho, hb⟩
  have E4 := Lib.hid ((E3.out.next hb).and (St.own ho))
  clear hb
  clear ho
  go_wp2_with fail
  refine (HM.out hA hB _ (SOwn.mrd E4.out.now.2.2.1) (SOwn.mrd E4.out.now.1)).mono ?_
  rintro e w5 ⟨hM, rfl, ho, hb⟩
  have E5 := Lib.hid ((E4.out.next hb).and (St.own ho))
  clear hb
  clear ho HCA HCB HM
  have HBX := allocM_bv w5 c SM hM
  go_wp2_with (first | (refine wpList_store_newmap _ _ rfl rfl rfl rfl ?_) | (refine wpList_load_map _ rfl rfl rfl HBX rfl ?_))
  clear HBX
  rw [allocM_fold]
  have hz5 := allocM_size w5 c SM hM
  have E6 := Lib.hid ((E5.out.next (allocM_below w5 c SM hM)).and (St.bv (allocM_bv w5 c SM hM)))
  generalize allocM w5 c SM hM = wm6 at *
  clear hz5
  refine (HR.out hM _ (SOwn.mrd E6.out.now.2.1)).mono ?_
  rintro e w7 ⟨hX, rfl, ho, hb⟩
  have E7 := Lib.hid ((E6.out.next hb).and (St.own ho))
  clear hb
  clear ho HR
  have HB1 := (E7.out.now.2.1).next (allocM_below w7 c SX hX)
  go_wp2_with (first | (refine wpList_store_newmap _ _ rfl rfl rfl rfl ?_) | (refine wpList_want rfl (wpList_load_map _ rfl rfl rfl HB1 rfl ?_)))
  clear HB1
  rw [allocM_fold]
  have hz7 := allocM_size w7 c SX hX
  have E8 := Lib.hid ((E7.out.next (allocM_below w7 c SX hX)).and (St.bv (allocM_bv w7 c SX hX)))
  generalize allocM w7 c SX hX = wm8 at *
  have E9 := Lib.hid ((E8.out.next (below_lit wm8 (.cells #[.int .i64 1, .int .i64 10, .int .i64 2, .int .i64 20, .int .i64 3, .int .i64 31] 34))).and (St.rd2 (by have hl := rd2_lits (w := wm8) (news := #[.int .i64 1, .int .i64 10, .int .i64 2, .int .i64 20, .int .i64 3, .int .i64 31]) (zs := [(1, 10), (2, 20), (3, 31)]) rfl rfl (by decide); rw [hz7] at hl; exact hl)))
  generalize wm8.alloc (.cells #[.int .i64 1, .int .i64 10, .int .i64 2, .int .i64 20, .int .i64 3, .int .i64 31] 34) = wl9 at *
  clear hz7
  refine (HH1.out hM _ _ _ (SOwn.mrd E9.out.now.2.2.2.2.1) E9.out.now.1).mono ?_
  rintro e w10 ⟨rfl, hb⟩
  have E10 := Lib.hid (E9.out.next hb)
  clear hb
  obtain ⟨-, bx_v, -, -, -, -, -, -, -, -⟩ := E10.out.now
  have bx_0 := bx_v.c 0 _ rfl; have bx_1 := bx_v.c 1 _ rfl; have bx_2 := bx_v.c 2 _ rfl; have bx_3 := bx_v.c 3 _ rfl; have bx_4 := bx_v.c 4 _ rfl; have bx_5 := bx_v.c 5 _ rfl; have bx_6 := bx_v.c 6 _ rfl; have bx_7 := bx_v.c 7 _ rfl; have bx_8 := bx_v.c 8 _ rfl; have bx_9 := bx_v.c 9 _ rfl; have bx_10 := bx_v.c 10 _ rfl; have bx_11 := bx_v.c 11 _ rfl; have bx_12 := bx_v.c 12 _ rfl; have bx_13 := bx_v.c 13 _ rfl; have bx_14 := bx_v.c 14 _ rfl; have bx_l := bx_v.lt
  clear bx_v
  go_wp2_with fail
  clear bx_0 bx_1 bx_2 bx_3 bx_4 bx_5 bx_6 bx_7 bx_8 bx_9 bx_10 bx_11 bx_12 bx_13 bx_14 bx_l
  have E11 := Lib.hid ((E10.out.next (below_lit w10 (.cells #[.int .i64 1, .int .i64 10] 34))).and (St.rd2 (by have hl := rd2_lits (w := w10) (news := #[.int .i64 1, .int .i64 10]) (zs := [(1, 10)]) rfl rfl (by decide); exact hl)))
  generalize w10.alloc (.cells #[.int .i64 1, .int .i64 10] 34) = wl11 at *
  refine (HH2.out hX _ _ _ (SOwn.mrd E11.out.now.2.2.2.1) E11.out.now.1).mono ?_
  rintro e w12 ⟨rfl, hb⟩
  have E12 := Lib.hid (E11.out.next hb)
  clear hb
  go_wp2
  go_ret
  exact ⟨by simp, E12.out.now.2.2.2.2.2.2.2.2.2.2⟩
end Go.Proofs.Ytiemfklonhlnnaa.Load

namespace Go.Proofs.Ytiemfklonhlnnaa.Load
open Go.RowKit Go.Shelf Go.Sort Go.Proofs.Ytiemfklonhlnnaa Go.Proofs.Ytiemfklonhlnnaa.Occ Go.Proofs.Ytiemfklonhlnnaa.Slo Go.Proofs.Ytiemfklonhlnnaa.Seek Go.Proofs.Ytiemfklonhlnnaa.Lay
attribute [local go_sem] sval cval mval Oper.semAt_some

def TB (W : World) (b : Nat) : Prop := ∃ cur, W.heap[b]? = some (.cells cur 31 (0, 0))
theorem TB.new (W : World) : TB (allocMZ W) W.heap.size := ⟨_, by show (W.heap.push _)[W.heap.size]? = some _; simp; rfl⟩
theorem TB.next {W W' : World} {b : Nat} (x : TB W b) (hl : b < W.heap.size) (hb : Below W.heap.size W W') : TB W' b := by
  obtain ⟨cur, h⟩ := x
  exact ⟨cur, (hb.block b hl).trans h⟩
theorem rd_store {k : IntKind} {W : World} {lo n c b i : Nat} {e : TypeId} {a : Option Addr} {zs : List Int} {vs : List Value} (h : W.ownsRow lo e 1 (.slice a zs.length c) n (numsK k zs)) (hb : TB W b) (he : e ≠ 31) : Rd k (stV W b i vs) a zs := by
  rcases rd_owns h with g | ⟨g, off, ea, hl, hc⟩
  · exact .inl g
  · refine .inr ⟨g, off, ea, by rw [stV_size]; exact hl, fun j hj => ?_⟩
    have hne : b ≠ g := by
      intro q
      rcases h.2 with ⟨h1, -⟩ | ⟨g2, cap, cur, h1, -, hh, -⟩
      · simp only [Value.slice.injEq] at h1; rw [ea] at h1; cases h1.1
      · simp only [Value.slice.injEq] at h1
        have h2 := h1.1
        rw [ea] at h2
        injection h2 with h3
        injection h3 with h4
        obtain ⟨cur2, h5⟩ := hb
        rw [q, h4, hh] at h5
        injection h5 with h6
        injection h6 with h7 h8
        exact he h8
    rw [stV_low (.inl hne)]
    exact hc j hj
theorem mrd_store {W : World} {lo hi b i : Nat} {s : Sl} {h : Hd} {vs : List Value} (x : SOwn W lo hi s h) (hb : TB W b) : MRd (stV W b i vs) s h :=
  ⟨⟨rd_store x.ow hb (by decide), rd_store x.ok hb (by decide), rd_store x.ov hb (by decide), rd_store x.oc hb (by decide)⟩, (SOwn.mrd x).cap⟩
theorem pcells_set (P : List (Int × Int)) (k : Nat) (u : Int) (hk : k < P.length) : (pcells P).set (k * 2) (.int .i64 u) = pcells (P.set k (u, (P.getD k (0, 0)).2)) := by
  induction P generalizing k with
  | nil => simp at hk
  | cons x P ih =>
    cases k with
    | zero => simp [pcells]
    | succ k =>
      have := ih k (by simpa using hk)
      rw [show (k + 1) * 2 = k * 2 + 1 + 1 by omega]
      simpa [pcells] using this
def fillK (k : Nat) : List (Int × Int) := (List.range 9).map fun j => if j < k then ((j : Int), 0) else (0, 0)
theorem fillK_len (k : Nat) : (fillK k).length = 9 := by simp [fillK]
theorem fillK_nine : fillK 9 = nine := by decide
theorem fillK_set : ∀ k : Fin 9, (fillK k.1).set k.1 ((k.1 : Int), ((fillK k.1).getD k.1 (0, 0)).2) = fillK (k.1 + 1) := by decide
theorem rd2_take8 {W : World} {a : Option Addr} (h : Rd2 W a nine) : Rd2 W a eight := by
  rcases h with h | ⟨b, o, e, hl, hc⟩
  · cases h
  · refine .inr ⟨b, o, e, hl, fun i hi => ?_⟩
    have hi8 : i < 8 := hi
    have h9 := hc i (show i < 9 by omega)
    have he : ∀ j : Fin 8, nine.getD j.1 (0, 0) = eight.getD j.1 (0, 0) := by decide
    rw [he ⟨i, hi8⟩] at h9
    exact h9
theorem run_store_op {ρ : Operand → Value} {o : Oper} {x y : Operand} {b : Nat} {v : Value} {W W' : World} (ho : o.op = .store 31 x y) (hx : ρ x = .pointer (some ⟨b, 0, Option.none⟩)) (hy : ρ y = v) (hrun : (Instr.storeAt 31 (.pointer (some ⟨b, 0, Option.none⟩)) v).run Try.prog W = .ok () W') :
    (execOp ρ o).run Try.prog W = .ok .skip W' := by
  unfold execOp
  simp only [ho, hx, hy, Sem.run_bind, hrun, Result.andThen_ok, Sem.run_pure]
def nine10 : List (Int × Int) := nine ++ [(0, 0)]
theorem below_none {W W' : World} (h : W.grownBy W' none) : Below W.heap.size W W' := (Below.refl _ W).grown h (Nat.le_refl _) (fun k e => by cases e)
theorem rd2_cells {W : World} {b o : Nat} {P : List (Int × Int)} (h : Rd2 W (some ⟨b, o, Option.none⟩) P) : ∀ j u, (pcells P)[j]? = some u → W.cell? ((⟨b, o, Option.none⟩ : Addr).add j) = some u := by
  rcases h with rfl | ⟨b2, o2, e, hl, hc⟩
  · intro j u h; simp [pcells] at h
  · cases e; exact pairs_src hc
theorem noneS_mrd (w : World) : MRd w noneS noneH := ⟨⟨.inl rfl, .inl rfl, .inl rfl, .inl rfl⟩, Nat.le_refl _⟩
theorem append9 (W : World) (bn : Nat) (a : Addr) (hn : Rd2 W (some ⟨bn, 0, Option.none⟩) nine) (ha : Rd2 W (some a) [(0, 0)]) (ty : TypeId) :
    ∃ a' k W', (Builtin.append_ #[38, 38] ty #[.slice (some ⟨bn, 0, Option.none⟩) 9 9, .slice (some a) 1 1]).run Try.prog W = .ok (.slice a' 10 k) W' ∧ Rd2 W' a' nine10 ∧ Below W.heap.size W W' := by
  obtain ⟨i0, hi, hz0, hz1, hz2⟩ : ∃ i0, Try.prog.info? 34 = some i0 ∧ i0.zero = some (.agg #[.int .i64 0, .int .i64 0]) ∧ i0.size = 2 ∧ i0.bytes = 16 := by
    have h := infoPr
    cases hh : Try.prog.info? 34 with
    | none => rw [hh] at h; simp at h
    | some i0 => rw [hh] at h; simp at h; exact ⟨i0, rfl, h⟩
  obtain ⟨b2, o2, e2⟩ : ∃ b o, a = ⟨b, o, Option.none⟩ := by
    rcases ha with h | ⟨b, o, e, -⟩
    · cases h
    · injection e with e; exact ⟨b, o, e⟩
  subst e2
  obtain ⟨v, W', hr, ho, hg⟩ := run_append_arg_grows (P := Try.prog) (w := W) 38 ty 34 i0 (.agg #[.int .i64 0, .int .i64 0]) 2 16 Try.underlying38 hi hz0 hz1 hz2 rfl (by decide)
    ⟨bn, 0, Option.none⟩ 9 9 (pcells nine) rfl (rd2_cells hn) ⟨b2, o2, Option.none⟩ 1 1 (pcells [(0, 0)]) rfl (rd2_cells ha) (by decide) (by decide) (by decide)
  rw [← pcells_append] at ho
  obtain ⟨a', k, rfl, -, h2, -⟩ := owns2_arg ho
  exact ⟨a', k, W', hr, h2, below_none hg⟩
theorem make9_run (W : World) : (Instr.makeSlice 38 (.int .i64 9) (.int .i64 9)).run Try.prog W = .ok (.slice (some ⟨W.heap.size, 0, Option.none⟩) 9 9) (W.alloc (.cells (madeCells (Value.agg #[.int .i64 0, .int .i64 0]).cells 18) 34)) := by
  obtain ⟨i0, hi, hz0, hz1, hz2⟩ := info_parts infoPr
  have h := run_makeSlice (P := Try.prog) W 38 34 i0 (.agg #[.int .i64 0, .int .i64 0]) Try.underlying38 hi hz0 .i64 .i64 9 9 (by decide) (by decide) (by rw [hz1]; decide) (by rw [hz2]; decide) (by decide)
  rw [hz1] at h
  exact h
theorem made9_owns (W : World) : (W.alloc (.cells (madeCells #[.int .i64 0, .int .i64 0] 18) 34)).ownsRow W.heap.size 34 2 (.slice (some ⟨W.heap.size, 0, Option.none⟩) 9 9) 9 (pcells (fillK 0)) := by
  have h2 := World.ownsRow_lit (base := W.heap.size) (e := 34) (size := 2) W (madeCells #[.int .i64 0, .int .i64 0] 18) 9 (Nat.le_refl _) (by decide) (by rw [size_madeCells])
  rwa [show (madeCells #[Value.int .i64 0, Value.int .i64 0] 18).toList = pcells (fillK 0) by kernel_rfl] at h2
end Go.Proofs.Ytiemfklonhlnnaa.Load
