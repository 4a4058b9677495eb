/- load.anew, load.Load of the chapter's config. load.Range's test; slices.IndexFunc with it. load.Range, load.Rebuild of the chapter's config. load.both: its key, its test; a scope of two labels. -/
import Derived.Test.YtiemfklonhlnnaaMap
set_option linter.unusedSimpArgs false
set_option linter.unusedVariables false
namespace Go.Proofs.Ytiemfklonhlnnaa.Load
open Go.RowKit Go.Shelf Go.Sort Go.Proofs.Ytiemfklonhlnnaa Go.Proofs.Ytiemfklonhlnnaa.Occ Go.Proofs.Ytiemfklonhlnnaa.Slo Go.Proofs.Ytiemfklonhlnnaa.Seek Go.Proofs.Ytiemfklonhlnnaa.Lay
attribute [local go_sem] sval cval mval Oper.semAt_some
set_option maxRecDepth 100000 in
set_option maxHeartbeats 16000000 in
theorem anew_any (c : Conf.Cfg) (s : Sl) (h : Hd) (al : Option Addr) (cl : Nat) (ps : List (Int × Int)) (w : World) (hc0 : c = c0) (G : Good s) (R : MRd w s h) (hrp : Rd2 w al ps) (lp : ps.length ≤ 100) :
    Calls Try.prog 13 #[mval c s h, .slice al ps.length cl] w fun e w' => AnsM (anewV s ps) w e w' := by
  have HL := Lib.hid (fun w1 R RP => gapLoad_any c s h al cl ps w1 hc0 G R RP lp)
  have HR := Lib.hid R
  have HRP := Lib.hid hrp
  unfold AnsM
  unfold AnsS at HL
  by_cases h8 : 8 < ps.length
  · have HV : Hid (anewV s ps = ((cz, noneS), 9)) := Lib.hid (if_pos h8)
    rw [show gapLoadV s ps = (noneS, 9) from if_pos h8] at HL
    dsimp only at HL
    clear R hrp G hc0 h8 lp
    have E0 := Lib.hid ((((((St.below' ((allocM_below w c s h).trans ((allocMZ_below (allocM w c s h)).mono (by rw [allocM_size]; omega))))).and (St.mrd (((HR.out).next (allocM_below w c s h)).next (allocMZ_below (allocM w c s h))))).and (St.rd2 ((HRP.out.mono (allocM_below w c s h) (Nat.le_refl _)).mono (allocMZ_below (allocM w c s h)) (Nat.le_refl _)))).and (St.bv ((allocM_bv w c s h).next (allocMZ_below (allocM w c s h))))).and (St.bv (b := w.heap.size + 1) (by have := allocMZ_bv (allocM w c s h); rw [allocM_size] at this; exact this)))
    go_enter Try.func13, Try.ntmps13
    go_wp2_with fail
    rw [allocM_fold, allocMZ_fold]
    generalize (allocMZ (allocM w c s h)) = w0 at *
    refine (HL.out _ E0.out.now.2.2.2.1 E0.out.now.2.2.1).mono ?_
    rintro e w1 ⟨h', rfl, ho, hb⟩
    have E1 := Lib.hid (E0.out.next hb)
    clear hb
    clear ho HL HR HRP
    have hth : w1.there _ 0 15 := BV.there (E1.out.now.1) rfl
    go_wp2_with (first | (refine wpList_store_map _ _ rfl rfl rfl rfl (by first | exact hth | exact there_alloc hth) ?_) | (refine wpList_store_newmap _ _ rfl rfl rfl rfl ?_))
    rw [allocS_fold]
    have E2 := Lib.hid (E1.out.next (allocS_below w1 noneS h'))
    have D := BV.st (vs := [.int .u8 0, .int .i64 0, .int .i64 0, .int .i64 0, .int .i64 0, .int .i64 0, .int .i64 0, .int .i64 0, .int .i64 0, .int .i64 0, .slice Option.none 0 0, .slice Option.none 0 0, .slice Option.none 0 0, .slice Option.none 0 0, .int .u64 0]) (E2.out.now.1) rfl
    have q0 := D.c 0 _ rfl; have q1 := D.c 1 _ rfl; have q2 := D.c 2 _ rfl; have q3 := D.c 3 _ rfl; have q4 := D.c 4 _ rfl; have q5 := D.c 5 _ rfl; have q6 := D.c 6 _ rfl; have q7 := D.c 7 _ rfl; have q8 := D.c 8 _ rfl; have q9 := D.c 9 _ rfl; have q10 := D.c 10 _ rfl; have q11 := D.c 11 _ rfl; have q12 := D.c 12 _ rfl; have q13 := D.c 13 _ rfl; have q14 := D.c 14 _ rfl
    refine bodyPost_ret (v := .tuple #[.agg #[.int .u8 0, .int .i64 0, .int .i64 0, .int .i64 0, .int .i64 0, .int .i64 0, .int .i64 0, .int .i64 0, .int .i64 0, .int .i64 0, .slice Option.none 0 0, .slice Option.none 0 0, .slice Option.none 0 0, .slice Option.none 0 0, .int .u64 0], .int .i64 9]) (by simp [results, Try.results13, mval, cval, sval, go_sem, q0, q1, q2, q3, q4, q5, q6, q7, q8, q9, q10, q11, q12, q13, q14]) rfl ⟨noneH, by rw [HV.out]; rfl, by rw [HV.out]; exact noneS_own _ _ _, stV_below E2.out.now.2.2.2.2 (by omega)⟩
  · have HV : Hid (anewV s ps = ((c, (intoSV s 16 ps).1), 0)) := Lib.hid (by rw [hc0]; exact if_neg h8)
    rw [show gapLoadV s ps = ((intoSV s 16 ps).1, 0) from if_neg h8] at HL
    dsimp only at HL
    generalize (intoSV s 16 ps).1 = S at *
    clear R hrp G hc0 h8 lp
    have E0 := Lib.hid ((((((St.below' ((allocM_below w c s h).trans ((allocMZ_below (allocM w c s h)).mono (by rw [allocM_size]; omega))))).and (St.mrd (((HR.out).next (allocM_below w c s h)).next (allocMZ_below (allocM w c s h))))).and (St.rd2 ((HRP.out.mono (allocM_below w c s h) (Nat.le_refl _)).mono (allocMZ_below (allocM w c s h)) (Nat.le_refl _)))).and (St.bv ((allocM_bv w c s h).next (allocMZ_below (allocM w c s h))))).and (St.bv (b := w.heap.size + 1) (by have := allocMZ_bv (allocM w c s h); rw [allocM_size] at this; exact this)))
    go_enter Try.func13, Try.ntmps13
    go_wp2_with fail
    rw [allocM_fold, allocMZ_fold]
    generalize (allocMZ (allocM w c s h)) = w0 at *
    refine (HL.out _ E0.out.now.2.2.2.1 E0.out.now.2.2.1).mono ?_
    rintro e w1 ⟨h', rfl, ho, hb⟩
    have E1 := Lib.hid ((E0.out.next hb).and (St.own ho))
    clear hb
    clear ho HL HR HRP
    have hz1 := E0.out.now.1.lt
    have hz0 := E0.out.now.2.2.2.2.size
    obtain ⟨-, -, bm_v, -, -, -⟩ := E1.out.now
    have bm_0 := bm_v.c 0 _ rfl; have bm_1 := bm_v.c 1 _ rfl; have bm_2 := bm_v.c 2 _ rfl; have bm_3 := bm_v.c 3 _ rfl; have bm_4 := bm_v.c 4 _ rfl; have bm_5 := bm_v.c 5 _ rfl; have bm_6 := bm_v.c 6 _ rfl; have bm_7 := bm_v.c 7 _ rfl; have bm_8 := bm_v.c 8 _ rfl; have bm_9 := bm_v.c 9 _ rfl; have bm_10 := bm_v.c 10 _ rfl; have bm_11 := bm_v.c 11 _ rfl; have bm_12 := bm_v.c 12 _ rfl; have bm_13 := bm_v.c 13 _ rfl; have bm_14 := bm_v.c 14 _ rfl; have bm_l := bm_v.lt
    clear bm_v
    have hth : w1.there _ 0 15 := BV.there (E1.out.now.2.1) rfl
    go_wp2_with (first | (refine wpList_store_map _ _ rfl rfl rfl rfl (by first | exact hth | exact there_alloc hth) ?_) | (refine wpList_store_newmap _ _ rfl rfl rfl rfl ?_))
    clear bm_0 bm_1 bm_2 bm_3 bm_4 bm_5 bm_6 bm_7 bm_8 bm_9 bm_10 bm_11 bm_12 bm_13 bm_14 bm_l
    rw [allocS_fold]
    have E2 := Lib.hid (E1.out.next (allocS_below w1 S h'))
    have D := BV.st (vs := [.int .u8 c.tag, .int .i64 c.most, .int .i64 c.seg, .int .i64 c.least, .int .i64 c.den, .int .i64 c.ll, .int .i64 c.rl, .int .i64 c.rh, .int .i64 c.lh, .int .i64 S.seg, .slice h'.aw S.ws.length h'.cw, .slice h'.ak S.ks.length h'.ck, .slice h'.av S.vs.length h'.cv, .slice h'.ac S.cs.length h'.cc, .int .u64 S.laid]) (E2.out.now.2.1) rfl
    have q0 := D.c 0 _ rfl; have q1 := D.c 1 _ rfl; have q2 := D.c 2 _ rfl; have q3 := D.c 3 _ rfl; have q4 := D.c 4 _ rfl; have q5 := D.c 5 _ rfl; have q6 := D.c 6 _ rfl; have q7 := D.c 7 _ rfl; have q8 := D.c 8 _ rfl; have q9 := D.c 9 _ rfl; have q10 := D.c 10 _ rfl; have q11 := D.c 11 _ rfl; have q12 := D.c 12 _ rfl; have q13 := D.c 13 _ rfl; have q14 := D.c 14 _ rfl
    refine bodyPost_ret (v := .tuple #[mval c S h', .int .i64 0]) (by simp [results, Try.results13, mval, cval, sval, go_sem, q0, q1, q2, q3, q4, q5, q6, q7, q8, q9, q10, q11, q12, q13, q14]) rfl ⟨h', by rw [HV.out], ?_, stV_below E2.out.now.2.2.2.2.2 (by omega)⟩
    rw [HV.out]
    exact (stV_own E2.out.now.1 hz1).mono (by omega) (by rw [stV_size, allocS_size]; omega)
def LoadV (s : Sl) (ps : List (Int × Int)) : (Conf.Cfg × Sl) × Int := if riseB ps = true then anewV s ps else ((cz, noneS), 130)
set_option maxRecDepth 100000 in
set_option maxHeartbeats 16000000 in
theorem Load_any (c : Conf.Cfg) (s : Sl) (h : Hd) (al : Option Addr) (cl : Nat) (ps : List (Int × Int)) (w : World) (hc0 : c = c0) (G : Good s) (R : MRd w s h) (hrp : Rd2 w al ps) (lp : ps.length ≤ 100) :
    Calls Try.prog 5 #[mval c s h, .slice al ps.length cl] w fun e w' => AnsM (LoadV s ps) w e w' := by
  have HC := Lib.hid (fun w1 R => pmaCheck_ok c s h w1 hc0 G R)
  have HA := Lib.hid (fun w1 R RP => anew_any c s h al cl ps w1 hc0 G R RP lp)
  have HR := Lib.hid R
  have HRP := Lib.hid hrp
  have HB : Hid (∀ k, k + 1 < ps.length → ¬ (ps.getD k (0, 0)).1 < (ps.getD (k + 1) (0, 0)).1 → LoadV s ps = ((cz, noneS), 130)) := Lib.hid (fun k hk hn => if_neg (by rw [riseB_no hk hn]; decide))
  have HG : Hid ((∀ j, j + 1 < ps.length → (ps.getD j (0, 0)).1 < (ps.getD (j + 1) (0, 0)).1) → LoadV s ps = anewV s ps) := Lib.hid (fun h => if_pos (riseB_iff.2 h))
  unfold AnsM at HA ⊢
  generalize LoadV s ps = V at *
  generalize anewV s ps = V2 at *
  clear R hrp G hc0
  have E0 := Lib.hid ((((((St.below' ((allocM_below w c s h).trans ((allocMZ_below (allocM w c s h)).mono (by rw [allocM_size]; omega))))).and (St.mrd (((HR.out).next (allocM_below w c s h)).next (allocMZ_below (allocM w c s h))))).and (St.rd2 ((HRP.out.mono (allocM_below w c s h) (Nat.le_refl _)).mono (allocMZ_below (allocM w c s h)) (Nat.le_refl _)))).and (St.bv ((allocM_bv w c s h).next (allocMZ_below (allocM w c s h))))).and (St.bv (b := w.heap.size + 1) (by have := allocMZ_bv (allocM w c s h); rw [allocM_size] at this; exact this)))
  go_enter Try.func5, Try.ntmps5
  go_wp2_with fail
  rw [allocM_fold, allocMZ_fold]
  generalize (allocMZ (allocM w c s h)) = w0 at *
  refine (HC.out _ E0.out.now.2.2.2.1).mono ?_
  rintro e w1 ⟨rfl, hb⟩
  have E1 := Lib.hid (E0.out.next hb)
  clear hb
  clear HC HR HRP
  have hmin : (ps.length : Int) - min (ps.length : Int) 1 = ((ps.length - 1 : Nat) : Int) := by omega
  have hwr : IntKind.i64.wrap ((ps.length : Int) - min (ps.length : Int) 1) = ((ps.length - 1 : Nat) : Int) := by rw [hmin, IntKind.wrap_i64]; omega
  go_wp2
  go_loopw [7, 20] (fun _ i wr => ∃ k : Nat, k ≤ ps.length - 1 ∧ i = .int .i64 k ∧ (∀ j, j < k → (ps.getD j (0, 0)).1 < (ps.getD (j + 1) (0, 0)).1) ∧ Below w1.heap.size w1 wr) (fun _ i _ => ps.length - 1 - (intOf i).toNat)
  case atStart => exact ⟨0, Nat.zero_le _, rfl, fun j hj => by omega, Below.refl _ _⟩
  case round =>
    obtain ⟨k, hk, rfl, hris, hb⟩ := hrel
    have HRI := Lib.hid hris
    have E2 := Lib.hid ((E1.out.next hb).and (St.below' hb))
    clear hb hris
    by_cases hlt : k < ps.length - 1
    · have hl0 : k < ps.length := by omega
      have hl1 : k + 1 < ps.length := by omega
      obtain ⟨b, o, rfl, ca, -⟩ := Rd2.at E2.out.now.2.2.2.1 (Below.refl _ _) (Nat.le_refl _) hl0
      obtain ⟨b2, o2, e2, cb, -⟩ := Rd2.at E2.out.now.2.2.2.1 (Below.refl _ _) (Nat.le_refl _) hl1
      cases e2
      have HB1 := Lib.hid (HB.out k hl1)
      have HR2 : Hid ((ps.getD k (0, 0)).1 < (ps.getD (k + 1) (0, 0)).1 → ∀ j, j < k + 1 → (ps.getD j (0, 0)).1 < (ps.getD (j + 1) (0, 0)).1) := Lib.hid (fun h j hj => by rcases Nat.lt_or_eq_of_le (Nat.lt_succ_iff.1 hj) with g | g; exact HRI.out j g; subst g; exact h)
      generalize (ps.getD k (0, 0)).1 = x0 at *
      generalize (ps.getD (k + 1) (0, 0)).1 = x1 at *
      clear HB
      obtain ⟨k1, hk1⟩ : ∃ k1, k1 = k + 1 := ⟨_, rfl⟩
      rw [← hk1] at cb hl1 HR2
      have wk1 : IntKind.i64.wrap ((k : Int) + 1) = (k1 : Int) := by rw [IntKind.wrap_i64]; omega
      have HK1 := Lib.hid hk1
      clear hk1
      by_cases hx : x0 < x1
      · have t1 : decide (x1 ≤ x0) = false := by simpa using hx
        go_wp2
        refine still_lit mixed' (by kernel_rfl) ?_
        repeat still_step
        refine wpStill_nil ?_
        go_wp2
        go_roundw
        case rel => exact ⟨k1, by have := HK1.out; omega, by have := HK1.out; first | (go_num; done) | (go_num; omega), HR2.out hx, (E2.out.now.1).drew⟩
        case measure => have := HK1.out; simp [intOf]; omega
      · have t1 : decide (x1 ≤ x0) = true := by simp; omega
        have HV := Lib.hid (HB1.out (by omega))
        go_wp2
        refine still_lit mixed' (by kernel_rfl) ?_
        repeat still_step
        refine wpStill_nil ?_
        have hdr := (Below.refl wr.heap.size wr).drew
        have E3 := Lib.hid (E2.out.next hdr)
        have hth : wr.drew.there _ 0 15 := BV.there (E3.out.now.2.1) rfl
        go_wp2_with (first | (refine wpList_store_map _ _ rfl rfl rfl rfl (by first | exact hth | exact there_alloc hth) ?_) | (refine wpList_store_newmap _ _ rfl rfl rfl rfl ?_))
        have D := BV.st (vs := [.int .u8 0, .int .i64 0, .int .i64 0, .int .i64 0, .int .i64 0, .int .i64 0, .int .i64 0, .int .i64 0, .int .i64 0, .int .i64 0, .slice Option.none 0 0, .slice Option.none 0 0, .slice Option.none 0 0, .slice Option.none 0 0, .int .u64 0]) (E3.out.now.2.1) rfl
        have q0 := D.c 0 _ rfl; have q1 := D.c 1 _ rfl; have q2 := D.c 2 _ rfl; have q3 := D.c 3 _ rfl; have q4 := D.c 4 _ rfl; have q5 := D.c 5 _ rfl; have q6 := D.c 6 _ rfl; have q7 := D.c 7 _ rfl; have q8 := D.c 8 _ rfl; have q9 := D.c 9 _ rfl; have q10 := D.c 10 _ rfl; have q11 := D.c 11 _ rfl; have q12 := D.c 12 _ rfl; have q13 := D.c 13 _ rfl; have q14 := D.c 14 _ rfl
        refine bodyPost_ret (v := .tuple #[.agg #[.int .u8 0, .int .i64 0, .int .i64 0, .int .i64 0, .int .i64 0, .int .i64 0, .int .i64 0, .int .i64 0, .int .i64 0, .int .i64 0, .slice Option.none 0 0, .slice Option.none 0 0, .slice Option.none 0 0, .slice Option.none 0 0, .int .u64 0], .int .i64 130]) (by simp [results, Try.results5, mval, cval, sval, go_sem, q0, q1, q2, q3, q4, q5, q6, q7, q8, q9, q10, q11, q12, q13, q14]) rfl ⟨noneH, by rw [HV.out]; rfl, by rw [HV.out]; exact noneS_own _ _ _, stV_below E3.out.now.2.2.2.2.2 (by omega)⟩
    · obtain rfl : k = ps.length - 1 := by omega
      have HV := Lib.hid (HG.out (fun j hj => HRI.out j (by omega)))
      clear HRI hlt hk
      obtain ⟨-, -, bm_v, -, -, -⟩ := E2.out.now
      have bm_0 := bm_v.c 0 _ rfl; have bm_1 := bm_v.c 1 _ rfl; have bm_2 := bm_v.c 2 _ rfl; have bm_3 := bm_v.c 3 _ rfl; have bm_4 := bm_v.c 4 _ rfl; have bm_5 := bm_v.c 5 _ rfl; have bm_6 := bm_v.c 6 _ rfl; have bm_7 := bm_v.c 7 _ rfl; have bm_8 := bm_v.c 8 _ rfl; have bm_9 := bm_v.c 9 _ rfl; have bm_10 := bm_v.c 10 _ rfl; have bm_11 := bm_v.c 11 _ rfl; have bm_12 := bm_v.c 12 _ rfl; have bm_13 := bm_v.c 13 _ rfl; have bm_14 := bm_v.c 14 _ rfl; have bm_l := bm_v.lt
      clear bm_v
      go_wp2_with fail
      clear bm_0 bm_1 bm_2 bm_3 bm_4 bm_5 bm_6 bm_7 bm_8 bm_9 bm_10 bm_11 bm_12 bm_13 bm_14 bm_l
      refine (HA.out _ E2.out.now.2.2.2.2.1 E2.out.now.2.2.2.1).mono ?_
      rintro e w3 ⟨h', rfl, ho, hb⟩
      have E3 := Lib.hid ((E2.out.next hb).and (St.own ho))
      clear hb
      clear ho HA
      obtain rfl := HV.out
      obtain ⟨⟨c2, s2⟩, ec⟩ := V
      dsimp only at *
      have hz1 := E2.out.now.2.1.lt
      have hz0 := E2.out.now.2.2.2.2.2.size
      have hth : w3.there _ 0 15 := BV.there (E3.out.now.2.2.1) rfl
      go_wp2_with (first | (refine wpList_store_map _ _ rfl rfl rfl rfl (by first | exact hth | exact there_alloc hth) ?_) | (refine wpList_store_newmap _ _ rfl rfl rfl rfl ?_))
      have D := BV.st (vs := [.int .u8 c2.tag, .int .i64 c2.most, .int .i64 c2.seg, .int .i64 c2.least, .int .i64 c2.den, .int .i64 c2.ll, .int .i64 c2.rl, .int .i64 c2.rh, .int .i64 c2.lh, .int .i64 s2.seg, .slice h'.aw s2.ws.length h'.cw, .slice h'.ak s2.ks.length h'.ck, .slice h'.av s2.vs.length h'.cv, .slice h'.ac s2.cs.length h'.cc, .int .u64 s2.laid]) (E3.out.now.2.2.1) rfl
      have q0 := D.c 0 _ rfl; have q1 := D.c 1 _ rfl; have q2 := D.c 2 _ rfl; have q3 := D.c 3 _ rfl; have q4 := D.c 4 _ rfl; have q5 := D.c 5 _ rfl; have q6 := D.c 6 _ rfl; have q7 := D.c 7 _ rfl; have q8 := D.c 8 _ rfl; have q9 := D.c 9 _ rfl; have q10 := D.c 10 _ rfl; have q11 := D.c 11 _ rfl; have q12 := D.c 12 _ rfl; have q13 := D.c 13 _ rfl; have q14 := D.c 14 _ rfl
      refine bodyPost_ret (v := .tuple #[mval c2 s2 h', .int .i64 ec]) (by simp [results, Try.results5, mval, cval, sval, go_sem, q0, q1, q2, q3, q4, q5, q6, q7, q8, q9, q10, q11, q12, q13, q14]) rfl ⟨h', rfl, ?_, stV_below E3.out.now.2.2.2.2.2.2 (by omega)⟩
      exact (stV_own E3.out.now.1 hz1).mono (by omega) (by rw [stV_size]; exact Nat.le_refl _)
end Go.Proofs.Ytiemfklonhlnnaa.Load

namespace Go.Proofs.Ytiemfklonhlnnaa.Load
open Go.RowKit Go.Shelf Go.Sort Go.Proofs.Ytiemfklonhlnnaa Go.Proofs.Ytiemfklonhlnnaa.Occ Go.Proofs.Ytiemfklonhlnnaa.Slo Go.Proofs.Ytiemfklonhlnnaa.Seek Go.Proofs.Ytiemfklonhlnnaa.Lay
attribute [local go_sem] sval cval mval Oper.semAt_some

/-- Is a pair's key between? -/
def inR (a b : Int) (x : Int × Int) : Bool := decide (a ≤ x.1) && decide (x.1 ≤ b)
/-- What the test has caught. -/
structure Cap (W : World) (p1 p2 : Nat) (a b : Int) : Prop where
  c1 : W.cell? ⟨p1, 0, Option.none⟩ = some (.int .i64 a)
  c2 : W.cell? ⟨p2, 0, Option.none⟩ = some (.int .i64 b)
  l1 : p1 < W.heap.size
  l2 : p2 < W.heap.size
theorem Cap.next {W W' : World} {p1 p2 : Nat} {a b : Int} (x : Cap W p1 p2 a b) (hb : Below W.heap.size W W') : Cap W' p1 p2 a b :=
  ⟨(hb.cell (p := ⟨p1, 0, Option.none⟩) x.l1).trans x.c1, (hb.cell (p := ⟨p2, 0, Option.none⟩) x.l2).trans x.c2, Nat.lt_of_lt_of_le x.l1 hb.size, Nat.lt_of_lt_of_le x.l2 hb.size⟩
theorem St.cap {W : World} {p1 p2 : Nat} {a b : Int} (x : Cap W p1 p2 a b) : St (fun W => Cap W p1 p2 a b) W := ⟨x, fun _ _ x hb => x.next hb⟩
theorem test_any (x y a b : Int) (p1 p2 : Nat) (w : World) (C : Cap w p1 p2 a b) :
    Calls Try.prog 16 #[.agg #[.int .i64 x, .int .i64 y], .pointer (some ⟨p1, 0, Option.none⟩), .pointer (some ⟨p2, 0, Option.none⟩)] w fun e w' => e = .returned (.bool (inR a b (x, y))) ∧ Below w.heap.size w w' := by
  obtain ⟨c1, c2, l1, l2⟩ := C
  have HB := Lib.hid (allocP_below w x y)
  have HI : Hid (inR a b (x, y) = (decide (a ≤ x) && decide (x ≤ b))) := Lib.hid rfl
  by_cases h1 : a ≤ x
  · by_cases h2 : x ≤ b
    · go_enter Try.func16, Try.ntmps16
      go_wp2
      go_ret
      exact ⟨by rw [HI.out]; simp [h1, h2], HB.out⟩
    · go_enter Try.func16, Try.ntmps16
      go_wp2
      go_ret
      exact ⟨by rw [HI.out]; simp [h1, h2], HB.out⟩
  · go_enter Try.func16, Try.ntmps16
    go_wp2
    go_ret
    exact ⟨by rw [HI.out]; simp; omega, HB.out⟩
set_option maxRecDepth 100000 in
set_option maxHeartbeats 16000000 in
theorem index_any (V : Int) (al : Option Addr) (cl : Nat) (ps : List (Int × Int)) (a b : Int) (p1 p2 : Nat) (w : World) (C : Cap w p1 p2 a b) (hrp : Rd2 w al ps) (lp : ps.length ≤ 1000000)
    (HK : ∀ k, k < ps.length → (∀ j, j < k → inR a b (ps.getD j (0, 0)) = false) → inR a b (ps.getD k (0, 0)) = true → V = (k : Int)) (HN : (∀ j, j < ps.length → inR a b (ps.getD j (0, 0)) = false) → V = -1) :
    Calls Try.prog 25 #[.slice al ps.length cl, .func (.func 16) #[] #[.pointer (some ⟨p1, 0, Option.none⟩), .pointer (some ⟨p2, 0, Option.none⟩)]] w fun e w' => e = .returned (.int .i64 V) ∧ Below w.heap.size w w' := by
  have HT := Lib.hid (fun x y w1 C => test_any x y a b p1 p2 w1 C)
  have HK := Lib.hid HK
  have HN := Lib.hid HN
  have HZ := Lib.hid (Below.refl w.heap.size w)
  have E0 := Lib.hid ((((St.below w)).and (St.cap C)).and (St.rd2 hrp))
  clear C hrp
  go_enter Try.func25, Try.ntmps25
  go_wp2
  go_loopw [5, 8] (fun _ i wr => ∃ k : Nat, k ≤ ps.length ∧ i = .int .i64 k ∧ (∀ j, j < k → inR a b (ps.getD j (0, 0)) = false) ∧ Below w.heap.size w wr) (fun _ i _ => ps.length - (intOf i).toNat)
  case atStart => exact ⟨0, Nat.zero_le _, rfl, fun j hj => by omega, HZ.out⟩
  case round =>
    obtain ⟨k, hk, rfl, hris, hb⟩ := hrel
    have HRI := Lib.hid hris
    have E1 := Lib.hid (E0.out.next hb)
    clear hb hris
    by_cases hlt : k < ps.length
    · obtain ⟨bz, oz, rfl, ca, cb⟩ := Rd2.at E1.out.now.1 (Below.refl _ _) (Nat.le_refl _) hlt
      have HK1 := Lib.hid (HK.out k hlt HRI.out)
      have HR2 : Hid (inR a b (ps.getD k (0, 0)) = false → ∀ j, j < k + 1 → inR a b (ps.getD j (0, 0)) = false) := Lib.hid (fun h j hj => by rcases Nat.lt_or_eq_of_le (Nat.lt_succ_iff.1 hj) with g | g; exact HRI.out j g; subst g; exact h)
      generalize ps.getD k (0, 0) = x at *
      obtain ⟨x1, x2⟩ := x
      dsimp only at ca cb
      have HT1 := Lib.hid (fun w1 C => HT.out x1 x2 w1 C)
      generalize hq : inR a b (x1, x2) = q at *
      clear hq
      go_wp2_with fail
      refine (HT1.out _ E1.out.now.2.1).mono ?_
      rintro e w2 ⟨rfl, hb⟩
      have E2 := Lib.hid (E1.out.next hb)
      clear hb
      clear ca cb HT1
      cases q with
      | true =>
        have HV := Lib.hid (HK1.out rfl)
        clear HK1 HR2 HRI
        go_wp2
        go_ret
        exact ⟨by rw [HV.out]; rfl, E2.out.now.2.2⟩
      | false =>
        go_wp2
        go_roundw
        case rel => exact ⟨k + 1, by omega, by go_num, HR2.out (by first | rfl | trivial), E2.out.now.2.2⟩
        case measure => simp [intOf]; omega
    · obtain rfl : k = ps.length := by omega
      have HV := Lib.hid (HN.out HRI.out)
      clear HRI
      go_wp2
      go_ret
      exact ⟨by rw [HV.out]; rfl, E1.out.now.2.2⟩
set_option maxRecDepth 100000 in
set_option maxHeartbeats 16000000 in
theorem delete_none (al : Option Addr) (cl : Nat) (ps : List (Int × Int)) (a b : Int) (p1 p2 : Nat) (w : World) (C : Cap w p1 p2 a b) (hrp : Rd2 w al ps) (lp : ps.length ≤ 1000000) (hn : ∀ j, j < ps.length → inR a b (ps.getD j (0, 0)) = false) :
    Calls Try.prog 15 #[.slice al ps.length cl, .func (.func 16) #[] #[.pointer (some ⟨p1, 0, Option.none⟩), .pointer (some ⟨p2, 0, Option.none⟩)]] w fun e w' => e = .returned (.slice al ps.length cl) ∧ Below w.heap.size w w' := by
  have HI := Lib.hid (index_any (-1) al cl ps a b p1 p2 w C hrp lp (fun k hk _ h => by rw [hn k hk] at h; cases h) (fun _ => rfl))
  clear C hrp hn
  go_enter Try.func15, Try.ntmps15
  go_wp2_with fail
  refine HI.out.mono ?_
  rintro e w1 ⟨rfl, hb⟩
  have HB := Lib.hid hb
  clear hb
  go_wp2
  go_ret
  exact ⟨rfl, HB.out⟩
theorem zero_pair (w : World) : (zeroValue 34).run Try.prog w = .ok (.agg #[.int .i64 0, .int .i64 0]) w := by
  obtain ⟨i0, hi, hz0, hz1, hz2⟩ : ∃ i0, Try.prog.info? 34 = some i0 ∧ i0.zero = some (.agg #[.int .i64 0, .int .i64 0]) ∧ i0.size = 2 ∧ i0.bytes = 16 := by
    have h := infoPr
    cases hh : Try.prog.info? 34 with
    | none => rw [hh] at h; simp at h
    | some i0 => rw [hh] at h; simp at h; exact ⟨i0, rfl, h⟩
  simp [zeroValue, typeInfo, hi, hz0, go_sem]
theorem clear_pairs (w : World) (b o n c : Nat) (ty : TypeId) (hn : 0 < n) (ht : w.there b o (n * 2)) : (Builtin.clear_ #[38] ty #[.slice (some ⟨b, o, Option.none⟩) n c]).run Try.prog w = .ok (.tuple #[]) (w.setCells b o (Builtin.zeroCells #[.int .i64 0, .int .i64 0] n).toList) := by
  have hs : (Builtin.zeroCells #[Value.int .i64 0, Value.int .i64 0] n).toList.length = n * 2 := by simp [Builtin.zeroCells]
  have h1 : ∀ v ∈ (Builtin.zeroCells #[Value.int .i64 0, Value.int .i64 0] n).toList, v.oneCell' = true := by
    intro v hv
    simp [Builtin.zeroCells] at hv
    obtain ⟨j, hj, rfl⟩ := hv
    rcases Nat.mod_two_eq_zero_or_one j with e | e <;> simp [e, Value.oneCell']
  have := run_storeCells_cells (P := Try.prog) b o (Builtin.zeroCells #[Value.int .i64 0, Value.int .i64 0] n).toList 0 w (fun j hj => by simpa using (ht j (by omega)).1) (fun j hj => by simpa using (ht j (by omega)).2) h1
  obtain ⟨m, rfl⟩ : ∃ m, n = m + 1 := ⟨n - 1, by omega⟩
  simp only [Nat.add_zero] at this
  simp [Builtin.clear_, Sem.run_bind, run_underlying Try.underlying38, zero_pair, this, Value.cells]
theorem owns2_form {w : World} {lo n c : Nat} {e : TypeId} {a : Option Addr} {P : List (Int × Int)} (h : w.ownsRow lo e 2 (.slice a P.length c) n (pcells P)) (hl : 0 < P.length) :
    ∃ g c2, Value.slice a P.length c = .slice (some ⟨g, 0, Option.none⟩) P.length c2 ∧ lo ≤ g ∧ P.length ≤ c2 := by
  have hn : n = P.length := by have := h.1; rw [pcells_length] at this; omega
  subst hn
  rcases h.2 with ⟨h1, h0⟩ | ⟨g, cap, cur, h1, hg, hh, hc, hm, hs, ht⟩
  · omega
  · exact ⟨g, cap, h1, hg, hc⟩
theorem owns2_there {w : World} {lo g i n c : Nat} {e : TypeId} {P : List (Int × Int)} (h : w.ownsRow lo e 2 (.slice (some ⟨g, 0, Option.none⟩) P.length c) n (pcells P)) (hl : i < P.length) : w.there g (i * 2) ((P.length - i) * 2) := by
  have hn : n = P.length := by have := h.1; rw [pcells_length] at this; omega
  subst hn
  intro j hj
  refine ⟨?_, h.frozenAt _⟩
  rw [h.cellAt (i * 2 + j) (by omega), List.getElem?_eq_getElem (by rw [pcells_length]; omega)]
  rfl
theorem rd2_cut {w : World} {g i : Nat} {zz : List Value} {P : List (Int × Int)} (h : Rd2 w (some ⟨g, 0, Option.none⟩) P) (hi : i ≤ P.length) : Rd2 (w.setCells g (i * 2) zz) (some ⟨g, 0, Option.none⟩) (P.take i) := by
  rcases h with rfl | ⟨b, o, e, hlt, hc⟩
  · exact .inl (by simp)
  · cases e
    refine .inr ⟨g, 0, rfl, by rw [setCells_stV, stV_size]; exact hlt, fun j hj => ?_⟩
    rw [List.length_take] at hj
    obtain ⟨c0, c1⟩ := hc j (by omega)
    rw [World.cell?_setCells_out g zz (i * 2) w _ (fun _ _ => .inl (by show 0 + j * 2 < i * 2; omega)), World.cell?_setCells_out g zz (i * 2) w _ (fun _ _ => .inl (by show 0 + j * 2 + 1 < i * 2; omega)), c0, c1]
    have : (P.take i).getD j (0, 0) = P.getD j (0, 0) := by simp [List.getD_eq_getElem?_getD, List.getElem?_take, show j < i by omega]
    rw [this]
    exact ⟨rfl, rfl⟩
set_option maxRecDepth 100000 in
set_option maxHeartbeats 16000000 in
theorem delete_tail (n0 : Nat) (al : Option Addr) (cl : Nat) (ps : List (Int × Int)) (i : Nat) (a b : Int) (p1 p2 : Nat) (w : World) (C : Cap w p1 p2 a b) (hO : w.ownsRow n0 34 2 (.slice al ps.length cl) ps.length (pcells ps)) (hn0 : n0 ≤ w.heap.size) (lp : ps.length ≤ 1000000)
    (hi : i < ps.length) (hn : ∀ j, j < i → inR a b (ps.getD j (0, 0)) = false) (hy : ∀ j, i ≤ j → j < ps.length → inR a b (ps.getD j (0, 0)) = true) :
    Calls Try.prog 15 #[.slice al ps.length cl, .func (.func 16) #[] #[.pointer (some ⟨p1, 0, Option.none⟩), .pointer (some ⟨p2, 0, Option.none⟩)]] w fun e w' => e = .returned (.slice al i cl) ∧ Rd2 w' al (ps.take i) ∧ Below n0 w w' := by
  obtain ⟨a2, c2, e2, -, hrp, hcl, -⟩ := owns2_arg hO
  simp only [Value.slice.injEq] at e2
  obtain ⟨rfl, -, rfl⟩ := e2
  have HI := Lib.hid (index_any (i : Int) al cl ps a b p1 p2 w C hrp lp (fun k hk h1 h2 => by
    rcases Nat.lt_trichotomy k i with g | g | g
    · rw [hn k g] at h2; cases h2
    · rw [g]
    · have := hy i (Nat.le_refl _) hi; rw [h1 i g] at this; cases this) (fun h => by have := hy i (Nat.le_refl _) hi; rw [h i hi] at this; cases this))
  have HT := Lib.hid (fun x y w1 C => test_any x y a b p1 p2 w1 C)
  have HY := Lib.hid hy
  have HZ := Lib.hid (fun w1 => Below.refl (World.heap w1).size w1)
  have E0 := Lib.hid (((((St.below w)).and (St.cap C)).and (St.row hO)).and (St.rd2 hrp))
  clear C hrp hO hn hy
  have t0 : (((i : Nat) : Int) == -1) = false := by first | (simp; done) | (simp; omega)
  have wi : IntKind.i64.wrap ((i : Int) + 1) = ((i + 1 : Nat) : Int) := by rw [IntKind.wrap_i64]; omega
  go_enter Try.func15, Try.ntmps15
  go_wp2_with fail
  refine (HI.out).mono ?_
  rintro e w1 ⟨rfl, hb⟩
  have E1 := Lib.hid (E0.out.next hb)
  clear hb
  go_wp2
  go_loopw [5, 6, 7] (fun u j _ wr => ∃ k : Nat, i + 1 ≤ k ∧ k ≤ ps.length ∧ j = .int .i64 k ∧ u = .int .i64 (i : Int) ∧ Below w1.heap.size w1 wr) (fun _ j _ _ => ps.length - (intOf j).toNat)
  case atStart => exact ⟨i + 1, Nat.le_refl _, by omega, by first | (go_num; done) | rfl, by first | rfl | trivial, HZ.out _⟩
  case round =>
    obtain ⟨k, hk0, hk, rfl, rfl, hb⟩ := hrel
    have E2 := Lib.hid ((E1.out.next hb).and (St.below' hb))
    clear hb
    by_cases hlt : k < ps.length
    · obtain ⟨bz, oz, rfl, ca, cb⟩ := Rd2.at E2.out.now.2.1 (Below.refl _ _) (Nat.le_refl _) hlt
      have HY1 := Lib.hid (HY.out k (by omega) hlt)
      generalize ps.getD k (0, 0) = x at *
      obtain ⟨x1, x2⟩ := x
      dsimp only at ca cb
      have HT1 := Lib.hid (fun w1 C => HT.out x1 x2 w1 C)
      rw [HY1.out] at HT1
      go_wp2_with fail
      rw [allocP_fold]
      have E3 := Lib.hid ((E2.out.next (allocP_below wr x1 x2)).and (St.bp (allocP_bp wr x1 x2)))
      generalize allocP wr x1 x2 = w3 at *
      refine (HT1.out _ E3.out.now.2.2.2.2.1).mono ?_
      rintro e w4 ⟨rfl, hb⟩
      have E4 := Lib.hid (E3.out.next hb)
      clear hb
      clear ca cb HT1
      go_wp2
      go_roundw
      case rel => exact ⟨k + 1, by omega, by omega, by go_num, by first | rfl | trivial, E4.out.now.2.1⟩
      case measure => simp [intOf]; omega
    · obtain rfl : k = ps.length := by omega
      clear hlt hk hk0
      obtain ⟨g, cg, eg, hge, -⟩ := owns2_form E2.out.now.2.2.1 (by omega)
      simp only [Value.slice.injEq] at eg
      obtain ⟨rfl, -, rfl⟩ := eg
      have hth : wr.there g (i * 2) ((ps.length - i) * 2) := owns2_there E2.out.now.2.2.1 hi
      have hcp := fun ty => clear_pairs wr g (i * 2) (ps.length - i) (cl - i) ty (by omega) hth
      have n1 : ¬ cl = i := by omega
      have n2 : i ≤ ps.length := by omega
      have n3 : i ≤ cl := by omega
      have HRP := Lib.hid E2.out.now.2.1
      have HBB := Lib.hid E2.out.now.2.2.2.2
      have HGE := Lib.hid hge
      generalize (Builtin.zeroCells #[Value.int .i64 0, Value.int .i64 0] (ps.length - i)).toList = zz at *
      clear hth hge
      go_wp2
      go_ret
      refine ⟨rfl, ?_, ?_⟩
      · exact rd2_cut HRP.out (by omega)
      · rw [setCells_stV]; exact stV_below (HBB.out.mono hn0) HGE.out
end Go.Proofs.Ytiemfklonhlnnaa.Load

namespace Go.Proofs.Ytiemfklonhlnnaa.Load
open Go.RowKit Go.Shelf Go.Sort Go.Proofs.Ytiemfklonhlnnaa Go.Proofs.Ytiemfklonhlnnaa.Occ Go.Proofs.Ytiemfklonhlnnaa.Slo Go.Proofs.Ytiemfklonhlnnaa.Seek Go.Proofs.Ytiemfklonhlnnaa.Lay
attribute [local go_sem] sval cval mval Oper.semAt_some

def allocI (W : World) (x : Int) : World := W.alloc (.cells #[.int .i64 x] 2)
theorem allocI_fold (W : World) (x : Int) : W.alloc (.cells #[.int .i64 x] 2) = allocI W x := rfl
theorem allocI_size (W : World) (x : Int) : (allocI W x).heap.size = W.heap.size + 1 := by simp [allocI]
theorem allocI_below (W : World) (x : Int) : Below W.heap.size W (allocI W x) := (Below.refl _ W).alloc (Nat.le_refl _) _
theorem allocI_bv (W : World) (x : Int) : BV (allocI W x) W.heap.size [.int .i64 x] := BV.new W _ _
/-- Range's boxes. -/
def rgW (w : World) (c : Conf.Cfg) (s : Sl) (h : Hd) (a b : Int) : World := allocMZ (allocI (allocI (allocM w c s h) a) b)
theorem rgW_fold (w : World) (c : Conf.Cfg) (s : Sl) (h : Hd) (a b : Int) : allocMZ (allocI (allocI (allocM w c s h) a) b) = rgW w c s h a b := rfl
theorem rg1 (w : World) (c : Conf.Cfg) (s : Sl) (h : Hd) (a b : Int) : (allocI (allocM w c s h) a).heap.size = w.heap.size + 2 := by rw [allocI_size, allocM_size]
theorem rg2 (w : World) (c : Conf.Cfg) (s : Sl) (h : Hd) (a b : Int) : (allocI (allocI (allocM w c s h) a) b).heap.size = w.heap.size + 3 := by rw [allocI_size, rg1 w c s h a b]
theorem rgW_size (w : World) (c : Conf.Cfg) (s : Sl) (h : Hd) (a b : Int) : (rgW w c s h a b).heap.size = w.heap.size + 4 := by unfold rgW; rw [allocMZ_size, rg2]
theorem rgW_from (w : World) (c : Conf.Cfg) (s : Sl) (h : Hd) (a b : Int) : Below (allocM w c s h).heap.size (allocM w c s h) (rgW w c s h a b) :=
  (allocI_below _ a).trans (((allocI_below _ b).trans ((allocMZ_below _).mono (by rw [rg2, rg1 w c s h a b]; omega))).mono (by rw [rg1 w c s h a b, allocM_size]; omega))
theorem rgW_below (w : World) (c : Conf.Cfg) (s : Sl) (h : Hd) (a b : Int) : Below w.heap.size w (rgW w c s h a b) := (allocM_below w c s h).trans ((rgW_from w c s h a b).mono (by rw [allocM_size]; omega))
theorem rgW_m (w : World) (c : Conf.Cfg) (s : Sl) (h : Hd) (a b : Int) : BV (rgW w c s h a b) w.heap.size (ml c s h) := (allocM_bv w c s h).next (rgW_from w c s h a b)
theorem rgW_z (w : World) (c : Conf.Cfg) (s : Sl) (h : Hd) (a b : Int) : BV (rgW w c s h a b) (w.heap.size + 3) mz := by
  have := allocMZ_bv (allocI (allocI (allocM w c s h) a) b); rw [rg2] at this; exact this
theorem rgW_cap (w : World) (c : Conf.Cfg) (s : Sl) (h : Hd) (a b : Int) : Cap (rgW w c s h a b) (w.heap.size + 1) (w.heap.size + 2) a b := by
  have h1 : BV (rgW w c s h a b) (w.heap.size + 1) [.int .i64 a] := by
    have := ((allocI_bv (allocM w c s h) a).next (allocI_below _ b)).next (allocMZ_below _)
    rw [allocM_size] at this; exact this
  have h2 : BV (rgW w c s h a b) (w.heap.size + 2) [.int .i64 b] := by
    have := (allocI_bv (allocI (allocM w c s h) a) b).next (allocMZ_below _)
    rw [rg1 w c s h a b] at this; exact this
  exact ⟨h1.c 0 _ rfl, h2.c 0 _ rfl, h1.lt, h2.lt⟩
theorem pair_form {W : World} {base n : Nat} {e : TypeId} {v : Value} {P : List (Int × Int)} (h : W.ownsRow base e 2 v n (pcells P)) : ∃ a c, v = .slice a n c := by
  obtain ⟨a, c, e1, e2, -⟩ := owns2_arg h
  exact ⟨a, c, by rw [e1, e2]⟩
set_option maxRecDepth 100000 in
set_option maxHeartbeats 16000000 in
theorem Range_any (c : Conf.Cfg) (s : Sl) (h : Hd) (a b : Int) (Z : List (Int × Int)) (w : World) (hc0 : c = c0) (G : Good s) (R : MRd w s h) (hz : Z.length ≤ 8) (hle : Z.length ≤ (allP s).length)
    (hD : ∀ al cl n0 p1 p2 w1, Cap w1 p1 p2 a b → w1.ownsRow n0 34 2 (.slice al (allP s).length cl) (allP s).length (pcells (allP s)) → n0 ≤ w1.heap.size →
      Calls Try.prog 15 #[.slice al (allP s).length cl, .func (.func 16) #[] #[.pointer (some ⟨p1, 0, Option.none⟩), .pointer (some ⟨p2, 0, Option.none⟩)]] w1 fun e w' => e = .returned (.slice al Z.length cl) ∧ Rd2 w' al Z ∧ Below n0 w1 w') :
    Calls Try.prog 6 #[mval c s h, .int .i64 a, .int .i64 b] w fun e w' => ∃ h', e = .returned (.tuple #[mval c (intoSV s 16 Z).1 h', .int .i64 (((allP s).length - Z.length : Nat) : Int), .int .i64 0]) ∧ SOwn w' w.heap.size w'.heap.size (intoSV s 16 Z).1 h' ∧ Below w.heap.size w w' := by
  have HP := Lib.hid (fun w1 R => Pairs_ok c s h w1 hc0 G R)
  have HA := Lib.hid (fun al cl w1 R RP => anew_any c s h al cl Z w1 hc0 G R RP (by omega))
  rw [show anewV s Z = ((c, (intoSV s 16 Z).1), 0) by rw [hc0]; exact if_neg (by omega)] at HA
  have HD := Lib.hid hD
  have hp16 := allP_short G
  unfold AnsPr at HP
  unfold AnsM at HA
  dsimp only at HP HA
  have HR := Lib.hid R
  generalize (intoSV s 16 Z).1 = S at *
  generalize allP s = P at *
  have wd : IntKind.i64.wrap ((P.length : Int) - (Z.length : Int)) = ((P.length - Z.length : Nat) : Int) := by rw [IntKind.wrap_i64]; omega
  generalize P.length - Z.length = dn at *
  clear R G hc0 hD
  have E0 := Lib.hid ((((((St.below' (rgW_below w c s h a b))).and (St.mrd (HR.out.next (rgW_below w c s h a b)))).and (St.cap (rgW_cap w c s h a b))).and (St.bv (rgW_m w c s h a b))).and (St.bv (rgW_z w c s h a b)))
  go_enter Try.func6, Try.ntmps6
  go_wp2_with fail
  rw [allocM_fold, allocI_fold, allocI_fold, allocMZ_fold, rgW_fold]
  generalize (rgW w c s h a b) = w0 at *
  refine (HP.out _ E0.out.now.2.2.2.1).mono ?_
  rintro e w1 ⟨v, rfl, ho, hb⟩
  obtain ⟨al, cl, rfl⟩ := pair_form ho
  have E1 := Lib.hid (((E0.out.next hb).and (St.row ho)).and (St.below' hb))
  clear hb
  clear ho HP
  go_wp2_with fail
  refine (HD.out _ _ _ _ _ _ E1.out.now.2.2.2.2.1 E1.out.now.2.1 (E1.out.now.1).size).mono ?_
  rintro e w2 ⟨rfl, hr2, hb2⟩
  have E2 := Lib.hid ((E0.out.next ((E1.out.now.1).trans hb2)).and (St.rd2 hr2))
  clear hb2 hr2 HD
  obtain ⟨-, -, bm_v, -, -, -⟩ := E2.out.now
  have bm_0 := bm_v.c 0 _ rfl; have bm_1 := bm_v.c 1 _ rfl; have bm_2 := bm_v.c 2 _ rfl; have bm_3 := bm_v.c 3 _ rfl; have bm_4 := bm_v.c 4 _ rfl; have bm_5 := bm_v.c 5 _ rfl; have bm_6 := bm_v.c 6 _ rfl; have bm_7 := bm_v.c 7 _ rfl; have bm_8 := bm_v.c 8 _ rfl; have bm_9 := bm_v.c 9 _ rfl; have bm_10 := bm_v.c 10 _ rfl; have bm_11 := bm_v.c 11 _ rfl; have bm_12 := bm_v.c 12 _ rfl; have bm_13 := bm_v.c 13 _ rfl; have bm_14 := bm_v.c 14 _ rfl; have bm_l := bm_v.lt
  clear bm_v
  go_wp2_with fail
  clear bm_0 bm_1 bm_2 bm_3 bm_4 bm_5 bm_6 bm_7 bm_8 bm_9 bm_10 bm_11 bm_12 bm_13 bm_14 bm_l
  refine (HA.out al cl _ E2.out.now.2.2.2.2.1 E2.out.now.1).mono ?_
  rintro e w3 ⟨h', rfl, ho, hb⟩
  have E3 := Lib.hid ((E2.out.next hb).and (St.own ho))
  clear hb
  clear ho HA
  have hz1 := E2.out.now.2.1.lt
  have hz0 := E2.out.now.2.2.2.2.2.size
  have hth : w3.there _ 0 15 := BV.there (E3.out.now.2.2.1) rfl
  go_wp2_with (first | (refine wpList_store_map _ _ rfl rfl rfl rfl (by first | exact hth | exact there_alloc hth) ?_) | (refine wpList_store_newmap _ _ rfl rfl rfl rfl ?_))
  rw [allocM_fold]
  have E4 := Lib.hid (E3.out.next (allocM_below w3 c S h'))
  have D := BV.st (vs := [.int .u8 c.tag, .int .i64 c.most, .int .i64 c.seg, .int .i64 c.least, .int .i64 c.den, .int .i64 c.ll, .int .i64 c.rl, .int .i64 c.rh, .int .i64 c.lh, .int .i64 S.seg, .slice h'.aw S.ws.length h'.cw, .slice h'.ak S.ks.length h'.ck, .slice h'.av S.vs.length h'.cv, .slice h'.ac S.cs.length h'.cc, .int .u64 S.laid]) (E4.out.now.2.2.1) rfl
  have q0 := D.c 0 _ rfl; have q1 := D.c 1 _ rfl; have q2 := D.c 2 _ rfl; have q3 := D.c 3 _ rfl; have q4 := D.c 4 _ rfl; have q5 := D.c 5 _ rfl; have q6 := D.c 6 _ rfl; have q7 := D.c 7 _ rfl; have q8 := D.c 8 _ rfl; have q9 := D.c 9 _ rfl; have q10 := D.c 10 _ rfl; have q11 := D.c 11 _ rfl; have q12 := D.c 12 _ rfl; have q13 := D.c 13 _ rfl; have q14 := D.c 14 _ rfl
  refine bodyPost_ret (v := .tuple #[mval c S h', .int .i64 (dn : Int), .int .i64 0]) (by simp [results, Try.results6, mval, cval, sval, go_sem, q0, q1, q2, q3, q4, q5, q6, q7, q8, q9, q10, q11, q12, q13, q14]) rfl ⟨h', rfl, ?_, stV_below E4.out.now.2.2.2.2.2.2 (by omega)⟩
  exact (stV_own E4.out.now.1 hz1).mono (by omega) (by rw [stV_size, allocM_size]; omega)
set_option maxRecDepth 100000 in
set_option maxHeartbeats 16000000 in
theorem Rebuild_any (c : Conf.Cfg) (s : Sl) (h : Hd) (w : World) (hc0 : c = c0) (G : Good s) (R : MRd w s h) : Calls Try.prog 7 #[mval c s h] w fun e w' => AnsM (anewV s (allP s)) w e w' := by
  have HP := Lib.hid (fun w1 R => Pairs_ok c s h w1 hc0 G R)
  have hp16 := allP_short G
  have HA := Lib.hid (fun al cl w1 R RP => anew_any c s h al cl (allP s) w1 hc0 G R RP (by omega))
  have HR := Lib.hid R
  unfold AnsPr at HP
  unfold AnsM at HA ⊢
  dsimp only at HP
  generalize anewV s (allP s) = V at *
  generalize allP s = P at *
  obtain ⟨⟨c2, s2⟩, ec⟩ := V
  dsimp only at HA ⊢
  clear R G hc0
  have E0 := Lib.hid (((((St.below' ((allocM_below w c s h).trans ((allocMZ_below (allocM w c s h)).mono (by rw [allocM_size]; omega))))).and (St.mrd (((HR.out).next (allocM_below w c s h)).next (allocMZ_below (allocM w c s h))))).and (St.bv ((allocM_bv w c s h).next (allocMZ_below (allocM w c s h))))).and (St.bv (b := w.heap.size + 1) (by have := allocMZ_bv (allocM w c s h); rw [allocM_size] at this; exact this)))
  go_enter Try.func7, Try.ntmps7
  go_wp2_with fail
  rw [allocM_fold, allocMZ_fold]
  generalize (allocMZ (allocM w c s h)) = w0 at *
  refine (HP.out _ E0.out.now.2.2.1).mono ?_
  rintro e w1 ⟨v, rfl, ho, hb⟩
  obtain ⟨al, cl, rfl, -, hrp, -⟩ := owns2_arg ho
  clear ho
  have E1 := Lib.hid ((E0.out.next hb).and (St.rd2 hrp))
  clear hb
  clear hrp HP
  obtain ⟨-, -, bm_v, -, -⟩ := E1.out.now
  have bm_0 := bm_v.c 0 _ rfl; have bm_1 := bm_v.c 1 _ rfl; have bm_2 := bm_v.c 2 _ rfl; have bm_3 := bm_v.c 3 _ rfl; have bm_4 := bm_v.c 4 _ rfl; have bm_5 := bm_v.c 5 _ rfl; have bm_6 := bm_v.c 6 _ rfl; have bm_7 := bm_v.c 7 _ rfl; have bm_8 := bm_v.c 8 _ rfl; have bm_9 := bm_v.c 9 _ rfl; have bm_10 := bm_v.c 10 _ rfl; have bm_11 := bm_v.c 11 _ rfl; have bm_12 := bm_v.c 12 _ rfl; have bm_13 := bm_v.c 13 _ rfl; have bm_14 := bm_v.c 14 _ rfl; have bm_l := bm_v.lt
  clear bm_v
  go_wp2_with fail
  clear bm_0 bm_1 bm_2 bm_3 bm_4 bm_5 bm_6 bm_7 bm_8 bm_9 bm_10 bm_11 bm_12 bm_13 bm_14 bm_l
  refine (HA.out al cl _ E1.out.now.2.2.2.1 E1.out.now.1).mono ?_
  rintro e w2 ⟨h', rfl, ho, hb⟩
  have E2 := Lib.hid ((E1.out.next hb).and (St.own ho))
  clear hb
  clear ho HA
  have hz1 := E1.out.now.2.1.lt
  have hz0 := E1.out.now.2.2.2.2.size
  have hth : w2.there _ 0 15 := BV.there (E2.out.now.2.2.1) rfl
  go_wp2_with (first | (refine wpList_store_map _ _ rfl rfl rfl rfl (by first | exact hth | exact there_alloc hth) ?_) | (refine wpList_store_newmap _ _ rfl rfl rfl rfl ?_))
  have D := BV.st (vs := [.int .u8 c2.tag, .int .i64 c2.most, .int .i64 c2.seg, .int .i64 c2.least, .int .i64 c2.den, .int .i64 c2.ll, .int .i64 c2.rl, .int .i64 c2.rh, .int .i64 c2.lh, .int .i64 s2.seg, .slice h'.aw s2.ws.length h'.cw, .slice h'.ak s2.ks.length h'.ck, .slice h'.av s2.vs.length h'.cv, .slice h'.ac s2.cs.length h'.cc, .int .u64 s2.laid]) (E2.out.now.2.2.1) rfl
  have q0 := D.c 0 _ rfl; have q1 := D.c 1 _ rfl; have q2 := D.c 2 _ rfl; have q3 := D.c 3 _ rfl; have q4 := D.c 4 _ rfl; have q5 := D.c 5 _ rfl; have q6 := D.c 6 _ rfl; have q7 := D.c 7 _ rfl; have q8 := D.c 8 _ rfl; have q9 := D.c 9 _ rfl; have q10 := D.c 10 _ rfl; have q11 := D.c 11 _ rfl; have q12 := D.c 12 _ rfl; have q13 := D.c 13 _ rfl; have q14 := D.c 14 _ rfl
  refine bodyPost_ret (v := .tuple #[mval c2 s2 h', .int .i64 ec]) (by simp [results, Try.results7, mval, cval, sval, go_sem, q0, q1, q2, q3, q4, q5, q6, q7, q8, q9, q10, q11, q12, q13, q14]) rfl ⟨h', rfl, ?_, stV_below E2.out.now.2.2.2.2.2 (by omega)⟩
  exact (stV_own E2.out.now.1 hz1).mono (by omega) (by rw [stV_size]; exact Nat.le_refl _)
end Go.Proofs.Ytiemfklonhlnnaa.Load

namespace Go.Proofs.Ytiemfklonhlnnaa.Load
open Go.RowKit Go.Shelf Go.Sort Go.Proofs.Ytiemfklonhlnnaa Go.Proofs.Ytiemfklonhlnnaa.Occ Go.Proofs.Ytiemfklonhlnnaa.Slo Go.Proofs.Ytiemfklonhlnnaa.Seek Go.Proofs.Ytiemfklonhlnnaa.Lay
attribute [local go_sem] sval cval mval Oper.semAt_some

/-- A scope with a label to which the run jumps back, and one to which it jumps forward, once. -/
def jump2 (l1 : Nat) (J1 : Act → World → Prop) (l2 : Nat) (J2 : Act → World → Prop) (Q : Exit → Act → World → Prop) : Exit → Act → World → Prop
  | .goto l', a, w => (l' = l1 ∧ J1 a w) ∨ (l' = l2 ∧ J2 a w)
  | e, a, w => Q e a w
theorem wp_scope_two {P : Program} {a : Act} {w : World} {Q : Exit → Act → World → Prop} {c rest1 rest2 : Code} (l1 l2 : Nat) (J : Act → World → Prop) (μ : Act → World → Nat) (hf1 : findLabel c l1 = some (Code.skip.seq rest1)) (hf2 : findLabel c l2 = some (Code.skip.seq rest2))
    (pass : ∀ a w, J a w → rest1.wp P (jump2 l1 (fun a' w' => J a' w' ∧ μ a' w' < μ a w) l2 (fun a' w' => rest2.wp P (Exit.jump l2 (fun _ _ => False) Q) a' w') Q) a w)
    (first : (∀ a w, J a w → rest1.wp P (jump2 l1 J l2 (fun a' w' => rest2.wp P (Exit.jump l2 (fun _ _ => False) Q) a' w') Q) a w) → c.wp P (jump2 l1 J l2 (fun a' w' => rest2.wp P (Exit.jump l2 (fun _ _ => False) Q) a' w') Q) a w) : (Code.scope c).wp P Q a w := by
  have first' := first fun a w hJ => Code.wp_mono (fun e a2 w2 hq => by
    cases e with
    | goto l' => exact hq.elim (fun h => .inl ⟨h.1, h.2.1⟩) .inr
    | normal => exact hq
    | exit i => exact hq
    | ret => exact hq
    | panic u => exact hq
    | outgrown => exact hq) (pass a w hJ)
  have pass : ∀ a w, J a w → (Code.skip.seq rest1).wp P (jump2 l1 (fun a' w' => J a' w' ∧ μ a' w' < μ a w) l2 (fun a' w' => rest2.wp P (Exit.jump l2 (fun _ _ => False) Q) a' w') Q) a w := fun a w hJ => wp_seq (wp_skip (pass a w hJ))
  intro b k cs
  have hg1 : gotoIn l1 (.inScope c :: k) = some (.code (Code.skip.seq rest1) :: .inScope c :: k) := by simp [gotoIn, hf1]
  have hg2 : gotoIn l2 (.inScope c :: k) = some (.code (Code.skip.seq rest2) :: .inScope c :: k) := by simp [gotoIn, hf2]
  have fwd : ∀ a w, rest2.wp P (Exit.jump l2 (fun _ _ => False) Q) a w → ∃ e a' w', Q e a' w' ∧ Arrives P (lone (b.at a (.code (Code.skip.seq rest2) :: .inScope c :: k)) cs w) b k cs e a' w' := by
    intro a w h
    obtain ⟨e, a₁, w₁, hq, harr⟩ := (wp_seq (wp_skip h) : (Code.skip.seq rest2).wp P (Exit.jump l2 (fun _ _ => False) Q) a w) b (.inScope c :: k) cs
    cases e with
    | normal => exact ⟨.normal, a₁, w₁, hq, Steps.trans harr (.one step_inScope)⟩
    | exit id => exact ⟨.exit id, a₁, w₁, hq, fun k' hk => harr k' (by simp [exitTo, hk])⟩
    | goto l' => exact hq.2.elim
    | ret => exact ⟨_, a₁, w₁, hq, harr⟩
    | panic ch => exact ⟨_, a₁, w₁, hq, harr⟩
    | outgrown => exact ⟨_, a₁, w₁, hq, harr⟩
  have key : ∀ n a w, μ a w = n → J a w → ∃ e a' w', Q e a' w' ∧ Arrives P (lone (b.at a (.code (Code.skip.seq rest1) :: .inScope c :: k)) cs w) b k cs e a' w' := by
    intro n
    induction n using Nat.strongRecOn with
    | _ n ih =>
      intro a w hn hJ
      obtain ⟨e, a₁, w₁, hq, harr⟩ := pass a w hJ b (.inScope c :: k) cs
      cases e with
      | normal => exact ⟨.normal, a₁, w₁, hq, Steps.trans harr (.one step_inScope)⟩
      | exit id => exact ⟨.exit id, a₁, w₁, hq, fun k' hk => harr k' (by simp [exitTo, hk])⟩
      | goto l' =>
        rcases hq with ⟨rfl, hJ', hlt⟩ | ⟨rfl, hr⟩
        · obtain ⟨e₂, a₂, w₂, hq₂, harr₂⟩ := ih _ (by omega) a₁ w₁ rfl hJ'
          exact ⟨e₂, a₂, w₂, hq₂, .of_steps (harr _ hg1) harr₂⟩
        · obtain ⟨e₂, a₂, w₂, hq₂, harr₂⟩ := fwd a₁ w₁ hr
          exact ⟨e₂, a₂, w₂, hq₂, .of_steps (harr _ hg2) harr₂⟩
      | ret => exact ⟨_, a₁, w₁, hq, harr⟩
      | panic ch => exact ⟨_, a₁, w₁, hq, harr⟩
      | outgrown => exact ⟨_, a₁, w₁, hq, harr⟩
  obtain ⟨e, a₁, w₁, hq, harr⟩ := first' b (.inScope c :: k) cs
  cases e with
  | normal => exact ⟨.normal, a₁, w₁, hq, .head step_scope (Steps.trans harr (.one step_inScope))⟩
  | exit id => exact ⟨.exit id, a₁, w₁, hq, fun k' hk => .head step_scope (harr k' (by simp [exitTo, hk]))⟩
  | goto l' =>
    rcases hq with ⟨rfl, hJ'⟩ | ⟨rfl, hr⟩
    · obtain ⟨e₂, a₂, w₂, hq₂, harr₂⟩ := key _ a₁ w₁ rfl hJ'
      exact ⟨e₂, a₂, w₂, hq₂, .of_steps (.head step_scope (harr _ hg1)) harr₂⟩
    · obtain ⟨e₂, a₂, w₂, hq₂, harr₂⟩ := fwd a₁ w₁ hr
      exact ⟨e₂, a₂, w₂, hq₂, .of_steps (.head step_scope (harr _ hg2)) harr₂⟩
  | ret => exact ⟨_, a₁, w₁, hq, .of_steps (.one step_scope) harr⟩
  | panic ch => exact ⟨_, a₁, w₁, hq, .of_steps (.one step_scope) harr⟩
  | outgrown => exact ⟨_, a₁, w₁, hq, .of_steps (.one step_scope) harr⟩

/-- Pairs in blocks that stood before. -/
def Rd2N (n : Nat) (w : World) (a : Option Addr) (P : List (Int × Int)) : Prop :=
  P = [] ∨ ∃ b off, a = some ⟨b, off, Option.none⟩ ∧ b < n ∧ ∀ i, i < P.length → w.cell? ⟨b, off + i * 2, Option.none⟩ = some (.int .i64 (P.getD i (0, 0)).1) ∧ w.cell? ⟨b, off + i * 2 + 1, Option.none⟩ = some (.int .i64 (P.getD i (0, 0)).2)
theorem Rd2N.of {n : Nat} {w : World} {a : Option Addr} {P : List (Int × Int)} (h : Rd2 w a P) (hn : w.heap.size ≤ n) : Rd2N n w a P := by
  rcases h with h | ⟨b, o, e, hl, hc⟩
  · exact .inl h
  · exact .inr ⟨b, o, e, by omega, hc⟩
theorem Rd2N.rd {n : Nat} {w : World} {a : Option Addr} {P : List (Int × Int)} (h : Rd2N n w a P) (hn : n ≤ w.heap.size) : Rd2 w a P := by
  rcases h with h | ⟨b, o, e, hl, hc⟩
  · exact .inl h
  · exact .inr ⟨b, o, e, by omega, hc⟩
theorem Rd2N.keep {n : Nat} {w w' : World} {a : Option Addr} {P : List (Int × Int)} (h : Rd2N n w a P) (hb : Below n w w') : Rd2N n w' a P := by
  rcases h with h | ⟨b, o, e, hl, hc⟩
  · exact .inl h
  · exact .inr ⟨b, o, e, hl, fun i hi => ⟨(hb.cell (p := ⟨b, o + i * 2, Option.none⟩) hl).trans (hc i hi).1, (hb.cell (p := ⟨b, o + i * 2 + 1, Option.none⟩) hl).trans (hc i hi).2⟩⟩
theorem Rd2N.head {n : Nat} {w : World} {a : Option Addr} {x : Int × Int} {P : List (Int × Int)} (h : Rd2N n w a (x :: P)) :
    ∃ b o, a = some ⟨b, o, Option.none⟩ ∧ b < n ∧ w.cell? ⟨b, o, Option.none⟩ = some (.int .i64 x.1) ∧ w.cell? ⟨b, o + 1, Option.none⟩ = some (.int .i64 x.2) ∧ Rd2N n w (some ⟨b, o + 2, Option.none⟩) P := by
  rcases h with h | ⟨b, o, e, hl, hc⟩
  · cases h
  · refine ⟨b, o, e, hl, by simpa using (hc 0 (by simp)).1, by simpa using (hc 0 (by simp)).2, .inr ⟨b, o + 2, rfl, hl, fun i hi => ?_⟩⟩
    have := hc (i + 1) (by simp; omega)
    rw [show o + (i + 1) * 2 = o + 2 + i * 2 by omega] at this
    simpa using this
theorem key_any (x y : Int) (w : World) : Calls Try.prog 18 #[.agg #[.int .i64 x, .int .i64 y]] w fun e w' => e = .returned (.int .i64 x) ∧ Below w.heap.size w w' := by
  have HB := Lib.hid (allocP_below w x y)
  go_enter Try.func18, Try.ntmps18
  go_wp2
  go_ret
  exact ⟨rfl, HB.out⟩
/-- What the test reads. -/
structure FI (W : World) (B g1 o1 n1 k1 g2 o2 n2 k2 : Nat) (x1 x2 y1 y2 : Int) : Prop where
  kf : W.cell? ⟨B + 2, 0, Option.none⟩ = some (.func (.func 18) #[] #[])
  ka : W.cell? ⟨B, 0, Option.none⟩ = some (.slice (some ⟨g1, o1, Option.none⟩) (n1 + 1) k1)
  kb : W.cell? ⟨B + 1, 0, Option.none⟩ = some (.slice (some ⟨g2, o2, Option.none⟩) (n2 + 1) k2)
  a1 : W.cell? ⟨g1, o1, Option.none⟩ = some (.int .i64 x1)
  a2 : W.cell? ⟨g1, o1 + 1, Option.none⟩ = some (.int .i64 x2)
  b1 : W.cell? ⟨g2, o2, Option.none⟩ = some (.int .i64 y1)
  b2 : W.cell? ⟨g2, o2 + 1, Option.none⟩ = some (.int .i64 y2)
  lB : B + 2 < W.heap.size
  l1 : g1 < W.heap.size
  l2 : g2 < W.heap.size
theorem FI.next {W W' : World} {B g1 o1 n1 k1 g2 o2 n2 k2 : Nat} {x1 x2 y1 y2 : Int} (x : FI W B g1 o1 n1 k1 g2 o2 n2 k2 x1 x2 y1 y2) (hb : Below W.heap.size W W') : FI W' B g1 o1 n1 k1 g2 o2 n2 k2 x1 x2 y1 y2 :=
  ⟨(hb.cell (p := ⟨B + 2, 0, Option.none⟩) x.lB).trans x.kf, (hb.cell (p := ⟨B, 0, Option.none⟩) (by have := x.lB; show B < _; omega)).trans x.ka, (hb.cell (p := ⟨B + 1, 0, Option.none⟩) (by have := x.lB; show B + 1 < _; omega)).trans x.kb,
   (hb.cell (p := ⟨g1, o1, Option.none⟩) x.l1).trans x.a1, (hb.cell (p := ⟨g1, o1 + 1, Option.none⟩) x.l1).trans x.a2, (hb.cell (p := ⟨g2, o2, Option.none⟩) x.l2).trans x.b1, (hb.cell (p := ⟨g2, o2 + 1, Option.none⟩) x.l2).trans x.b2,
   Nat.lt_of_lt_of_le x.lB hb.size, Nat.lt_of_lt_of_le x.l1 hb.size, Nat.lt_of_lt_of_le x.l2 hb.size⟩
theorem St.fi {W : World} {B g1 o1 n1 k1 g2 o2 n2 k2 : Nat} {x1 x2 y1 y2 : Int} (x : FI W B g1 o1 n1 k1 g2 o2 n2 k2 x1 x2 y1 y2) : St (fun W => FI W B g1 o1 n1 k1 g2 o2 n2 k2 x1 x2 y1 y2) W := ⟨x, fun _ _ x hb => x.next hb⟩
set_option maxRecDepth 100000 in
set_option maxHeartbeats 16000000 in
theorem first_any (B g1 o1 n1 k1 g2 o2 n2 k2 : Nat) (x1 x2 y1 y2 : Int) (w : World) (X : FI w B g1 o1 n1 k1 g2 o2 n2 k2 x1 x2 y1 y2) :
    Calls Try.prog 26 #[.pointer (some ⟨B + 2, 0, Option.none⟩), .pointer (some ⟨B, 0, Option.none⟩), .pointer (some ⟨B + 1, 0, Option.none⟩)] w fun e w' => e = .returned (.bool (decide (x1 < y1))) ∧ Below w.heap.size w w' := by
  have HK := Lib.hid (fun x y w1 => key_any x y w1)
  have E0 := Lib.hid (((St.below w)).and (St.fi X))
  clear X
  go_enter Try.func26, Try.ntmps26
  go_wp2
  refine region_qb' w w.heap.size (Below.refl _ _) mixed' (by kernel_rfl) fun w1 hB hz => ?_
  have E1 := Lib.hid (E0.out.next hB)
  clear hB hz
  have EC := Lib.hid (fun d os => E1.out.next (below_regrown w1 d os))
  obtain ⟨kf, ka, kb, a1, a2, b1, b2, -, -, -⟩ := E1.out.now.1
  have qkf := cell_regrown kf
  have qka := cell_regrown ka
  have qkb := cell_regrown kb
  have qa1 := cell_regrown a1
  have qa2 := cell_regrown a2
  have qb1 := cell_regrown b1
  have qb2 := cell_regrown b2
  clear kf ka kb a1 a2 b1 b2
  repeat (go_big_quiet_step (fail))
  go_big_quiet_step (exact Calls.regrown_of (HK.out x1 x2 _))
  repeat (go_big_quiet_step (fail))
  go_big_quiet_step (exact Calls.regrown_of (HK.out y1 y2 _))
  repeat (go_big_quiet_step (fail))
  refine wpQuiet_nil ?_
  rintro _ ⟨⟨dq, osq⟩, rfl⟩
  have E2 := Lib.hid (EC.out dq osq)
  generalize grow (redrawn w1 dq) osq = w2 at *
  clear EC qkf qka qkb qa1 qa2 qb1 qb2
  by_cases hlt : x1 < y1
  · go_wp2
    go_ret
    exact ⟨by simp [hlt], E2.out.now.2⟩
  · go_wp2
    go_ret
    exact ⟨by simp [hlt], E2.out.now.2⟩
end Go.Proofs.Ytiemfklonhlnnaa.Load
