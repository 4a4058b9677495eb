/- Contracts of package lay, and of the document's answer for it: Even, Into, Spread, Wide. Contracts of the document's answer for package lay: Spread, Even, Wide, Into. Contracts of the document's answer for package lay: Even, Wide, Into. Contracts of the document's answer for package lay: Among. -/
import Derived.Test.YtfokbkkgokioeaaMam
set_option linter.unusedSimpArgs false
set_option linter.unusedVariables false
namespace Go.Proofs.Ytfokbkkgokioeaa.Lay
open Go.RowKit Go.Shelf Go.Sort Go.Proofs.Ytfokbkkgokioeaa Go.Proofs.Ytfokbkkgokioeaa.Occ Go.Proofs.Ytfokbkkgokioeaa.Slo
attribute [local go_sem] sval Oper.semAt_some
set_option maxRecDepth 100000 in
set_option maxHeartbeats 8000000 in
theorem Even_any (s : Sl) (h : Hd) (f t : Int) (w : World) (W : s.Wf) (R : SRd w s h) :
    Calls Try.prog 16 #[sval s h, .int .i64 f, .int .i64 t] w fun e w' => AnsS (evenSV s f t) w e w' := by
  have HPR := Lib.hid (sPairs_any s h f t (twoW w s h (.cells #[.int .i64 0, .slice Option.none 0 0, .slice Option.none 0 0, .slice Option.none 0 0, .slice Option.none 0 0, .int .u64 0] 27)) W (R.mono (twoW_below w s h _) (Nat.le_refl _)))
  have HB0 := Lib.hid (twoW_below w s h (.cells #[.int .i64 0, .slice Option.none 0 0, .slice Option.none 0 0, .slice Option.none 0 0, .slice Option.none 0 0, .int .u64 0] 27))
  have HX0 := Lib.hid (twoW_box w s h (.cells #[.int .i64 0, .slice Option.none 0 0, .slice Option.none 0 0, .slice Option.none 0 0, .slice Option.none 0 0, .int .u64 0] 27))
  have HZ0 := Lib.hid (twoW_zero w s h)
  have HS0 := Lib.hid (twoW_size w s h (.cells #[.int .i64 0, .slice Option.none 0 0, .slice Option.none 0 0, .slice Option.none 0 0, .slice Option.none 0 0, .int .u64 0] 27))
  by_cases hp : (prsV s f t).2 = 0
  case neg =>
    have HV : Hid (evenSV s f t = (noneS, (prsV s f t).2)) := Lib.hid (if_pos hp)
    generalize evenSV s f t = LV at *
    generalize prsV s f t = pv at *
    obtain ⟨PL, pe⟩ := pv
    dsimp only at hp
    dsimp only at HV
    have hne : (pe != 0) = true := by rw [bne_iff_ne]; exact hp
    clear W R hp
    unfold sval at *
    go_enter Try.func16, Try.ntmps16
    go_wp2_with fail
    rw [twoW_fold]

    refine HPR.out.mono ?_
    rintro e w1 ⟨v, rfl, ho, hb⟩
    obtain ⟨ap, cp, rfl, -, hrx, -⟩ := owns2_arg ho
    have HRX := Lib.hid hrx
    clear ho hrx

    have HB1 : Hid (Below w.heap.size w w1) := Lib.hid (HB0.out.trans (hb.mono HB0.out.size))
    have HX1 := Lib.hid (HX0.out.below hb (by have := HS0.out; omega))
    have HD1 := Lib.hid (HZ0.out.below hb (by have := HS0.out; omega))
    have HL1 : Hid (w.heap.size + 2 ≤ w1.heap.size) := Lib.hid (by have := hb.size; have := HS0.out; omega)
    clear hb HB0 HX0 HZ0 HS0
    generalize twoW w s h (.cells #[.int .i64 0, .slice Option.none 0 0, .slice Option.none 0 0, .slice Option.none 0 0, .slice Option.none 0 0, .int .u64 0] 27) = w0 at *

    have d0 := HD1.out.c0; have d1 := HD1.out.c1; have d2 := HD1.out.c2; have d3 := HD1.out.c3; have d4 := HD1.out.c4; have d5 := HD1.out.c5
    have f0 := HD1.out.f 0; have f1 := HD1.out.f 1; have f2 := HD1.out.f 2; have f3 := HD1.out.f 3; have f4 := HD1.out.f 4; have f5 := HD1.out.f 5

    go_wp2
    rw [stZ_fold]
    have q0 := (stS_box (s := noneS) (h := noneH) HD1.out).c0; have q1 := (stS_box (s := noneS) (h := noneH) HD1.out).c1; have q2 := (stS_box (s := noneS) (h := noneH) HD1.out).c2; have q3 := (stS_box (s := noneS) (h := noneH) HD1.out).c3; have q4 := (stS_box (s := noneS) (h := noneH) HD1.out).c4; have q5 := (stS_box (s := noneS) (h := noneH) HD1.out).c5
    refine bodyPost_ret (v := .tuple #[sval noneS noneH, .int .i64 pe]) (by simp [results, Try.results16, sval, go_sem, q0, q1, q2, q3, q4, q5]) rfl ⟨noneH, by rw [HV.out], by rw [HV.out]; exact noneS_own _ _ _, stS_below HB1.out (by omega)⟩
  case pos =>
    have HOV := Lib.hid (fun ax cx w1 (hb : Below w.heap.size w w1) (hr : Rd2 w1 ax (prsV s f t).1) => over_any s h f t ax cx (prsV s f t).1 w1 W (R.mono hb (Nat.le_refl _)) hr (Nat.le_trans (prsV_small s f t) (by decide)))
    rw [evenSV_ok hp] at HOV
    generalize hL : evenSV s f t = LV at *
    clear hL
    obtain ⟨X, ex⟩ := LV

    generalize prsV s f t = pv at *
    obtain ⟨PL, pe⟩ := pv
    dsimp only at hp
    subst hp
    clear W R
    unfold sval at *
    go_enter Try.func16, Try.ntmps16
    go_wp2_with fail
    rw [twoW_fold]

    refine HPR.out.mono ?_
    rintro e w1 ⟨v, rfl, ho, hb⟩
    obtain ⟨ap, cp, rfl, -, hrx, -⟩ := owns2_arg ho
    have HRX := Lib.hid hrx
    clear ho hrx

    have HB1 : Hid (Below w.heap.size w w1) := Lib.hid (HB0.out.trans (hb.mono HB0.out.size))
    have HX1 := Lib.hid (HX0.out.below hb (by have := HS0.out; omega))
    have HD1 := Lib.hid (HZ0.out.below hb (by have := HS0.out; omega))
    have HL1 : Hid (w.heap.size + 2 ≤ w1.heap.size) := Lib.hid (by have := hb.size; have := HS0.out; omega)
    clear hb HB0 HX0 HZ0 HS0
    generalize twoW w s h (.cells #[.int .i64 0, .slice Option.none 0 0, .slice Option.none 0 0, .slice Option.none 0 0, .slice Option.none 0 0, .int .u64 0] 27) = w0 at *

    have c0 := HX1.out.c0; have c1 := HX1.out.c1; have c2 := HX1.out.c2; have c3 := HX1.out.c3; have c4 := HX1.out.c4; have c5 := HX1.out.c5

    go_wp2_with fail
    refine (HOV.out ap cp _ HB1.out HRX.out).mono ?_
    rintro e w2 ⟨h2, rfl, ho, hb⟩
    have HO := Lib.hid ho
    clear ho c0 c1 c2 c3 c4 c5 HX1

    have HB2 : Hid (Below w.heap.size w w2) := Lib.hid (HB1.out.trans (hb.mono HB1.out.size))
    have HD2 := Lib.hid (HD1.out.below hb (by have := HL1.out; omega))
    have HL2 : Hid (w.heap.size + 2 ≤ w2.heap.size) := Lib.hid (by have := hb.size; have := HL1.out; omega)
    clear hb HD1 HB1

    have d0 := HD2.out.c0; have d1 := HD2.out.c1; have d2 := HD2.out.c2; have d3 := HD2.out.c3; have d4 := HD2.out.c4; have d5 := HD2.out.c5
    have f0 := HD2.out.f 0; have f1 := HD2.out.f 1; have f2 := HD2.out.f 2; have f3 := HD2.out.f 3; have f4 := HD2.out.f 4; have f5 := HD2.out.f 5

    go_wp2
    rw [stS_fold]
    have q0 := (stS_box (s := X) (h := h2) HD2.out).c0; have q1 := (stS_box (s := X) (h := h2) HD2.out).c1; have q2 := (stS_box (s := X) (h := h2) HD2.out).c2; have q3 := (stS_box (s := X) (h := h2) HD2.out).c3; have q4 := (stS_box (s := X) (h := h2) HD2.out).c4; have q5 := (stS_box (s := X) (h := h2) HD2.out).c5
    refine bodyPost_ret (v := .tuple #[sval X h2, .int .i64 ex]) (by simp [results, Try.results16, sval, go_sem, q0, q1, q2, q3, q4, q5]) rfl ⟨h2, rfl, ?_, ?_⟩
    · exact (stS_own HO.out (by have := HL1.out; omega)).mono (by have := HL1.out; omega) (by rw [stS_size]; exact Nat.le_refl _)
    · exact stS_below HB2.out (by omega)
set_option maxRecDepth 100000 in
set_option maxHeartbeats 8000000 in
theorem Into_any (s : Sl) (h : Hd) (n : Int) (al : Option Addr) (cl : Nat) (ps : List (Int × Int)) (w : World) (W : s.Wf) (R : SRd w s h) (wn : (Lit.int .i64 n).wf = true) (hrp : Rd2 w al ps) (lp : ps.length ≤ 1000000) :
    Calls Try.prog 11 #[sval s h, .int .i64 n, .slice al ps.length cl] w fun e w' => AnsS (intoSV s n ps) w e w' := by
  have HC := Lib.hid (sCheck_any s h (twoW w s h (.cells #[.int .i64 0, .slice Option.none 0 0, .slice Option.none 0 0, .slice Option.none 0 0, .slice Option.none 0 0, .int .u64 0] 27)) W (R.mono (twoW_below w s h _) (Nat.le_refl _)))
  have HN := Lib.hid (fun w1 => New_any s.seg n w1 W.seg wn)
  have HB0 := Lib.hid (twoW_below w s h (.cells #[.int .i64 0, .slice Option.none 0 0, .slice Option.none 0 0, .slice Option.none 0 0, .slice Option.none 0 0, .int .u64 0] 27))
  have HX0 := Lib.hid (twoW_box w s h (.cells #[.int .i64 0, .slice Option.none 0 0, .slice Option.none 0 0, .slice Option.none 0 0, .slice Option.none 0 0, .int .u64 0] 27))
  have HZ0 := Lib.hid (twoW_zero w s h)
  have HS0 := Lib.hid (twoW_size w s h (.cells #[.int .i64 0, .slice Option.none 0 0, .slice Option.none 0 0, .slice Option.none 0 0, .slice Option.none 0 0, .int .u64 0] 27))
  cases hok : okS s
  case false =>
    have HV := Lib.hid (intoSV_bad (n := n) (ps := ps) hok)
    rw [chkS_no hok] at HC
    generalize intoSV s n ps = LV at *
    clear W R hrp lp hok HN

    unfold sval at *
    go_enter Try.func11, Try.ntmps11
    go_wp2_with fail
    rw [twoW_fold]
    refine HC.out.mono ?_
    rintro e w1 ⟨rfl, hb⟩

    have HB1 : Hid (Below w.heap.size w w1) := Lib.hid (HB0.out.trans (hb.mono HB0.out.size))
    have HX1 := Lib.hid (HX0.out.below hb (by have := HS0.out; omega))
    have HD1 := Lib.hid (HZ0.out.below hb (by have := HS0.out; omega))
    have HL1 : Hid (w.heap.size + 2 ≤ w1.heap.size) := Lib.hid (by have := hb.size; have := HS0.out; omega)
    clear hb HB0 HX0 HZ0 HS0
    generalize twoW w s h (.cells #[.int .i64 0, .slice Option.none 0 0, .slice Option.none 0 0, .slice Option.none 0 0, .slice Option.none 0 0, .int .u64 0] 27) = w0 at *

    have d0 := HD1.out.c0; have d1 := HD1.out.c1; have d2 := HD1.out.c2; have d3 := HD1.out.c3; have d4 := HD1.out.c4; have d5 := HD1.out.c5
    have f0 := HD1.out.f 0; have f1 := HD1.out.f 1; have f2 := HD1.out.f 2; have f3 := HD1.out.f 3; have f4 := HD1.out.f 4; have f5 := HD1.out.f 5

    go_wp2
    rw [stZ_fold]
    have q0 := (stS_box (s := noneS) (h := noneH) HD1.out).c0; have q1 := (stS_box (s := noneS) (h := noneH) HD1.out).c1; have q2 := (stS_box (s := noneS) (h := noneH) HD1.out).c2; have q3 := (stS_box (s := noneS) (h := noneH) HD1.out).c3; have q4 := (stS_box (s := noneS) (h := noneH) HD1.out).c4; have q5 := (stS_box (s := noneS) (h := noneH) HD1.out).c5
    refine bodyPost_ret (v := .tuple #[sval noneS noneH, .int .i64 8]) (by simp [results, Try.results11, sval, go_sem, q0, q1, q2, q3, q4, q5]) rfl ⟨noneH, by rw [HV.out], by rw [HV.out]; exact noneS_own _ _ _, stS_below HB1.out (by omega)⟩
  case true =>
    have HV0 := Lib.hid (intoSV_of (n := n) (ps := ps) hok)
    rw [chkS_yes hok] at HC
    cases hf : fitsB s.seg n
    case false =>
      have HV : Hid (intoSV s n ps = (noneS, 2)) := Lib.hid (by rw [HV0.out, if_pos hf])
      rw [show newSV s.seg n = (noneS, 2) by unfold newSV; rw [hf]; rfl] at HN
      clear HV0
      generalize intoSV s n ps = LV at *
      clear W R hrp lp hok hf wn

      unfold sval at *
      go_enter Try.func11, Try.ntmps11
      go_wp2_with fail
      rw [twoW_fold]
      refine HC.out.mono ?_
      rintro e w1 ⟨rfl, hb⟩

      have HB1 : Hid (Below w.heap.size w w1) := Lib.hid (HB0.out.trans (hb.mono HB0.out.size))
      have HX1 := Lib.hid (HX0.out.below hb (by have := HS0.out; omega))
      have HD1 := Lib.hid (HZ0.out.below hb (by have := HS0.out; omega))
      have HL1 : Hid (w.heap.size + 2 ≤ w1.heap.size) := Lib.hid (by have := hb.size; have := HS0.out; omega)
      clear hb HB0 HX0 HZ0 HS0
      generalize twoW w s h (.cells #[.int .i64 0, .slice Option.none 0 0, .slice Option.none 0 0, .slice Option.none 0 0, .slice Option.none 0 0, .int .u64 0] 27) = w0 at *
      have c0 := HX1.out.c0
      go_wp2_with fail

      refine (HN.out _).mono ?_
      rintro e w2 ⟨h2, rfl, ho, hb⟩
      have HO2 := Lib.hid ho
      clear ho

      have HB2 : Hid (Below w.heap.size w w2) := Lib.hid (HB1.out.trans (hb.mono HB1.out.size))
      have HD2 := Lib.hid (HD1.out.below hb (by have := HL1.out; omega))
      have HL2 : Hid (w.heap.size + 2 ≤ w2.heap.size) := Lib.hid (by have := hb.size; have := HL1.out; omega)
      clear hb HD1 HB1

      have HD2a := Lib.hid (HD2.out.al (o := (.cells #[.int .i64 noneS.seg, .slice h2.aw noneS.ws.length h2.cw, .slice h2.ak noneS.ks.length h2.ck, .slice h2.av noneS.vs.length h2.cv, .slice h2.ac noneS.cs.length h2.cc, .int .u64 noneS.laid] 27)) (by have := HL2.out; omega))

      have d0 := HD2a.out.c0; have d1 := HD2a.out.c1; have d2 := HD2a.out.c2; have d3 := HD2a.out.c3; have d4 := HD2a.out.c4; have d5 := HD2a.out.c5
      have f0 := HD2a.out.f 0; have f1 := HD2a.out.f 1; have f2 := HD2a.out.f 2; have f3 := HD2a.out.f 3; have f4 := HD2a.out.f 4; have f5 := HD2a.out.f 5
      go_wp2
      rw [stZ_fold]
      have q0 := (stS_box (s := noneS) (h := noneH) HD2a.out).c0; have q1 := (stS_box (s := noneS) (h := noneH) HD2a.out).c1; have q2 := (stS_box (s := noneS) (h := noneH) HD2a.out).c2; have q3 := (stS_box (s := noneS) (h := noneH) HD2a.out).c3; have q4 := (stS_box (s := noneS) (h := noneH) HD2a.out).c4; have q5 := (stS_box (s := noneS) (h := noneH) HD2a.out).c5
      refine bodyPost_ret (v := .tuple #[sval noneS noneH, .int .i64 2]) (by simp [results, Try.results11, sval, go_sem, q0, q1, q2, q3, q4, q5]) rfl ⟨noneH, by rw [HV.out], by rw [HV.out]; exact noneS_own _ _ _, stS_below (HB2.out.alloc HB2.out.size _) (by omega)⟩
    case true =>
      have HV1 : Hid (intoSV s n ps = overSV (wideV s n) 0 n ps) := Lib.hid (by rw [HV0.out, if_neg (by rw [hf]; simp), overSV_wide W hf])
      have K := wide_k W hf
      have HOV := Lib.hid (fun h1 w1 (hb : Below w.heap.size w w1) (hr : SRd w1 (wideV s n) h1) => over_any (wideV s n) h1 0 n al cl ps w1 K.wf hr (hrp.mono hb (Nat.le_refl _)) lp)
      rw [show newSV s.seg n = (emptyV s.seg.toNat n.toNat, 0) by unfold newSV; rw [hf]; rfl] at HN
      have HWD : Hid (wideV s n = { emptyV s.seg.toNat n.toNat with laid := s.laid }) := Lib.hid rfl
      rw [← HV1.out] at HOV
      clear HV0 HV1 K
      generalize intoSV s n ps = LV at *
      obtain ⟨X, ex⟩ := LV
      generalize emptyV s.seg.toNat n.toNat = E at *
      generalize wideV s n = WD at *
      have hwd := HWD.out
      subst hwd
      clear HWD W R hrp lp hok hf wn

      unfold sval at *
      go_enter Try.func11, Try.ntmps11
      go_wp2_with fail
      rw [twoW_fold]
      refine HC.out.mono ?_
      rintro e w1 ⟨rfl, hb⟩

      have HB1 : Hid (Below w.heap.size w w1) := Lib.hid (HB0.out.trans (hb.mono HB0.out.size))
      have HX1 := Lib.hid (HX0.out.below hb (by have := HS0.out; omega))
      have HD1 := Lib.hid (HZ0.out.below hb (by have := HS0.out; omega))
      have HL1 : Hid (w.heap.size + 2 ≤ w1.heap.size) := Lib.hid (by have := hb.size; have := HS0.out; omega)
      clear hb HB0 HX0 HZ0 HS0
      generalize twoW w s h (.cells #[.int .i64 0, .slice Option.none 0 0, .slice Option.none 0 0, .slice Option.none 0 0, .slice Option.none 0 0, .int .u64 0] 27) = w0 at *
      have c0 := HX1.out.c0
      go_wp2_with fail
      clear c0

      refine (HN.out _).mono ?_
      rintro e w2 ⟨h2, rfl, ho, hb⟩
      have HO2 := Lib.hid ho
      clear ho

      have HB2 : Hid (Below w.heap.size w w2) := Lib.hid (HB1.out.trans (hb.mono HB1.out.size))
      have HX2 := Lib.hid (HX1.out.below hb (by have := HL1.out; omega))
      have HD2 := Lib.hid (HD1.out.below hb (by have := HL1.out; omega))
      have HL2 : Hid (w.heap.size + 2 ≤ w2.heap.size) := Lib.hid (by have := hb.size; have := HL1.out; omega)
      clear hb HD1 HB1

      have hsz : (allocS w2 { E with laid := s.laid } h2).heap.size = w2.heap.size + 1 := allocS_size _ _ _
      have HR2 : Hid (SRd (allocS w2 { E with laid := s.laid } h2) { E with laid := s.laid } h2) := Lib.hid (SRd.mono ⟨HO2.out.rd.fw, HO2.out.rd.fk, HO2.out.rd.fv, HO2.out.rd.fc⟩ (allocS_below w2 _ h2) (Nat.le_refl _))
      have HB3 : Hid (Below w.heap.size w (allocS w2 { E with laid := s.laid } h2)) := Lib.hid (HB2.out.trans ((allocS_below w2 _ h2).mono HB2.out.size))
      have HD3 := Lib.hid (HD2.out.below (allocS_below w2 { E with laid := s.laid } h2) (by have := HL2.out; omega))
      have HL3 : Hid (w.heap.size + 2 ≤ (allocS w2 { E with laid := s.laid } h2).heap.size) := Lib.hid (by have := HL2.out; omega)
      have c5 := (HX2.out.al (o := (.cells #[.int .i64 E.seg, .slice h2.aw E.ws.length h2.cw, .slice h2.ak E.ks.length h2.ck, .slice h2.av E.vs.length h2.cv, .slice h2.ac E.cs.length h2.cc, .int .u64 E.laid] 27)) (by have := HL2.out; omega)).c5
      have hne2 : w2.heap.size ≠ w.heap.size := by have := HL2.out; omega
      go_wp2_with fail
      rw [show w2.alloc (.cells #[.int .i64 E.seg, .slice h2.aw E.ws.length h2.cw, .slice h2.ak E.ks.length h2.ck, .slice h2.av E.vs.length h2.cv, .slice h2.ac E.cs.length h2.cc, .int .u64 s.laid] 27) = allocS w2 { E with laid := s.laid } h2 from rfl]
      clear c5 hne2 HB2 HD2 HL2 HX2 HO2 hsz
      generalize allocS w2 { E with laid := s.laid } h2 = w3 at *
      refine (HOV.out h2 _ HB3.out HR2.out).mono ?_
      rintro e w4 ⟨h4, rfl, ho, hb⟩
      have HO := Lib.hid ho
      clear ho HR2 HOV

      have HB4 : Hid (Below w.heap.size w w4) := Lib.hid (HB3.out.trans (hb.mono HB3.out.size))
      have HD4 := Lib.hid (HD3.out.below hb (by have := HL3.out; omega))
      have HL4 : Hid (w.heap.size + 2 ≤ w4.heap.size) := Lib.hid (by have := hb.size; have := HL3.out; omega)
      clear hb HD3 HB3

      have d0 := HD4.out.c0; have d1 := HD4.out.c1; have d2 := HD4.out.c2; have d3 := HD4.out.c3; have d4 := HD4.out.c4; have d5 := HD4.out.c5
      have f0 := HD4.out.f 0; have f1 := HD4.out.f 1; have f2 := HD4.out.f 2; have f3 := HD4.out.f 3; have f4 := HD4.out.f 4; have f5 := HD4.out.f 5

      go_wp2
      rw [stS_fold]
      have q0 := (stS_box (s := X) (h := h4) HD4.out).c0; have q1 := (stS_box (s := X) (h := h4) HD4.out).c1; have q2 := (stS_box (s := X) (h := h4) HD4.out).c2; have q3 := (stS_box (s := X) (h := h4) HD4.out).c3; have q4 := (stS_box (s := X) (h := h4) HD4.out).c4; have q5 := (stS_box (s := X) (h := h4) HD4.out).c5
      refine bodyPost_ret (v := .tuple #[sval X h4, .int .i64 ex]) (by simp [results, Try.results11, sval, go_sem, q0, q1, q2, q3, q4, q5]) rfl ⟨h4, rfl, ?_, ?_⟩
      · exact (stS_own HO.out (by have := HL3.out; omega)).mono (by have := HL3.out; omega) (by rw [stS_size]; exact Nat.le_refl _)
      · exact stS_below HB4.out (by omega)

end Go.Proofs.Ytfokbkkgokioeaa.Lay

namespace Go.Proofs.Ytfokbkkgokioeaa.Lay
open Go.RowKit Go.Shelf Go.Sort Go.Proofs.Ytfokbkkgokioeaa Go.Proofs.Ytfokbkkgokioeaa.Occ Go.Proofs.Ytfokbkkgokioeaa.Slo
attribute [local go_sem] sval Oper.semAt_some

/-- What a drawn region's load, length and call have yielded: the array, how many, and places. -/
def spF (s : Sl) (h : Hd) (n : Nat) (xs : List Int) : Nat → Value → World → Prop
  | 0, v, _ => v = sval s h
  | 4, v, _ => v = .int .i64 n
  | _, v, W => ∃ a c, v = .slice a xs.length c ∧ Rd .i64 W a xs
theorem spF_mono (s : Sl) (h : Hd) (n : Nat) (xs : List Int) (i : Nat) (v : Value) (W W' : World) (hf : spF s h n xs i v W) (hb : Below W.heap.size W W') : spF s h n xs i v W' := by
  unfold spF at *
  split <;> simp_all
  obtain ⟨a, ⟨c, e⟩, r⟩ := hf
  exact ⟨a, ⟨c, e⟩, r.mono hb (Nat.le_refl _)⟩
def spD : Nat → List Nat
  | 7 => [4]
  | _ => []
set_option maxRecDepth 100000 in
set_option maxHeartbeats 8000000 in
theorem refSpread_any (s : Sl) (h : Hd) (g q f t : Nat) (al : Option Addr) (cl : Nat) (ps : List (Int × Int)) (w : World) (W : s.Wf) (R : SRd w s h) (N : HNo h) (o : Ok s g q) (hft : f ≤ t) (htn : t ≤ s.ks.length)
    (hrp : Rd2 w al ps) (hlen : ps.length ≤ t - f) (lp : ps.length ≤ 1000000) :
    Calls Try.prog 37 #[sval s h, .int .i64 f, .int .i64 t, .slice al ps.length cl] w fun e w' => ∃ h', e = .returned (sval (spreadV s f t ps) h') ∧ SOwn w' w.heap.size w'.heap.size (spreadV s f t ps) h' ∧ Below w.heap.size w w' := by
  have HB0 := Lib.hid (twoW_below w s h (.cells #[.int .i64 0, .slice Option.none 0 0, .slice Option.none 0 0, .slice Option.none 0 0, .slice Option.none 0 0, .int .u64 0] 27))
  have HX0 := Lib.hid (twoW_box w s h (.cells #[.int .i64 0, .slice Option.none 0 0, .slice Option.none 0 0, .slice Option.none 0 0, .slice Option.none 0 0, .int .u64 0] 27))
  have HZ0 := Lib.hid (twoW_zero w s h)
  have HS0 := Lib.hid (twoW_size w s h (.cells #[.int .i64 0, .slice Option.none 0 0, .slice Option.none 0 0, .slice Option.none 0 0, .slice Option.none 0 0, .int .u64 0] 27))

  have hn1 := o.n1
  have hpart := places_part ps.length f (t - f) hlen
  rw [show f + (t - f) = t by omega] at hpart
  have HOF := Lib.hid (fun w1 => Spr.refOf_any ps.length f (t - f) t w1 (by omega) (by omega) hlen)
  have hpl := Spr.placesL_length ps.length f (t - f)
  have HSV : Hid (spreadV s f t ps = fillV s f t (Spr.placesL ps.length f (t - f)) ps) := Lib.hid rfl
  generalize Spr.placesL ps.length f (t - f) = PL at *
  have HFI := Lib.hid (fun ax cx w1 (hb : Below w.heap.size w w1) (hx : Rd .i64 w1 ax PL) => refFilled_any s h g q f t ax cx PL al cl ps w1 W (R.mono hb (Nat.le_refl _)) N o hft htn hx (hrp.mono hb (Nat.le_refl _)) hpl lp hpart)
  rw [← HSV.out, hpl] at HFI
  generalize spreadV s f t ps = X at *
  clear HSV W R N o hft htn hrp hlen lp hpart hn1
  unfold sval at *
  go_enter Try.func37, Try.ntmps37
  go_wp2_with fail
  rw [twoW_fold]
  refine Mix.wp_region_plan (fun _ => True) [0, 4, 7, 9, 10] [.free [false, true, true, true, false, true, true, false, true]] #[false, true, true, true, false, true, true, false, true, false, false] 5 mixed' (by kernel_rfl) (by kernel_rfl) (by kernel_rfl) (fun _ _ _ _ _ h => h) trivial ?_
  simp only [Mix.wpPlan, Mix.maskL]
  repeat (go_big_quiet_step (fail))
  refine wpQuiet_nil ?_
  have hb := (Below.refl (twoW w s h (.cells #[.int .i64 0, .slice Option.none 0 0, .slice Option.none 0 0, .slice Option.none 0 0, .slice Option.none 0 0, .int .u64 0] 27)).heap.size (twoW w s h (.cells #[.int .i64 0, .slice Option.none 0 0, .slice Option.none 0 0, .slice Option.none 0 0, .slice Option.none 0 0, .int .u64 0] 27))).drew
  generalize hw1 : (twoW w s h (.cells #[.int .i64 0, .slice Option.none 0 0, .slice Option.none 0 0, .slice Option.none 0 0, .slice Option.none 0 0, .int .u64 0] 27)).drew = w1 at *

  have HB1 : Hid (Below w.heap.size w w1) := Lib.hid (HB0.out.trans (hb.mono HB0.out.size))
  have HX1 := Lib.hid (HX0.out.below hb (by have := HS0.out; omega))
  have HD1 := Lib.hid (HZ0.out.below hb (by have := HS0.out; omega))
  have HL1 : Hid (w.heap.size + 2 ≤ w1.heap.size) := Lib.hid (by have := hb.size; have := HS0.out; omega)
  clear hb HB0 HX0 HZ0 HS0
  generalize twoW w s h (.cells #[.int .i64 0, .slice Option.none 0 0, .slice Option.none 0 0, .slice Option.none 0 0, .slice Option.none 0 0, .int .u64 0] 27) = w0 at *

  clear hw1
  generalize hA : Act.mk _ _ = A
  have hsz : A.tmps.size = 19 := by rw [← hA]; rfl
  have h4 : A.tmps[4]?.getD undef = .pointer (some ⟨w.heap.size, 0, Option.none⟩) := by rw [← hA]; rfl
  have h12 : A.tmps[12]?.getD undef = .slice al ps.length cl := by rw [← hA]; rfl
  have h14 : A.tmps[14]?.getD undef = .int .i64 f := by rw [← hA]; rfl
  have h15 : A.tmps[15]?.getD undef = .int .i64 t := by rw [← hA]; rfl
  have HA := Lib.hid hA
  clear hA
  refine Mix.wpAny_dag #[true, true, true, true, true, true, true, true, true, false, false] 2 [(0, 9), (4, 13), (7, 16)] spD (spF s h ps.length PL) (by decide) (by decide) ?hop (spF_mono s h ps.length PL) (by kernel_rfl) ?tail
  case hop =>
    intro p hp B W K hb hd hk
    have hne : ∀ d : Nat, d ≠ 9 → d ≠ 13 → d ≠ 16 → (Mix.putL A [(0, 9), (4, 13), (7, 16)] B).tmps[d]?.getD undef = A.tmps[d]?.getD undef := fun d e1 e2 e3 => by
      have := Mix.putL_ne A [(0, 9), (4, 13), (7, 16)] B d (by intro q hq; simp only [List.mem_cons, List.not_mem_nil, or_false] at hq; rcases hq with rfl | rfl | rfl <;> first | exact fun e => e1 e.symm | exact fun e => e2 e.symm | exact fun e => e3 e.symm)
      simpa [Act.eval] using this
    simp only [List.mem_cons, List.not_mem_nil, or_false] at hp
    have HXW := Lib.hid (HX1.out.below hb (by have := HL1.out; omega))
    rcases hp with rfl | rfl | rfl
    · have c0 := HXW.out.c0; have c1 := HXW.out.c1; have c2 := HXW.out.c2; have c3 := HXW.out.c3; have c4 := HXW.out.c4; have c5 := HXW.out.c5
      have y := (hne 4 (by decide) (by decide) (by decide)).trans h4
      refine Mix.wpOp_value rfl rfl (v := sval s h) (W' := W) ?_ (hk _ _ (Below.refl _ _) rfl)
      simp [execOp, go_sem, y, c0, c1, c2, c3, c4, c5]
    · have y := (hne 12 (by decide) (by decide) (by decide)).trans h12
      refine Mix.wpOp_value rfl rfl (v := .int .i64 ps.length) (W' := W) ?_ (hk _ _ (Below.refl _ _) rfl)
      simp [execOp, resolve, go_sem, y]
    · obtain ⟨v4, g4, rfl⟩ := hd (4, 13) (by decide) (by decide)
      have y1 : (Mix.putL A [(0, 9), (4, 13), (7, 16)] B).tmps[13]?.getD undef = .int .i64 ps.length := by
        have := Mix.putL_eval A [(0, 9), (4, 13), (7, 16)] B 4 13 _ (by decide) (by decide) (by decide) (by rw [hsz]; decide) g4
        simpa [Act.eval] using this
      have y2 := (hne 14 (by decide) (by decide) (by decide)).trans h14
      have y3 := (hne 15 (by decide) (by decide) (by decide)).trans h15
      refine Mix.wpOp_call rfl rfl (f := 63) (args := #[.int .i64 ps.length, .int .i64 f, .int .i64 t]) ?_ ((HOF.out W).mono ?_)
      · simp [execOp, resolve, y1, y2, y3, go_sem]
      · rintro e w' ⟨v, rfl, ho, hb'⟩
        obtain ⟨a, c, rfl, -, hr, -⟩ := owns_arg ho
        exact ⟨_, rfl, hk _ _ hb' ⟨a, c, rfl, hr⟩⟩
  case tail =>
    intro B W hb hB
    obtain ⟨v0, g0, rfl⟩ := hB (0, 9) (by decide)
    obtain ⟨v4, g4, rfl⟩ := hB (4, 13) (by decide)
    obtain ⟨v7, g7, ap, cp, rfl, hrx⟩ := hB (7, 16) (by decide)
    dsimp only at g0 g4 g7
    have hA := HA.out
    subst hA
    clear HA hsz h4 h12 h14 h15 hB
    simp only [Mix.putL, g0, g4, g7]
    clear g0 g4 g7
    have HRX := Lib.hid hrx
    have HB2 : Hid (Below w.heap.size w W) := Lib.hid (HB1.out.trans (hb.mono HB1.out.size))
    have HD2 := Lib.hid (HD1.out.below hb (by have := HL1.out; omega))
    have HL2 : Hid (w.heap.size + 2 ≤ W.heap.size) := Lib.hid (by have := hb.size; have := HL1.out; omega)
    clear hb hrx HX1 HD1 HL1 HB1
    refine Mix.wpAny_tail [false, false, false, false, false, false, false, false, false, true, true] (Array.replicate 11 true) (by kernel_rfl) (by kernel_rfl) ?_
    simp only [Mix.maskL, Act.put]
    go_wp2_with fail
    refine (HFI.out ap cp _ HB2.out HRX.out).mono ?_
    rintro e w3 ⟨h3, rfl, ho, hb⟩
    have HO := Lib.hid ho
    clear ho HFI HRX

    have HB3 : Hid (Below w.heap.size w w3) := Lib.hid (HB2.out.trans (hb.mono HB2.out.size))
    have HD3 := Lib.hid (HD2.out.below hb (by have := HL2.out; omega))
    have HL3 : Hid (w.heap.size + 2 ≤ w3.heap.size) := Lib.hid (by have := hb.size; have := HL2.out; omega)
    clear hb HD2 HB2
    have d0 := HD3.out.c0; have d1 := HD3.out.c1; have d2 := HD3.out.c2; have d3 := HD3.out.c3; have d4 := HD3.out.c4; have d5 := HD3.out.c5
    have f0 := HD3.out.f 0; have f1 := HD3.out.f 1; have f2 := HD3.out.f 2; have f3 := HD3.out.f 3; have f4 := HD3.out.f 4; have f5 := HD3.out.f 5

    go_wp2
    rw [stS_fold]
    have q0 := (stS_box (s := X) (h := h3) HD3.out).c0; have q1 := (stS_box (s := X) (h := h3) HD3.out).c1; have q2 := (stS_box (s := X) (h := h3) HD3.out).c2; have q3 := (stS_box (s := X) (h := h3) HD3.out).c3; have q4 := (stS_box (s := X) (h := h3) HD3.out).c4; have q5 := (stS_box (s := X) (h := h3) HD3.out).c5
    refine bodyPost_ret (v := sval X h3) (by simp [results, Try.results37, sval, go_sem, q0, q1, q2, q3, q4, q5]) rfl ⟨h3, rfl, ?_, ?_⟩
    · exact (stS_own HO.out (by have := HL2.out; omega)).mono (by have := HL2.out; omega) (by rw [stS_size]; exact Nat.le_refl _)
    · exact stS_below HB3.out (by omega)

end Go.Proofs.Ytfokbkkgokioeaa.Lay

namespace Go.Proofs.Ytfokbkkgokioeaa.Lay
open Go.RowKit Go.Shelf Go.Sort Go.Proofs.Ytfokbkkgokioeaa Go.Proofs.Ytfokbkkgokioeaa.Occ Go.Proofs.Ytfokbkkgokioeaa.Slo
attribute [local go_sem] sval Oper.semAt_some
set_option maxRecDepth 100000 in
set_option maxHeartbeats 8000000 in
theorem refEven_any (s : Sl) (h : Hd) (f t : Int) (w : World) (W : s.Wf) (R : SRd w s h) (N : HNo h) :
    Calls Try.prog 17 #[sval s h, .int .i64 f, .int .i64 t] w fun e w' => AnsS (evenSV s f t) w e w' := by
  have HPR := Lib.hid (refPairs_any s h f t (twoW w s h (.cells #[.int .i64 0, .slice Option.none 0 0, .slice Option.none 0 0, .slice Option.none 0 0, .slice Option.none 0 0, .int .u64 0] 27)) W (R.mono (twoW_below w s h _) (Nat.le_refl _)))
  have HB0 := Lib.hid (twoW_below w s h (.cells #[.int .i64 0, .slice Option.none 0 0, .slice Option.none 0 0, .slice Option.none 0 0, .slice Option.none 0 0, .int .u64 0] 27))
  have HX0 := Lib.hid (twoW_box w s h (.cells #[.int .i64 0, .slice Option.none 0 0, .slice Option.none 0 0, .slice Option.none 0 0, .slice Option.none 0 0, .int .u64 0] 27))
  have HZ0 := Lib.hid (twoW_zero w s h)
  have HS0 := Lib.hid (twoW_size w s h (.cells #[.int .i64 0, .slice Option.none 0 0, .slice Option.none 0 0, .slice Option.none 0 0, .slice Option.none 0 0, .int .u64 0] 27))
  by_cases hp : (prsV s f t).2 = 0
  case neg =>
    have HV : Hid (evenSV s f t = (noneS, (prsV s f t).2)) := Lib.hid (if_pos hp)
    generalize evenSV s f t = LV at *
    generalize prsV s f t = pv at *
    obtain ⟨PL, pe⟩ := pv
    dsimp only at hp
    dsimp only at HV
    have hne : (pe != 0) = true := by rw [bne_iff_ne]; exact hp
    clear W R hp
    unfold sval at *
    go_enter Try.func17, Try.ntmps17
    go_wp2_with fail
    rw [twoW_fold]

    refine HPR.out.mono ?_
    rintro e w1 ⟨v, rfl, ho, hb⟩
    obtain ⟨ap, cp, rfl, -, hrx, -⟩ := owns2_arg ho
    have HRX := Lib.hid hrx
    clear ho hrx

    have HB1 : Hid (Below w.heap.size w w1) := Lib.hid (HB0.out.trans (hb.mono HB0.out.size))
    have HX1 := Lib.hid (HX0.out.below hb (by have := HS0.out; omega))
    have HD1 := Lib.hid (HZ0.out.below hb (by have := HS0.out; omega))
    have HL1 : Hid (w.heap.size + 2 ≤ w1.heap.size) := Lib.hid (by have := hb.size; have := HS0.out; omega)
    clear hb HB0 HX0 HZ0 HS0
    generalize twoW w s h (.cells #[.int .i64 0, .slice Option.none 0 0, .slice Option.none 0 0, .slice Option.none 0 0, .slice Option.none 0 0, .int .u64 0] 27) = w0 at *

    have d0 := HD1.out.c0; have d1 := HD1.out.c1; have d2 := HD1.out.c2; have d3 := HD1.out.c3; have d4 := HD1.out.c4; have d5 := HD1.out.c5
    have f0 := HD1.out.f 0; have f1 := HD1.out.f 1; have f2 := HD1.out.f 2; have f3 := HD1.out.f 3; have f4 := HD1.out.f 4; have f5 := HD1.out.f 5

    go_wp2
    rw [stZ_fold]
    have q0 := (stS_box (s := noneS) (h := noneH) HD1.out).c0; have q1 := (stS_box (s := noneS) (h := noneH) HD1.out).c1; have q2 := (stS_box (s := noneS) (h := noneH) HD1.out).c2; have q3 := (stS_box (s := noneS) (h := noneH) HD1.out).c3; have q4 := (stS_box (s := noneS) (h := noneH) HD1.out).c4; have q5 := (stS_box (s := noneS) (h := noneH) HD1.out).c5
    refine bodyPost_ret (v := .tuple #[sval noneS noneH, .int .i64 pe]) (by simp [results, Try.results17, sval, go_sem, q0, q1, q2, q3, q4, q5]) rfl ⟨noneH, by rw [HV.out], by rw [HV.out]; exact noneS_own _ _ _, stS_below HB1.out (by omega)⟩
  case pos =>
    have HV : Hid (evenSV s f t = (spreadV s f.toNat t.toNat (prsV s f t).1, 0)) := Lib.hid (if_neg (by rw [hp]; simp))
    obtain ⟨hok, hin⟩ := askS_ok (prsV_ask hp)
    obtain ⟨h0, h1, h2⟩ := inB_iff.1 hin
    obtain ⟨g, q, o⟩ := okS_iff.1 hok
    obtain ⟨hf1, hf2⟩ := prsV_fits hp
    obtain ⟨f, rfl⟩ := Int.eq_ofNat_of_zero_le h0
    obtain ⟨t, rfl⟩ := Int.eq_ofNat_of_zero_le (show 0 ≤ t by omega)
    simp only [Int.toNat_natCast] at HV
    have HOV := Lib.hid (fun ax cx w1 (hb : Below w.heap.size w w1) (hr : Rd2 w1 ax (prsV s f t).1) => refSpread_any s h g q f t ax cx (prsV s f t).1 w1 W (R.mono hb (Nat.le_refl _)) N o (by omega) (by omega) hr (by omega) (by omega))
    generalize spreadV s f t (prsV s f t).1 = X at *
    generalize hL : evenSV s f t = LV at *
    clear hL hok hin h0 h1 h2 o hf1 hf2
    generalize prsV s f t = pv at *
    obtain ⟨PL, pe⟩ := pv
    dsimp only at hp
    subst hp
    clear W R N
    unfold sval at *
    go_enter Try.func17, Try.ntmps17
    go_wp2_with fail
    rw [twoW_fold]

    refine HPR.out.mono ?_
    rintro e w1 ⟨v, rfl, ho, hb⟩
    obtain ⟨ap, cp, rfl, -, hrx, -⟩ := owns2_arg ho
    have HRX := Lib.hid hrx
    clear ho hrx

    have HB1 : Hid (Below w.heap.size w w1) := Lib.hid (HB0.out.trans (hb.mono HB0.out.size))
    have HX1 := Lib.hid (HX0.out.below hb (by have := HS0.out; omega))
    have HD1 := Lib.hid (HZ0.out.below hb (by have := HS0.out; omega))
    have HL1 : Hid (w.heap.size + 2 ≤ w1.heap.size) := Lib.hid (by have := hb.size; have := HS0.out; omega)
    clear hb HB0 HX0 HZ0 HS0
    generalize twoW w s h (.cells #[.int .i64 0, .slice Option.none 0 0, .slice Option.none 0 0, .slice Option.none 0 0, .slice Option.none 0 0, .int .u64 0] 27) = w0 at *

    have c0 := HX1.out.c0; have c1 := HX1.out.c1; have c2 := HX1.out.c2; have c3 := HX1.out.c3; have c4 := HX1.out.c4; have c5 := HX1.out.c5

    go_wp2_with fail
    refine (HOV.out ap cp _ HB1.out HRX.out).mono ?_
    rintro e w2 ⟨h2, rfl, ho, hb⟩
    have HO := Lib.hid ho
    clear ho c0 c1 c2 c3 c4 c5 HX1

    have HB2 : Hid (Below w.heap.size w w2) := Lib.hid (HB1.out.trans (hb.mono HB1.out.size))
    have HD2 := Lib.hid (HD1.out.below hb (by have := HL1.out; omega))
    have HL2 : Hid (w.heap.size + 2 ≤ w2.heap.size) := Lib.hid (by have := hb.size; have := HL1.out; omega)
    clear hb HD1 HB1

    have d0 := HD2.out.c0; have d1 := HD2.out.c1; have d2 := HD2.out.c2; have d3 := HD2.out.c3; have d4 := HD2.out.c4; have d5 := HD2.out.c5
    have f0 := HD2.out.f 0; have f1 := HD2.out.f 1; have f2 := HD2.out.f 2; have f3 := HD2.out.f 3; have f4 := HD2.out.f 4; have f5 := HD2.out.f 5

    go_wp2
    rw [stS_fold]
    have q0 := (stS_box (s := X) (h := h2) HD2.out).c0; have q1 := (stS_box (s := X) (h := h2) HD2.out).c1; have q2 := (stS_box (s := X) (h := h2) HD2.out).c2; have q3 := (stS_box (s := X) (h := h2) HD2.out).c3; have q4 := (stS_box (s := X) (h := h2) HD2.out).c4; have q5 := (stS_box (s := X) (h := h2) HD2.out).c5
    refine bodyPost_ret (v := .tuple #[sval X h2, .int .i64 0]) (by simp [results, Try.results17, sval, go_sem, q0, q1, q2, q3, q4, q5]) rfl ⟨h2, by rw [HV.out], ?_, ?_⟩
    · rw [HV.out]
      exact (stS_own HO.out (by have := HL1.out; omega)).mono (by have := HL1.out; omega) (by rw [stS_size]; exact Nat.le_refl _)
    · exact stS_below HB2.out (by omega)
set_option maxRecDepth 100000 in
set_option maxHeartbeats 8000000 in
theorem refWide_any (s : Sl) (h : Hd) (n : Nat) (al : Option Addr) (cl : Nat) (ps : List (Int × Int)) (w : World) (W : s.Wf) (R : SRd w s h) (hf : fitsB s.seg n = true) (hl : ps.length ≤ n) (hrp : Rd2 w al ps) (lp : ps.length ≤ 1000000) :
    Calls Try.prog 32 #[sval s h, .int .i64 n, .slice al ps.length cl] w fun e w' => ∃ h', e = .returned (sval (spreadV (wideV s n) 0 n ps) h') ∧ SOwn w' w.heap.size w'.heap.size (spreadV (wideV s n) 0 n ps) h' ∧ Below w.heap.size w w' := by
  have HB0 := Lib.hid (twoW_below w s h (.cells #[.int .i64 0, .slice Option.none 0 0, .slice Option.none 0 0, .slice Option.none 0 0, .slice Option.none 0 0, .int .u64 0] 27))
  have HX0 := Lib.hid (twoW_box w s h (.cells #[.int .i64 0, .slice Option.none 0 0, .slice Option.none 0 0, .slice Option.none 0 0, .slice Option.none 0 0, .int .u64 0] 27))
  have HZ0 := Lib.hid (twoW_zero w s h)
  have HS0 := Lib.hid (twoW_size w s h (.cells #[.int .i64 0, .slice Option.none 0 0, .slice Option.none 0 0, .slice Option.none 0 0, .slice Option.none 0 0, .int .u64 0] 27))

  have K := wide_k W hf
  obtain ⟨g, q, o⟩ := K.g
  have hln := K.len
  obtain ⟨k1, k2, k3, k4, k5, k6, k7⟩ := fitsB_iff.1 hf
  have hsg : ((s.seg.toNat : Nat) : Int) = s.seg := by omega
  have HEM := Lib.hid (fun w1 => Empty_any s.seg.toNat n w1 (by omega) (by omega))
  have HOV := Lib.hid (fun h1 w1 (hb : Below w.heap.size w w1) (hr : SRd w1 (wideV s n) h1) (hn : HNo h1) => refSpread_any (wideV s n) h1 g q 0 n al cl ps w1 K.wf hr hn o (by omega) (by omega) (hrp.mono hb (Nat.le_refl _)) (by omega) lp)
  have HWD : Hid (wideV s n = { emptyV s.seg.toNat n with laid := s.laid }) := Lib.hid rfl
  rw [hsg] at HEM
  generalize spreadV (wideV s n) 0 n ps = X at *
  generalize emptyV s.seg.toNat n = E at *
  generalize wideV s n = WD at *
  have hwd := HWD.out
  subst hwd
  clear HWD W R hrp lp hf K o hln k1 k2 k3 k4 k5 k6 k7 hsg hl

  unfold sval at *
  go_enter Try.func32, Try.ntmps32
  have c0 := HX0.out.c0
  go_wp2_with fail
  rw [twoW_fold]

  refine (HEM.out _).mono ?_
  rintro e w1 ⟨h1, rfl, ho, hb⟩
  have HO1 := Lib.hid ho
  clear ho c0

  have HB1 : Hid (Below w.heap.size w w1) := Lib.hid (HB0.out.trans (hb.mono HB0.out.size))
  have HX1 := Lib.hid (HX0.out.below hb (by have := HS0.out; omega))
  have HD1 := Lib.hid (HZ0.out.below hb (by have := HS0.out; omega))
  have HL1 : Hid (w.heap.size + 2 ≤ w1.heap.size) := Lib.hid (by have := hb.size; have := HS0.out; omega)
  clear hb HB0 HX0 HZ0 HS0
  generalize twoW w s h (.cells #[.int .i64 0, .slice Option.none 0 0, .slice Option.none 0 0, .slice Option.none 0 0, .slice Option.none 0 0, .int .u64 0] 27) = w0 at *

  have HR2 : Hid (SRd (allocS w1 { E with laid := s.laid } h1) { E with laid := s.laid } h1) := Lib.hid (SRd.mono ⟨HO1.out.rd.fw, HO1.out.rd.fk, HO1.out.rd.fv, HO1.out.rd.fc⟩ (allocS_below w1 _ h1) (Nat.le_refl _))
  have HN2 : Hid (HNo h1) := Lib.hid HO1.out.no
  have HB3 : Hid (Below w.heap.size w (allocS w1 { E with laid := s.laid } h1)) := Lib.hid (HB1.out.trans ((allocS_below w1 _ h1).mono HB1.out.size))
  have HD3 := Lib.hid (HD1.out.below (allocS_below w1 { E with laid := s.laid } h1) (by have := HL1.out; omega))
  have HL3 : Hid (w.heap.size + 2 ≤ (allocS w1 { E with laid := s.laid } h1).heap.size) := Lib.hid (by have := HL1.out; rw [allocS_size]; omega)
  have c5 := (HX1.out.al (o := (.cells #[.int .i64 E.seg, .slice h1.aw E.ws.length h1.cw, .slice h1.ak E.ks.length h1.ck, .slice h1.av E.vs.length h1.cv, .slice h1.ac E.cs.length h1.cc, .int .u64 E.laid] 27)) (by have := HL1.out; omega)).c5
  have hne2 : w1.heap.size ≠ w.heap.size := by have := HL1.out; omega
  go_wp2_with fail
  rw [show w1.alloc (.cells #[.int .i64 E.seg, .slice h1.aw E.ws.length h1.cw, .slice h1.ak E.ks.length h1.ck, .slice h1.av E.vs.length h1.cv, .slice h1.ac E.cs.length h1.cc, .int .u64 s.laid] 27) = allocS w1 { E with laid := s.laid } h1 from rfl]
  clear c5 hne2 HB1 HD1 HL1 HX1 HO1
  generalize allocS w1 { E with laid := s.laid } h1 = w3 at *
  refine (HOV.out h1 _ HB3.out HR2.out HN2.out).mono ?_
  rintro e w4 ⟨h4, rfl, ho, hb⟩
  have HO := Lib.hid ho
  clear ho HR2 HOV

  have HB4 : Hid (Below w.heap.size w w4) := Lib.hid (HB3.out.trans (hb.mono HB3.out.size))
  have HD4 := Lib.hid (HD3.out.below hb (by have := HL3.out; omega))
  have HL4 : Hid (w.heap.size + 2 ≤ w4.heap.size) := Lib.hid (by have := hb.size; have := HL3.out; omega)
  clear hb HD3 HB3

  have d0 := HD4.out.c0; have d1 := HD4.out.c1; have d2 := HD4.out.c2; have d3 := HD4.out.c3; have d4 := HD4.out.c4; have d5 := HD4.out.c5
  have f0 := HD4.out.f 0; have f1 := HD4.out.f 1; have f2 := HD4.out.f 2; have f3 := HD4.out.f 3; have f4 := HD4.out.f 4; have f5 := HD4.out.f 5

  go_wp2
  rw [stS_fold]
  have q0 := (stS_box (s := X) (h := h4) HD4.out).c0; have q1 := (stS_box (s := X) (h := h4) HD4.out).c1; have q2 := (stS_box (s := X) (h := h4) HD4.out).c2; have q3 := (stS_box (s := X) (h := h4) HD4.out).c3; have q4 := (stS_box (s := X) (h := h4) HD4.out).c4; have q5 := (stS_box (s := X) (h := h4) HD4.out).c5
  refine bodyPost_ret (v := sval X h4) (by simp [results, Try.results32, sval, go_sem, q0, q1, q2, q3, q4, q5]) rfl ⟨h4, rfl, ?_, ?_⟩
  · exact (stS_own HO.out (by have := HL3.out; omega)).mono (by have := HL3.out; omega) (by rw [stS_size]; exact Nat.le_refl _)
  · exact stS_below HB4.out (by omega)
set_option maxRecDepth 100000 in
set_option maxHeartbeats 8000000 in
theorem refInto_any (s : Sl) (h : Hd) (n : Int) (al : Option Addr) (cl : Nat) (ps : List (Int × Int)) (w : World) (W : s.Wf) (R : SRd w s h) (wn : (Lit.int .i64 n).wf = true) (hrp : Rd2 w al ps) (lp : ps.length ≤ 1000000) :
    Calls Try.prog 12 #[sval s h, .int .i64 n, .slice al ps.length cl] w fun e w' => AnsS (intoSV s n ps) w e w' := by
  have HM := Lib.hid (sMay_any s h (twoW w s h (.cells #[.int .i64 0, .slice Option.none 0 0, .slice Option.none 0 0, .slice Option.none 0 0, .slice Option.none 0 0, .int .u64 0] 27)) W (R.mono (twoW_below w s h _) (Nat.le_refl _)))
  have HFT := Lib.hid (fun w1 => refFits_any s.seg n w1 W.seg wn)
  have HB0 := Lib.hid (twoW_below w s h (.cells #[.int .i64 0, .slice Option.none 0 0, .slice Option.none 0 0, .slice Option.none 0 0, .slice Option.none 0 0, .int .u64 0] 27))
  have HX0 := Lib.hid (twoW_box w s h (.cells #[.int .i64 0, .slice Option.none 0 0, .slice Option.none 0 0, .slice Option.none 0 0, .slice Option.none 0 0, .int .u64 0] 27))
  have HZ0 := Lib.hid (twoW_zero w s h)
  have HS0 := Lib.hid (twoW_size w s h (.cells #[.int .i64 0, .slice Option.none 0 0, .slice Option.none 0 0, .slice Option.none 0 0, .slice Option.none 0 0, .int .u64 0] 27))
  cases hok : okS s
  case false =>
    have HV := Lib.hid (intoSV_bad (n := n) (ps := ps) hok)
    rw [hok] at HM
    generalize intoSV s n ps = LV at *
    clear W R hrp lp hok HFT

    unfold sval at *
    go_enter Try.func12, Try.ntmps12
    go_wp2_with fail
    rw [twoW_fold]
    refine HM.out.mono ?_
    rintro e w1 ⟨rfl, hb⟩

    have HB1 : Hid (Below w.heap.size w w1) := Lib.hid (HB0.out.trans (hb.mono HB0.out.size))
    have HX1 := Lib.hid (HX0.out.below hb (by have := HS0.out; omega))
    have HD1 := Lib.hid (HZ0.out.below hb (by have := HS0.out; omega))
    have HL1 : Hid (w.heap.size + 2 ≤ w1.heap.size) := Lib.hid (by have := hb.size; have := HS0.out; omega)
    clear hb HB0 HX0 HZ0 HS0
    generalize twoW w s h (.cells #[.int .i64 0, .slice Option.none 0 0, .slice Option.none 0 0, .slice Option.none 0 0, .slice Option.none 0 0, .int .u64 0] 27) = w0 at *

    have d0 := HD1.out.c0; have d1 := HD1.out.c1; have d2 := HD1.out.c2; have d3 := HD1.out.c3; have d4 := HD1.out.c4; have d5 := HD1.out.c5
    have f0 := HD1.out.f 0; have f1 := HD1.out.f 1; have f2 := HD1.out.f 2; have f3 := HD1.out.f 3; have f4 := HD1.out.f 4; have f5 := HD1.out.f 5

    go_wp2
    rw [stZ_fold]
    have q0 := (stS_box (s := noneS) (h := noneH) HD1.out).c0; have q1 := (stS_box (s := noneS) (h := noneH) HD1.out).c1; have q2 := (stS_box (s := noneS) (h := noneH) HD1.out).c2; have q3 := (stS_box (s := noneS) (h := noneH) HD1.out).c3; have q4 := (stS_box (s := noneS) (h := noneH) HD1.out).c4; have q5 := (stS_box (s := noneS) (h := noneH) HD1.out).c5
    refine bodyPost_ret (v := .tuple #[sval noneS noneH, .int .i64 8]) (by simp [results, Try.results12, sval, go_sem, q0, q1, q2, q3, q4, q5]) rfl ⟨noneH, by rw [HV.out], by rw [HV.out]; exact noneS_own _ _ _, stS_below HB1.out (by omega)⟩
  case true =>
    have HV0 := Lib.hid (intoSV_of (n := n) (ps := ps) hok)
    rw [hok] at HM
    cases hf : fitsB s.seg n
    case false =>
      have HV : Hid (intoSV s n ps = (noneS, 2)) := Lib.hid (by rw [HV0.out, if_pos hf])
      rw [hf] at HFT
      clear HV0
      generalize intoSV s n ps = LV at *
      clear W R hrp lp hok hf wn

      unfold sval at *
      go_enter Try.func12, Try.ntmps12
      go_wp2_with fail
      rw [twoW_fold]
      refine HM.out.mono ?_
      rintro e w1 ⟨rfl, hb⟩

      have HB1 : Hid (Below w.heap.size w w1) := Lib.hid (HB0.out.trans (hb.mono HB0.out.size))
      have HX1 := Lib.hid (HX0.out.below hb (by have := HS0.out; omega))
      have HD1 := Lib.hid (HZ0.out.below hb (by have := HS0.out; omega))
      have HL1 : Hid (w.heap.size + 2 ≤ w1.heap.size) := Lib.hid (by have := hb.size; have := HS0.out; omega)
      clear hb HB0 HX0 HZ0 HS0
      generalize twoW w s h (.cells #[.int .i64 0, .slice Option.none 0 0, .slice Option.none 0 0, .slice Option.none 0 0, .slice Option.none 0 0, .int .u64 0] 27) = w0 at *

      have c0 := HX1.out.c0
      go_wp2_with fail
      refine (HFT.out _).mono ?_
      rintro e w1x ⟨rfl, rfl⟩
      clear c0

      have d0 := HD1.out.c0; have d1 := HD1.out.c1; have d2 := HD1.out.c2; have d3 := HD1.out.c3; have d4 := HD1.out.c4; have d5 := HD1.out.c5
      have f0 := HD1.out.f 0; have f1 := HD1.out.f 1; have f2 := HD1.out.f 2; have f3 := HD1.out.f 3; have f4 := HD1.out.f 4; have f5 := HD1.out.f 5

      go_wp2
      rw [stZ_fold]
      have q0 := (stS_box (s := noneS) (h := noneH) HD1.out).c0; have q1 := (stS_box (s := noneS) (h := noneH) HD1.out).c1; have q2 := (stS_box (s := noneS) (h := noneH) HD1.out).c2; have q3 := (stS_box (s := noneS) (h := noneH) HD1.out).c3; have q4 := (stS_box (s := noneS) (h := noneH) HD1.out).c4; have q5 := (stS_box (s := noneS) (h := noneH) HD1.out).c5
      refine bodyPost_ret (v := .tuple #[sval noneS noneH, .int .i64 2]) (by simp [results, Try.results12, sval, go_sem, q0, q1, q2, q3, q4, q5]) rfl ⟨noneH, by rw [HV.out], by rw [HV.out]; exact noneS_own _ _ _, stS_below HB1.out (by omega)⟩
    case true =>
      rw [hf] at HFT
      by_cases hl : n < ps.length
      case pos =>
        have HV : Hid (intoSV s n ps = (noneS, 2)) := Lib.hid (by rw [HV0.out, if_neg (by rw [hf]; simp), if_pos hl])
        clear HV0
        generalize intoSV s n ps = LV at *
        clear W R hrp hok hf wn

        unfold sval at *
        go_enter Try.func12, Try.ntmps12
        go_wp2_with fail
        rw [twoW_fold]
        refine HM.out.mono ?_
        rintro e w1 ⟨rfl, hb⟩

        have HB1 : Hid (Below w.heap.size w w1) := Lib.hid (HB0.out.trans (hb.mono HB0.out.size))
        have HX1 := Lib.hid (HX0.out.below hb (by have := HS0.out; omega))
        have HD1 := Lib.hid (HZ0.out.below hb (by have := HS0.out; omega))
        have HL1 : Hid (w.heap.size + 2 ≤ w1.heap.size) := Lib.hid (by have := hb.size; have := HS0.out; omega)
        clear hb HB0 HX0 HZ0 HS0
        generalize twoW w s h (.cells #[.int .i64 0, .slice Option.none 0 0, .slice Option.none 0 0, .slice Option.none 0 0, .slice Option.none 0 0, .int .u64 0] 27) = w0 at *

        have c0 := HX1.out.c0
        go_wp2_with fail
        refine (HFT.out _).mono ?_
        rintro e w1x ⟨rfl, rfl⟩
        clear c0

        have d0 := HD1.out.c0; have d1 := HD1.out.c1; have d2 := HD1.out.c2; have d3 := HD1.out.c3; have d4 := HD1.out.c4; have d5 := HD1.out.c5
        have f0 := HD1.out.f 0; have f1 := HD1.out.f 1; have f2 := HD1.out.f 2; have f3 := HD1.out.f 3; have f4 := HD1.out.f 4; have f5 := HD1.out.f 5

        go_wp2
        rw [stZ_fold]
        have q0 := (stS_box (s := noneS) (h := noneH) HD1.out).c0; have q1 := (stS_box (s := noneS) (h := noneH) HD1.out).c1; have q2 := (stS_box (s := noneS) (h := noneH) HD1.out).c2; have q3 := (stS_box (s := noneS) (h := noneH) HD1.out).c3; have q4 := (stS_box (s := noneS) (h := noneH) HD1.out).c4; have q5 := (stS_box (s := noneS) (h := noneH) HD1.out).c5
        refine bodyPost_ret (v := .tuple #[sval noneS noneH, .int .i64 2]) (by simp [results, Try.results12, sval, go_sem, q0, q1, q2, q3, q4, q5]) rfl ⟨noneH, by rw [HV.out], by rw [HV.out]; exact noneS_own _ _ _, stS_below HB1.out (by omega)⟩
      case neg =>
        have HV : Hid (intoSV s n ps = (spreadV (wideV s n) 0 n.toNat ps, 0)) := Lib.hid (by rw [HV0.out, if_neg (by rw [hf]; simp), if_neg hl])
        obtain ⟨n, rfl⟩ := Int.eq_ofNat_of_zero_le (show 0 ≤ n by omega)
        have hl2 : ps.length ≤ n := by omega
        rw [Int.toNat_natCast] at HV
        have HOV := Lib.hid (fun w1 (hb : Below w.heap.size w w1) => refWide_any s h n al cl ps w1 W (R.mono hb (Nat.le_refl _)) hf hl2 (hrp.mono hb (Nat.le_refl _)) lp)
        clear HV0
        generalize intoSV s n ps = LV at *
        generalize spreadV (wideV s n) 0 n ps = X at *
        clear W R hrp hok hf wn lp

        unfold sval at *
        go_enter Try.func12, Try.ntmps12
        go_wp2_with fail
        rw [twoW_fold]
        refine HM.out.mono ?_
        rintro e w1 ⟨rfl, hb⟩

        have HB1 : Hid (Below w.heap.size w w1) := Lib.hid (HB0.out.trans (hb.mono HB0.out.size))
        have HX1 := Lib.hid (HX0.out.below hb (by have := HS0.out; omega))
        have HD1 := Lib.hid (HZ0.out.below hb (by have := HS0.out; omega))
        have HL1 : Hid (w.heap.size + 2 ≤ w1.heap.size) := Lib.hid (by have := hb.size; have := HS0.out; omega)
        clear hb HB0 HX0 HZ0 HS0
        generalize twoW w s h (.cells #[.int .i64 0, .slice Option.none 0 0, .slice Option.none 0 0, .slice Option.none 0 0, .slice Option.none 0 0, .int .u64 0] 27) = w0 at *

        have c0 := HX1.out.c0
        go_wp2_with fail
        refine (HFT.out _).mono ?_
        rintro e w1x ⟨rfl, rfl⟩
        clear c0

        have c0 := HX1.out.c0; have c1 := HX1.out.c1; have c2 := HX1.out.c2; have c3 := HX1.out.c3; have c4 := HX1.out.c4; have c5 := HX1.out.c5

        go_wp2_with fail
        refine (HOV.out _ HB1.out).mono ?_
        rintro e w2 ⟨h2, rfl, ho, hb⟩
        have HO := Lib.hid ho
        clear ho c0 c1 c2 c3 c4 c5 HX1

        have HB2 : Hid (Below w.heap.size w w2) := Lib.hid (HB1.out.trans (hb.mono HB1.out.size))
        have HD2 := Lib.hid (HD1.out.below hb (by have := HL1.out; omega))
        have HL2 : Hid (w.heap.size + 2 ≤ w2.heap.size) := Lib.hid (by have := hb.size; have := HL1.out; omega)
        clear hb HD1 HB1

        have d0 := HD2.out.c0; have d1 := HD2.out.c1; have d2 := HD2.out.c2; have d3 := HD2.out.c3; have d4 := HD2.out.c4; have d5 := HD2.out.c5
        have f0 := HD2.out.f 0; have f1 := HD2.out.f 1; have f2 := HD2.out.f 2; have f3 := HD2.out.f 3; have f4 := HD2.out.f 4; have f5 := HD2.out.f 5

        go_wp2
        rw [stS_fold]
        have q0 := (stS_box (s := X) (h := h2) HD2.out).c0; have q1 := (stS_box (s := X) (h := h2) HD2.out).c1; have q2 := (stS_box (s := X) (h := h2) HD2.out).c2; have q3 := (stS_box (s := X) (h := h2) HD2.out).c3; have q4 := (stS_box (s := X) (h := h2) HD2.out).c4; have q5 := (stS_box (s := X) (h := h2) HD2.out).c5
        refine bodyPost_ret (v := .tuple #[sval X h2, .int .i64 0]) (by simp [results, Try.results12, sval, go_sem, q0, q1, q2, q3, q4, q5]) rfl ⟨h2, by rw [HV.out], ?_, ?_⟩
        · rw [HV.out]
          exact (stS_own HO.out (by have := HL1.out; omega)).mono (by have := HL1.out; omega) (by rw [stS_size]; exact Nat.le_refl _)
        · exact stS_below HB2.out (by omega)

end Go.Proofs.Ytfokbkkgokioeaa.Lay

namespace Go.Proofs.Ytfokbkkgokioeaa.Lay
open Go.RowKit Go.Shelf Go.Sort Go.Proofs.Ytfokbkkgokioeaa Go.Proofs.Ytfokbkkgokioeaa.Occ Go.Proofs.Ytfokbkkgokioeaa.Slo
attribute [local go_sem] sval Oper.semAt_some

theorem rd2_take {w : World} {a : Option Addr} {P : List (Int × Int)} (h : Rd2 w a P) (k : Nat) : Rd2 w a (P.take k) := by
  rcases h with h | ⟨b, off, ha, hlt, hc⟩
  · subst h; exact .inl (by simp)
  · refine .inr ⟨b, off, ha, hlt, fun i hi => ?_⟩
    rw [List.length_take] at hi
    have := hc i (by omega)
    have e : (P.take k).getD i (0, 0) = P.getD i (0, 0) := by
      simp only [List.getD_eq_getElem?_getD]; rw [List.getElem?_take_of_lt (by omega)]
    rw [e]; exact this
theorem rd2_drop {w : World} {a : Option Addr} {c k : Nat} {P : List (Int × Int)} (h : Rd2 w a P) (hc : P.length ≤ c) : Rd2 w (if c = k then a else a.map (fun x => x.add (k * 2))) (P.drop k) := by
  rcases h with h | ⟨b, off, ha, hlt, hcl⟩
  · subst h; exact .inl (by simp)
  · by_cases hk : P.length ≤ k
    · exact .inl (List.drop_eq_nil_of_le hk)
    · subst ha
      rw [if_neg (by omega)]
      refine .inr ⟨b, off + k * 2, by simp [Addr.add], hlt, fun i hi => ?_⟩
      rw [List.length_drop] at hi
      have := hcl (k + i) (by omega)
      have e : (P.drop k).getD i (0, 0) = P.getD (k + i) (0, 0) := by
        simp only [List.getD_eq_getElem?_getD]; rw [List.getElem?_drop]
      rw [e, show off + k * 2 + i * 2 = off + (k + i) * 2 by rw [Nat.add_mul]; omega]
      exact this
section
variable {P : Program} {w0 : World} {ops : Array Oper} {rest : List Oper} {o : Oper} {A : Act} {Q : Exit → Act → World → Prop}
/-- As wpList_append_copy2, how many being told apart. -/
theorem wpList_append_copy2n (hgd : o.guard = none) (s x : Operand) (t e : TypeId)
    (ho : o.op = .call { callee := .builtin .append, args := #[s, x], argTypes := #[t, t] })
    (i : TypeInfo) (ht : P.underlying t = some (.slice e)) (hi : P.info? e = some i) (hz : i.zero = some (.agg #[.int .i64 0, .int .i64 0])) (hsize : i.size = 2) (hby : i.bytes = 16)
    (ad : Option Addr) (m cap : Nat) (zs : List (Int × Int)) (hm : zs.length = m) (hs : A.eval s = .slice (some ⟨w0.heap.size, 0, Option.none⟩) 0 0) (hx : A.eval x = .slice ad m cap)
    (hr : Rd2 w0 ad zs) (hn : ad = Option.none → cap = 0) (h63 : m ≤ maxLen) (hb : m * 16 ≤ 140737488355328)
    (h : ∀ v' w', w'.ownsRow w0.heap.size e 2 v' m (pcells zs) → Below w0.heap.size w0 w' → wpList P ops Q rest (A.put o.dst v') w') :
    wpList P ops Q (o :: rest) A (w0.alloc (.cells #[] e)) := by
  subst hm
  exact wpList_append_copy2 hgd s x t e ho i ht hi hz hsize hby ad cap zs hs hx hr hn h63 hb h
theorem wpList_append_pairsn {base : Nat} {e : TypeId} {v : Value} {n : Nat} {L : List (Int × Int)} (hown : w0.ownsRow base e 2 v n (pcells L)) (hbase : base ≤ w0.heap.size)
    (hgd : o.guard = none) (s x : Operand) (t : TypeId)
    (ho : o.op = .call { callee := .builtin .append, args := #[s, x], argTypes := #[t, t] })
    (i : TypeInfo) (ht : P.underlying t = some (.slice e)) (hi : P.info? e = some i) (hz : i.zero = some (.agg #[.int .i64 0, .int .i64 0])) (hsize : i.size = 2) (hby : i.bytes = 16)
    (ad : Option Addr) (m cap : Nat) (zs : List (Int × Int)) (hm : zs.length = m) (hs : A.eval s = v) (hx : A.eval x = .slice ad m cap)
    (hr : Rd2 w0 ad zs) (hn : ad = Option.none → cap = 0) (h63 : n + m ≤ maxLen) (hb : (n + m) * 16 ≤ 140737488355328)
    (h : ∀ v' w', w'.ownsRow base e 2 v' (n + m) (pcells (L ++ zs)) → Below base w0 w' → wpList P ops Q rest (A.put o.dst v') w') :
    wpList P ops Q (o :: rest) A w0 := by
  subst hm
  exact wpList_append_pairs hown hbase hgd s x t ho i ht hi hz hsize hby ad cap zs hs hx hr hn h63 hb h
end
set_option maxRecDepth 100000 in
set_option maxHeartbeats 8000000 in
theorem among_any (al : Option Addr) (cl : Nat) (ps : List (Int × Int)) (k : Nat) (x y : Int) (w : World) (hrp : Rd2 w al ps) (hnil : al = Option.none → cl = 0) (hcap : ps.length ≤ cl) (hk : k ≤ ps.length) (lp : ps.length ≤ 1000000) :
    Calls Try.prog 38 #[.slice al ps.length cl, .int .i64 k, .agg #[.int .i64 x, .int .i64 y]] w fun e w' => ∃ v, e = .returned v ∧ w'.ownsRow w.heap.size 42 2 v (ps.length + 1) (pcells (amongV ps k x y)) ∧ Below w.heap.size w w' := by
  obtain ⟨i0, hi, hz0, hz1, hz2⟩ := info_parts infoPr
  have HT : Hid (∀ w1, Below w.heap.size w w1 → Rd2 w1 al (ps.take k)) := Lib.hid fun w1 hb => rd2_take (hrp.mono hb (Nat.le_refl _)) k
  have HD : Hid (∀ w1, Below w.heap.size w w1 → Rd2 w1 (if cl = k then al else al.map (fun x => x.add (k * 2))) (ps.drop k)) := Lib.hid fun w1 hb => rd2_drop (hrp.mono hb (Nat.le_refl _)) hcap
  have HLT : Hid ((ps.take k).length = k) := Lib.hid (by rw [List.length_take]; omega)
  have HLD : Hid ((ps.drop k).length = ps.length - k) := Lib.hid (by rw [List.length_drop])
  have HAV : Hid (amongV ps k x y = ps.take k ++ (x, y) :: ps.drop k) := Lib.hid rfl
  have HN : Hid ((if cl = k then al else al.map (fun x => x.add (k * 2))) = Option.none → cl - k = 0) := Lib.hid (by
    split
    · omega
    · intro h; rw [Option.map_eq_none_iff] at h; have := hnil h; omega)
  have HNL := Lib.hid hnil
  generalize ps.take k = L1 at *
  generalize ps.drop k = L2 at *
  generalize amongV ps k x y = LA at *
  have hkc : k ≤ cl := by omega
  clear hrp hnil
  generalize hA2 : (if cl = k then al else al.map (fun x => x.add (k * 2))) = a2 at *
  go_enter Try.func38, Try.ntmps38
  go_wp2_with (at_builtin; refine wpList_append_copy2n rfl _ _ 28 42 rfl i0 Try.underlying28 hi hz0 hz1 hz2 al k cl L1 HLT.out (by show Value.slice _ _ _ = _; rw [World.size_alloc]) rfl (HT.out _ ((Below.refl _ w).alloc (Nat.le_refl _) _)) HNL.out (by unfold maxLen; omega) (by omega) ?_)
  intro v1 w1 ho1 hb1
  have HB1 : Hid (Below w.heap.size w w1) := Lib.hid (((Below.refl _ w).alloc (Nat.le_refl _) _).trans (hb1.mono (by omega)))
  have HP1 : Hid (Res w1 w.heap.size x y) := Lib.hid ((Res.new w x y 42).below hb1 (by omega))
  have HO1 := Lib.hid (World.ownsRow.mono ho1 (show w.heap.size ≤ w.heap.size + 1 by omega))
  clear ho1 hb1
  have p0 := HP1.out.a0; have p1 := HP1.out.a1
  go_wp2_with (at_builtin; refine wpList_append_pair HO1.out HB1.out.size rfl _ _ 28 rfl i0 Try.underlying28 hi hz0 hz1 hz2 x y 1 rfl rfl (by unfold maxLen; omega) (by omega) ?_)
  intro v2 w2 ho2 hb2
  have HO2 := Lib.hid ho2
  have HB2 : Hid (Below w.heap.size w w2) := Lib.hid (HB1.out.trans hb2)
  clear ho2 hb2 p0 p1
  have hA2' := hA2
  go_wp2_with (at_builtin; refine wpList_append_pairsn HO2.out HB2.out.size rfl _ _ 28 rfl i0 Try.underlying28 hi hz0 hz1 hz2 a2 (ps.length - k) (cl - k) L2 HLD.out rfl (by rw [← hA2]; rfl) (HD.out _ HB2.out) HN.out (by unfold maxLen; omega) (by omega) ?_)
  intro v3 w3 ho3 hb3
  go_wp2
  go_ret
  exact ⟨v3, rfl, by rw [HAV.out]; rw [show ps.length + 1 = k + 1 + (ps.length - k) by omega]; exact ho3, HB2.out.trans hb3⟩

end Go.Proofs.Ytfokbkkgokioeaa.Lay
