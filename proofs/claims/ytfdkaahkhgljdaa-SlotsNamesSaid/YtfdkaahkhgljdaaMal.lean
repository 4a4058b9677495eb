/- Contracts of package slots: the document's With. Contracts of package slots: the document's At. -/
import Derived.Test.YtfdkaahkhgljdaaMak
set_option linter.unusedSimpArgs false
set_option linter.unusedVariables false
namespace Go.Proofs.Ytfdkaahkhgljdaa.Slo
open Go.RowKit Go.Shelf Go.Proofs.Ytfdkaahkhgljdaa Go.Proofs.Ytfdkaahkhgljdaa.Occ Go.Proofs.Ytfdkaahkhgljdaa.Frac
attribute [local go_sem] Oper.semAt_some

/-- A struct is laid into a block. -/
def stS (W : World) (p : Nat) (s : Sl) (h : Hd) : World :=
  (((((W.setCell ⟨p, 0, Option.none⟩ (.int .i64 s.seg)).setCell ⟨p, 1, Option.none⟩ (.slice h.aw s.ws.length h.cw)).setCell ⟨p, 2, Option.none⟩ (.slice h.ak s.ks.length h.ck)).setCell ⟨p, 3, Option.none⟩ (.slice h.av s.vs.length h.cv)).setCell ⟨p, 4, Option.none⟩ (.slice h.ac s.cs.length h.cc)).setCell ⟨p, 5, Option.none⟩ (.int .u64 s.laid)
theorem stS_fold (W : World) (p : Nat) (s : Sl) (h : Hd) :
  (((((W.setCell ⟨p, 0, Option.none⟩ (.int .i64 s.seg)).setCell ⟨p, 1, Option.none⟩ (.slice h.aw s.ws.length h.cw)).setCell ⟨p, 2, Option.none⟩ (.slice h.ak s.ks.length h.ck)).setCell ⟨p, 3, Option.none⟩ (.slice h.av s.vs.length h.cv)).setCell ⟨p, 4, Option.none⟩ (.slice h.ac s.cs.length h.cc)).setCell ⟨p, 5, Option.none⟩ (.int .u64 s.laid) = stS W p s h := rfl
theorem stS_size (W : World) (p : Nat) (s : Sl) (h : Hd) : (stS W p s h).heap.size = W.heap.size := by simp [stS]
theorem stS_below {n p : Nat} {w W : World} {s : Sl} {h : Hd} (hb : Below n w W) (hp : n ≤ p) : Below n w (stS W p s h) := (((((hb.setCell hp _).setCell hp _).setCell hp _).setCell hp _).setCell hp _).setCell hp _
theorem stS_own {W : World} {p lo hi : Nat} {s o : Sl} {h i : Hd} (hO : SOwn W lo hi o i) (hl : p < lo) : SOwn (stS W p s h) lo hi o i := (((((hO.set_low _ _ hl).set_low _ _ hl).set_low _ _ hl).set_low _ _ hl).set_low _ _ hl).set_low _ _ hl
theorem stS_box {W : World} {p : Nat} {s : Sl} {h : Hd} {v0 v1 v2 v3 v4 v5 : Value} (hX : BoxC W p v0 v1 v2 v3 v4 v5) : BoxC (stS W p s h) p (.int .i64 s.seg) (.slice h.aw s.ws.length h.cw) (.slice h.ak s.ks.length h.ck) (.slice h.av s.vs.length h.cv) (.slice h.ac s.cs.length h.cc) (.int .u64 s.laid) :=
  (((((hX.set0 _).set1 _).set2 _).set3 _).set4 _).set5 _
theorem stS_other {W : World} {p b : Nat} {s : Sl} {h : Hd} {v0 v1 v2 v3 v4 v5 : Value} (hX : BoxC W b v0 v1 v2 v3 v4 v5) (hp : p ≠ b) : BoxC (stS W p s h) b v0 v1 v2 v3 v4 v5 :=
  (((((hX.other _ _ hp).other _ _ hp).other _ _ hp).other _ _ hp).other _ _ hp).other _ _ hp
theorem stS_res {W : World} {p b : Nat} {s : Sl} {h : Hd} {x y : Int} (R : Res W b x y) (hp : p ≠ b) : Res (stS W p s h) b x y :=
  (((((R.set _ _ hp).set _ _ hp).set _ _ hp).set _ _ hp).set _ _ hp).set _ _ hp
theorem stS_brr {W : World} {p lo : Nat} {s : Sl} {h : Hd} {v0 v1 v2 v3 v4 v5 : Value} (hO : SOwn W lo W.heap.size s h) (hX : BoxC W p v0 v1 v2 v3 v4 v5) (hl : p < lo) (hz : lo ≤ W.heap.size) : Brr (stS W p s h) lo p s h :=
  ⟨(stS_own hO hl).mono (Nat.le_refl _) (by rw [stS_size]; exact Nat.le_refl _), hl, by rw [stS_size]; exact hz, stS_box hX⟩
theorem Brr.st {W : World} {p b lo : Nat} {s o : Sl} {h i : Hd} (B : Brr W lo p s h) (h1 : b ≠ p) (h2 : b < lo) : Brr (stS W b o i) lo p s h :=
  ⟨(stS_own B.own h2).mono (Nat.le_refl _) (by rw [stS_size]; exact Nat.le_refl _), B.low, by rw [stS_size]; exact B.hl, stS_other B.box h1⟩
/-- The zero struct in a block. -/
abbrev BoxZ (W : World) (b : Nat) : Prop := BoxC W b (.int .i64 0) (.slice Option.none 0 0) (.slice Option.none 0 0) (.slice Option.none 0 0) (.slice Option.none 0 0) (.int .u64 0)
/-- A gapped array's struct in a block. -/
abbrev BoxS (W : World) (b : Nat) (s : Sl) (h : Hd) : Prop := BoxC W b (.int .i64 s.seg) (.slice h.aw s.ws.length h.cw) (.slice h.ak s.ks.length h.ck) (.slice h.av s.vs.length h.cv) (.slice h.ac s.cs.length h.cc) (.int .u64 s.laid)
theorem Hd.eta (h : Hd) (a : Option Addr) (c : Nat) : ({ h with aw := a, cw := c } : Hd) = ⟨a, c, h.ak, h.ck, h.av, h.cv, h.ac, h.cc⟩ := rfl

/-- The world ahead of With's walk: a struct, a pair, a zero struct. -/
def withW (w : World) (s : Sl) (h : Hd) (x y : Int) : World :=
  ((w.alloc (.cells #[.int .i64 s.seg, .slice h.aw s.ws.length h.cw, .slice h.ak s.ks.length h.ck, .slice h.av s.vs.length h.cv, .slice h.ac s.cs.length h.cc, .int .u64 s.laid] 27)).alloc (.cells #[.int .i64 x, .int .i64 y] 43)).alloc (.cells #[.int .i64 0, .slice Option.none 0 0, .slice Option.none 0 0, .slice Option.none 0 0, .slice Option.none 0 0, .int .u64 0] 27)
theorem withW_fold (w : World) (s : Sl) (h : Hd) (x y : Int) :
  ((w.alloc (.cells #[.int .i64 s.seg, .slice h.aw s.ws.length h.cw, .slice h.ak s.ks.length h.ck, .slice h.av s.vs.length h.cv, .slice h.ac s.cs.length h.cc, .int .u64 s.laid] 27)).alloc (.cells #[.int .i64 x, .int .i64 y] 43)).alloc (.cells #[.int .i64 0, .slice Option.none 0 0, .slice Option.none 0 0, .slice Option.none 0 0, .slice Option.none 0 0, .int .u64 0] 27) = withW w s h x y := rfl
theorem withW_size (w : World) (s : Sl) (h : Hd) (x y : Int) : (withW w s h x y).heap.size = w.heap.size + 3 := by simp [withW]
theorem withW_below (w : World) (s : Sl) (h : Hd) (x y : Int) : Below w.heap.size w (withW w s h x y) := (((Below.refl _ w).alloc (Nat.le_refl _) _).alloc (by simp) _).alloc (by simp; omega) _
theorem withW_box (w : World) (s : Sl) (h : Hd) (x y : Int) : BoxS (withW w s h x y) w.heap.size s h :=
  (BoxC.new w _ _ _ _ _ _ _).below (m := w.heap.size + 1) (((Below.refl _ _).alloc (by simp) _).alloc (by simp) _) (by omega)
theorem withW_res (w : World) (s : Sl) (h : Hd) (x y : Int) : Res (withW w s h x y) (w.heap.size + 1) x y := by
  unfold withW
  generalize ha : w.alloc (.cells #[.int .i64 s.seg, .slice h.aw s.ws.length h.cw, .slice h.ak s.ks.length h.ck, .slice h.av s.vs.length h.cv, .slice h.ac s.cs.length h.cc, .int .u64 s.laid] 27) = wa
  have sa : wa.heap.size = w.heap.size + 1 := by rw [← ha]; simp
  have r := (Res.new wa x y 43).below (n := wa.heap.size + 1) ((Below.refl _ _).alloc (by simp) (.cells #[.int .i64 0, .slice Option.none 0 0, .slice Option.none 0 0, .slice Option.none 0 0, .slice Option.none 0 0, .int .u64 0] 27)) (by omega)
  rwa [sa] at r
theorem withW_zero (w : World) (s : Sl) (h : Hd) (x y : Int) : BoxZ (withW w s h x y) (w.heap.size + 2) := by
  have := BoxC.new ((w.alloc (.cells #[.int .i64 s.seg, .slice h.aw s.ws.length h.cw, .slice h.ak s.ks.length h.ck, .slice h.av s.vs.length h.cv, .slice h.ac s.cs.length h.cc, .int .u64 s.laid] 27)).alloc (.cells #[.int .i64 x, .int .i64 y] 43)) (.int .i64 0) (.slice Option.none 0 0) (.slice Option.none 0 0) (.slice Option.none 0 0) (.slice Option.none 0 0) (.int .u64 0) 27
  simp only [World.size_alloc] at this
  exact this

set_option maxRecDepth 100000 in
set_option maxHeartbeats 4000000 in
theorem refWith_any (s : Sl) (h : Hd) (g q a : Nat) (x y : Int) (w : World) (W : s.Wf) (R : SRd w s h) (N : HNo h) (o : Ok s g q) (ha : a < s.ks.length) :
    Calls Try.prog 61 #[sval s h, .int .i64 a, .agg #[.int .i64 x, .int .i64 y]] w fun e w' => ∃ h', e = .returned (sval (layV s a x y) h') ∧ SOwn w' w.heap.size w'.heap.size (layV s a x y) h' ∧ Below w.heap.size w w' := by
  have HE := Lib.hid (refEmptied_any s h g q a (withW w s h x y) W (R.mono (withW_below w s h x y) (Nat.le_refl _)) N o ha)
  have ot := o.take W.u ha
  have hta : a < (takeV s a).ks.length := by rw [take_len]; exact ha
  have hus := take_u (s := s) W.u a
  have hlw : (takeV s a).ws.length ≤ 100000 := by rw [ot.w, take_len]; have := o.n1; omega
  have HPU := Lib.hid (fun (h1 : Hd) w1 (hr : Rd .u64 w1 h1.aw (takeV s a).ws) (hn : h1.aw = Option.none → h1.cw = 0) => Put_ok h1.aw h1.cw (takeV s a).ws a true w1 hus hr hn hlw (ot.in hta))
  have HV : Hid (layV s a x y = { takeV s a with ws := putV (takeV s a).ws a true, ks := (takeV s a).ks.set a x, vs := (takeV s a).vs.set a y, cs := (takeV s a).cs.set (a / g) ((takeV s a).cs.getD (a / g) 0 + 1), laid := IntKind.u64.wrap ((takeV s a).laid + 1) }) := Lib.hid (by unfold layV setV; rw [show (takeV s a).seg.toNat = g by rw [ot.seg]; simp])
  have hav : a < (takeV s a).vs.length := by rw [ot.v]; exact hta
  have hjc : a / g < (takeV s a).cs.length := by rw [ot.c]; exact (seg_of ot.g4 ot.n hta).1
  have HSGI := Lib.hid ot.seg
  have hg4 := ot.g4
  have hn1 := ot.n1
  have hlk : (takeV s a).ks.length ≤ 65536 := ot.n1
  have HCNT := Lib.hid (ot.count hta)
  have hl0 : 0 ≤ (takeV s a).laid ∧ (takeV s a).laid < 18446744073709551616 := W.laid
  have hl1 := hl0.1
  have hl2 := hl0.2
  have HB0 := Lib.hid (withW_below w s h x y)
  have HX0 := Lib.hid (withW_box w s h x y)
  have HP0 := Lib.hid (withW_res w s h x y)
  have HZ0 := Lib.hid (withW_zero w s h x y)
  have HS0 := Lib.hid (withW_size w s h x y)
  clear W R N o ot hus hlw hl0 ha
  generalize layV s a x y = V at *
  generalize ht : takeV s a = t at *
  clear ht
  unfold sval at *
  go_enter Try.func61, Try.ntmps61
  go_wp2_with fail
  rw [withW_fold]
  refine HE.out.mono ?_
  rintro e w1 ⟨h1, rfl, ho, hb⟩
  have hz0 := HS0.out
  have hsz := hb.size
  have HB1 : Hid (Below w.heap.size w w1) := Lib.hid (HB0.out.trans (hb.mono (by omega)))
  have HX1 := Lib.hid (HX0.out.below hb (by omega))
  have HP1 := Lib.hid (HP0.out.below hb (by omega))
  have HD1 := Lib.hid (HZ0.out.below hb (by omega))
  rw [hz0] at ho hsz
  have HO1 := Lib.hid ho
  clear ho hb hz0 HB0 HX0 HP0 HZ0 HS0 HE
  generalize withW w s h x y = w0 at *
  have f0 := HX1.out.f 0; have f1 := HX1.out.f 1; have f2 := HX1.out.f 2; have f3 := HX1.out.f 3; have f4 := HX1.out.f 4; have f5 := HX1.out.f 5
  have c0 := HX1.out.c0; have c1 := HX1.out.c1; have c2 := HX1.out.c2; have c3 := HX1.out.c3; have c4 := HX1.out.c4; have c5 := HX1.out.c5
  go_wp2_with fail
  rw [stS_fold]
  have HBr : Hid (Brr (stS w1 w.heap.size t h1) (w.heap.size + 3) w.heap.size t h1) := Lib.hid (stS_brr HO1.out HX1.out (by omega) hsz)
  have HBw : Hid (Below w.heap.size w (stS w1 w.heap.size t h1)) := Lib.hid (stS_below HB1.out (Nat.le_refl _))
  have HPz : Hid (Res (stS w1 w.heap.size t h1) (w.heap.size + 1) x y) := Lib.hid (stS_res HP1.out (by omega))
  have HDz : Hid (BoxZ (stS w1 w.heap.size t h1) (w.heap.size + 2)) := Lib.hid (stS_other HD1.out (by omega))
  clear c0 c1 c2 c3 c4 c5 f0 f1 f2 f3 f4 f5 HX1 HD1 HO1 HB1 HP1
  generalize stS w1 w.heap.size t h1 = w2 at *
  have hcn := HCNT.out
  have hc1 := hcn.1
  have hc2 := hcn.2.1
  have c0 := HBr.out.box.c0; have c1 := HBr.out.box.c1; have c2 := HBr.out.box.c2; have c3 := HBr.out.box.c3; have c4 := HBr.out.box.c4; have c5 := HBr.out.box.c5
  obtain ⟨gc, ec, xc, fc, lc⟩ := own_open HBr.out.own.oc hjc
  have HEC := Lib.hid ec
  rw [ec] at c4
  rw [HSGI.out] at c0
  have ht : (a : Int).tdiv (g : Int) = ((a / g : Nat) : Int) := by rw [Int.tdiv_eq_ediv_of_nonneg (by omega)]; simp
  have hdl := Nat.div_le_self a g
  have wj : IntKind.i64.wrap ((a / g : Nat) : Int) = ((a / g : Nat) : Int) := by
    generalize a / g = jj at *
    rw [IntKind.wrap_i64]; omega
  have g0 : ((g : Int) == 0) = false := by rw [beq_eq_false_iff_ne]; omega
  have g1 : (g : Int) ≠ 0 := by omega
  have g2 : g ≠ 0 := by omega
  have HLT : Hid (∀ cx : Int, (t.cs.set (a / g) cx).length = t.cs.length) := Lib.hid fun cx => List.length_set
  generalize hcc : t.cs.getD (a / g) 0 = cx at *
  generalize a / g = j at *
  have wc : IntKind.i64.wrap (cx + 1) = cx + 1 := by rw [IntKind.wrap_i64]; omega
  clear HCNT hcn hcc ec hc1 hc2 hdl
  have hgn : gc ≠ w.heap.size := by omega
  refine Mix.wp_region_plan (fun w' => w' = World.drew _) [10] [.dep (List.replicate 10 true)] (Array.replicate 10 true ++ #[false]) 1 mixed' (by kernel_rfl) (by kernel_rfl) (by kernel_rfl) (fun _ _ _ _ _ h => h) rfl ?_
  simp only [Mix.wpPlan, Mix.maskL, List.replicate]
  repeat (go_big_quiet_step (fail))
  refine wpQuiet_nil ?_
  refine Mix.wpAny_tail (List.replicate 10 false ++ [true]) (Array.replicate 11 true) (by kernel_rfl) (by kernel_rfl) ?_
  simp only [Mix.maskL, List.replicate, List.cons_append, List.nil_append]
  have HBr3 : Hid (Brr (w2.setCell ⟨gc, j, Option.none⟩ (.int .i64 (cx + 1))).drew (w.heap.size + 3) w.heap.size { t with cs := t.cs.set j (cx + 1) } h1) := Lib.hid (by have hh := HBr.out.set_c (j := j) (cx + 1) HEC.out; exact hh.below (Below.refl _ _).drew)
  have HBw3 : Hid (Below w.heap.size w (w2.setCell ⟨gc, j, Option.none⟩ (.int .i64 (cx + 1))).drew) := Lib.hid (HBw.out.setCell (p := ⟨gc, j, Option.none⟩) (by show w.heap.size ≤ gc; omega) _).drew
  have HD3 := Lib.hid ((HDz.out.other ⟨gc, j, Option.none⟩ (.int .i64 (cx + 1)) (by show gc ≠ w.heap.size + 2; omega)).below (Below.refl (w2.heap.size) _).drew (by have := HBr.out.hl; omega))
  have HP3 := Lib.hid (HPz.out.set ⟨gc, j, Option.none⟩ (.int .i64 (cx + 1)) (by show gc ≠ w.heap.size + 1; omega)).drew
  go_wp2_with fail
  clear c0 c1 c2 c3 c4 c5 xc fc hgn ht wj g0 g1 g2 wc
  generalize (w2.setCell ⟨gc, j, Option.none⟩ (.int .i64 (cx + 1))).drew = w3 at *
  refine (HPU.out h1 w3 HBr3.out.own.rd.fw HBr3.out.own.no.w).mono ?_
  rintro e w4 ⟨v, rfl, hov, hb4⟩
  obtain ⟨a4, p4, rfl⟩ := own_slice hov
  have hB4 := HBr3.out.below hb4
  have HBr4 : Hid (Brr (w4.setCell ⟨w.heap.size, 1, Option.none⟩ (.slice a4 t.ws.length p4)) (w.heap.size + 3) w.heap.size { t with ws := putV t.ws a true, cs := t.cs.set j (cx + 1) } { h1 with aw := a4, cw := p4 }) := Lib.hid (by
    have := HBr3.out.put_w (a := a4) (c := p4) (ws := putV t.ws a true) hb4 (putV_length _ _ _) (by rw [putV_length]; exact hov)
    rwa [putV_length] at this)
  have HBw4 : Hid (Below w.heap.size w w4) := Lib.hid (HBw3.out.trans (hb4.mono HBw3.out.size))
  have HD4 := Lib.hid (HD3.out.below hb4 (by have := HBr3.out.hl; omega))
  have HP4 := Lib.hid (HP3.out.below hb4 (by have := HBr3.out.hl; omega))
  have c0 := hB4.box.c0; have c1 := hB4.box.c1; have c2 := hB4.box.c2; have c3 := hB4.box.c3; have c4 := hB4.box.c4; rw [show (t.cs.set j (cx + 1)).length = t.cs.length from HLT.out _] at c4; have c5 := hB4.box.c5; have ff := hB4.box.f 1; have ff5 := hB4.box.f 5
  obtain ⟨gk, ek, x2, fk, lk⟩ := own_open hB4.own.ok hta
  obtain ⟨gv, ev, x3, fv, lv⟩ := own_open hB4.own.ov hav
  have hkv : gk ≠ gv := fun e => hB4.own.kv gk (by rw [ek]; rfl) (by rw [ev, e]; rfl)
  have hkn : gk ≠ w.heap.size := by omega
  have hvn : gv ≠ w.heap.size := by omega
  have hkn1 : gk ≠ w.heap.size + 1 := by omega
  have hvn1 : gv ≠ w.heap.size + 1 := by omega
  have hkn2 : gk ≠ w.heap.size + 2 := by omega
  have hvn2 : gv ≠ w.heap.size + 2 := by omega
  have HK := Lib.hid (And.intro ek ev)
  rw [ek] at c2
  rw [ev] at c3
  clear hB4 hov hb4 ek ev
  have p0 := HP4.out.a0; have p1 := HP4.out.a1
  have d0 := HD4.out.c0; have d1 := HD4.out.c1; have d2 := HD4.out.c2; have d3 := HD4.out.c3; have d4 := HD4.out.c4; have d5 := HD4.out.c5
  have f0 := HD4.out.f 0; have f1 := HD4.out.f 1; have f2 := HD4.out.f 2; have f3 := HD4.out.f 3; have f4 := HD4.out.f 4; have f5 := HD4.out.f 5
  go_wp2
  have B5 := ((HBr4.out.set_k (j := a) x HK.out.1).set_v (j := a) y HK.out.2).set_laid (IntKind.u64.wrap (t.laid + 1))
  have hl : w.heap.size + 2 < w.heap.size + 3 := by omega
  have B6 := ((((((B5.other ⟨w.heap.size + 2, 0, Option.none⟩ (.int .i64 t.seg) (by simp) hl).other ⟨w.heap.size + 2, 1, Option.none⟩ (.slice a4 t.ws.length p4) (by simp) hl).other ⟨w.heap.size + 2, 2, Option.none⟩ (.slice (some ⟨gk, 0, Option.none⟩) t.ks.length h1.ck) (by simp) hl).other ⟨w.heap.size + 2, 3, Option.none⟩ (.slice (some ⟨gv, 0, Option.none⟩) t.vs.length h1.cv) (by simp) hl).other ⟨w.heap.size + 2, 4, Option.none⟩ (.slice h1.ac t.cs.length h1.cc) (by simp) hl).other ⟨w.heap.size + 2, 5, Option.none⟩ (.int .u64 (IntKind.u64.wrap (t.laid + 1))) (by simp) hl)
  refine bodyPost_ret (v := .agg #[.int .i64 t.seg, .slice a4 t.ws.length p4, .slice (some ⟨gk, 0, Option.none⟩) t.ks.length h1.ck, .slice (some ⟨gv, 0, Option.none⟩) t.vs.length h1.cv, .slice h1.ac t.cs.length h1.cc, .int .u64 (IntKind.u64.wrap (t.laid + 1))]) (by clear B5 B6; simp [results, Try.results61, go_sem, *]) rfl ⟨{ h1 with aw := a4, cw := p4 }, by rw [HV.out]; simp [HK.out.1, HK.out.2, putV_length], ?_, ?_⟩
  · rw [HV.out]; exact B6.own.mono (by omega) (Nat.le_refl _)
  · exact (((((((((HBw4.out.setCell (by simp) _).setCell (by show w.heap.size ≤ gk; omega) _).setCell (by show w.heap.size ≤ gv; omega) _).setCell (by simp) _).setCell (by simp; omega) _).setCell (by simp; omega) _).setCell (by simp; omega) _).setCell (by simp; omega) _).setCell (by simp; omega) _).setCell (by simp; omega) _
end Go.Proofs.Ytfdkaahkhgljdaa.Slo

namespace Go.Proofs.Ytfdkaahkhgljdaa.Slo
open Go.RowKit Go.Shelf Go.Proofs.Ytfdkaahkhgljdaa Go.Proofs.Ytfdkaahkhgljdaa.Occ Go.Proofs.Ytfdkaahkhgljdaa.Frac
attribute [local go_sem] Oper.semAt_some

/-- A struct in a box, and a second new block. -/
def twoW (w : World) (s : Sl) (h : Hd) (o : Obj) : World :=
  (w.alloc (.cells #[.int .i64 s.seg, .slice h.aw s.ws.length h.cw, .slice h.ak s.ks.length h.ck, .slice h.av s.vs.length h.cv, .slice h.ac s.cs.length h.cc, .int .u64 s.laid] 27)).alloc o
theorem twoW_fold (w : World) (s : Sl) (h : Hd) (o : Obj) :
  (w.alloc (.cells #[.int .i64 s.seg, .slice h.aw s.ws.length h.cw, .slice h.ak s.ks.length h.ck, .slice h.av s.vs.length h.cv, .slice h.ac s.cs.length h.cc, .int .u64 s.laid] 27)).alloc o = twoW w s h o := rfl
theorem twoW_size (w : World) (s : Sl) (h : Hd) (o : Obj) : (twoW w s h o).heap.size = w.heap.size + 2 := by simp [twoW]
theorem twoW_below (w : World) (s : Sl) (h : Hd) (o : Obj) : Below w.heap.size w (twoW w s h o) := ((Below.refl _ w).alloc (Nat.le_refl _) _).alloc (by simp) _
theorem twoW_box (w : World) (s : Sl) (h : Hd) (o : Obj) : BoxS (twoW w s h o) w.heap.size s h :=
  (BoxC.new w _ _ _ _ _ _ _).below (m := w.heap.size + 1) ((Below.refl _ _).alloc (by simp) _) (by omega)
theorem twoW_res (w : World) (s : Sl) (h : Hd) (x y : Int) : Res (twoW w s h (.cells #[.int .i64 x, .int .i64 y] 43)) (w.heap.size + 1) x y := by
  have r := Res.new (w.alloc (.cells #[.int .i64 s.seg, .slice h.aw s.ws.length h.cw, .slice h.ak s.ks.length h.ck, .slice h.av s.vs.length h.cv, .slice h.ac s.cs.length h.cc, .int .u64 s.laid] 27)) x y 43
  simp only [World.size_alloc] at r
  exact r
theorem twoW_zero (w : World) (s : Sl) (h : Hd) : BoxZ (twoW w s h (.cells #[.int .i64 0, .slice Option.none 0 0, .slice Option.none 0 0, .slice Option.none 0 0, .slice Option.none 0 0, .int .u64 0] 27)) (w.heap.size + 1) := by
  have r := BoxC.new (w.alloc (.cells #[.int .i64 s.seg, .slice h.aw s.ws.length h.cw, .slice h.ak s.ks.length h.ck, .slice h.av s.vs.length h.cv, .slice h.ac s.cs.length h.cc, .int .u64 s.laid] 27)) (.int .i64 0) (.slice Option.none 0 0) (.slice Option.none 0 0) (.slice Option.none 0 0) (.slice Option.none 0 0) (.int .u64 0) 27
  simp only [World.size_alloc] at r
  exact r
/-- A pair is laid into a block. -/
def stP (W : World) (p : Nat) (x y : Int) : World := (W.setCell ⟨p, 0, Option.none⟩ (.int .i64 x)).setCell ⟨p, 1, Option.none⟩ (.int .i64 y)
theorem stP_fold (W : World) (p : Nat) (x y : Int) : (W.setCell ⟨p, 0, Option.none⟩ (.int .i64 x)).setCell ⟨p, 1, Option.none⟩ (.int .i64 y) = stP W p x y := rfl
theorem stP_size (W : World) (p : Nat) (x y : Int) : (stP W p x y).heap.size = W.heap.size := by simp [stP]
theorem stP_below {n p : Nat} {w W : World} {x y : Int} (hb : Below n w W) (hp : n ≤ p) : Below n w (stP W p x y) := (hb.setCell hp _).setCell hp _
theorem stP_res {W : World} {p : Nat} {x y x' y' : Int} (R : Res W p x' y') : Res (stP W p x y) p x y := by
  have n1 : (⟨p, 0, Option.none⟩ : Addr) ≠ ⟨p, 1, Option.none⟩ := by simp
  refine ⟨?_, ?_, fun j => by simp only [stP, World.frozen?_setCell]; exact R.f j⟩
  · exact (World.cell?_setCell_other _ _ _ _ n1.symm).trans (World.cell?_setCell_same _ _ _ R.a0)
  · exact World.cell?_setCell_same _ _ _ ((World.cell?_setCell_other _ _ _ _ n1).trans R.a1)
theorem stP_box {W : World} {p b : Nat} {x y : Int} {v0 v1 v2 v3 v4 v5 : Value} (hX : BoxC W b v0 v1 v2 v3 v4 v5) (hp : p ≠ b) : BoxC (stP W p x y) b v0 v1 v2 v3 v4 v5 := (hX.other _ _ hp).other _ _ hp
theorem stP_own {W : World} {p lo hi : Nat} {o : Sl} {i : Hd} {x y : Int} (hO : SOwn W lo hi o i) (hl : p < lo) : SOwn (stP W p x y) lo hi o i := (hO.set_low _ _ hl).set_low _ _ hl
/-- The zero struct is laid into a block. -/
theorem stZ_fold (W : World) (p : Nat) :
  (((((W.setCell ⟨p, 0, Option.none⟩ (.int .i64 0)).setCell ⟨p, 1, Option.none⟩ (.slice Option.none 0 0)).setCell ⟨p, 2, Option.none⟩ (.slice Option.none 0 0)).setCell ⟨p, 3, Option.none⟩ (.slice Option.none 0 0)).setCell ⟨p, 4, Option.none⟩ (.slice Option.none 0 0)).setCell ⟨p, 5, Option.none⟩ (.int .u64 0) = stS W p noneS noneH := rfl

theorem askS_none {s : Sl} {b : Bool} (h : okS s = false) : askS s b = 8 := by unfold askS; rw [h]; rfl
theorem askS_out {s : Sl} (h : okS s = true) : askS s false = 2 := by unfold askS; rw [h]; rfl
theorem askS_in {s : Sl} (h : okS s = true) : askS s true = 0 := by unfold askS; rw [h]; rfl
theorem rd_at {k : IntKind} {w : World} {a : Option Addr} {zs : List Int} {i : Nat} (h : Rd k w a zs) (hi : i < zs.length) : ∃ b off, a = some ⟨b, off, Option.none⟩ ∧ b < w.heap.size ∧ w.cell? ⟨b, off + i, Option.none⟩ = some (.int k (zs.getD i 0)) := by
  rcases h with h | ⟨b, off, ha, hlt, hc⟩
  · subst h; simp at hi
  · exact ⟨b, off, ha, hlt, hc i hi⟩

set_option maxRecDepth 100000 in
set_option maxHeartbeats 4000000 in
theorem refAt_any (s : Sl) (h : Hd) (a : Int) (w : World) (W : s.Wf) (R : SRd w s h) :
    Calls Try.prog 20 #[sval s h, .int .i64 a] w fun e w' => AnsP1 (atV s a) w e w' := by
  have HM := Lib.hid (sMay_any s h (twoW w s h (.cells #[.int .i64 0, .int .i64 0] 43)) W (R.mono (twoW_below w s h _) (Nat.le_refl _)))
  have HB0 := Lib.hid (twoW_below w s h (.cells #[.int .i64 0, .int .i64 0] 43))
  have HX0 := Lib.hid (twoW_box w s h (.cells #[.int .i64 0, .int .i64 0] 43))
  have HP0 := Lib.hid (twoW_res w s h 0 0)
  have HS0 := Lib.hid (twoW_size w s h (.cells #[.int .i64 0, .int .i64 0] 43))
  have lk := W.lk
  have HI := Lib.hid (fun (a : Nat) (ha : a < 64 * s.ws.length) w1 (hb : Below w.heap.size w w1) => sIs_any s h a w1 W.u (R.mono hb (Nat.le_refl _)).fw W.lw ha)
  have HR := Lib.hid R
  clear W R
  cases hok : okS s
  case false =>
    have HV : Hid (atV s a = ((0, 0), 8)) := Lib.hid (by unfold atV; rw [askS_none hok]; rfl)
    rw [hok] at HM
    clear hok HI HR
    generalize hV : atV s a = V at *
    clear hV
    unfold sval at *
    go_enter Try.func20, Try.ntmps20
    go_wp2_with fail
    rw [twoW_fold]
    refine HM.out.mono ?_
    rintro e w1 ⟨rfl, hb⟩
    have HB1 : Hid (Below w.heap.size w w1) := Lib.hid (HB0.out.trans (hb.mono HB0.out.size))
    have HP1 := Lib.hid (HP0.out.below hb (by have := HS0.out; omega))
    clear hb HB0 HX0 HP0 HM HS0
    have p0 := HP1.out.a0; have p1 := HP1.out.a1; have f0 := HP1.out.f 0; have f1 := HP1.out.f 1
    go_wp2
    rw [stP_fold]
    have q0 := (stP_res (x := 0) (y := 0) HP1.out).a0; have q1 := (stP_res (x := 0) (y := 0) HP1.out).a1
    refine bodyPost_ret (v := .tuple #[.agg #[.int .i64 0, .int .i64 0], .int .i64 8]) (by simp [results, Try.results20, go_sem, q0, q1]) rfl ⟨by rw [HV.out], ?_⟩
    exact stP_below HB1.out (by omega)
  case true =>
    rw [hok] at HM
    by_cases h0 : a < 0
    · have HV : Hid (atV s a = ((0, 0), 2)) := Lib.hid (by unfold atV; rw [show atB (s.ks.length : Int) a = false by unfold atB; simp; omega, askS_out hok]; rfl)
      clear hok HI HR
      generalize hV : atV s a = V at *
      clear hV
      unfold sval at *
      go_enter Try.func20, Try.ntmps20
      go_wp2_with fail
      rw [twoW_fold]
      refine HM.out.mono ?_
      rintro e w1 ⟨rfl, hb⟩
      have HB1 : Hid (Below w.heap.size w w1) := Lib.hid (HB0.out.trans (hb.mono HB0.out.size))
      have HP1 := Lib.hid (HP0.out.below hb (by have := HS0.out; omega))
      have HX1 := Lib.hid (HX0.out.below hb (by have := HS0.out; omega))
      clear hb HB0 HX0 HP0 HM HS0
      have p0 := HP1.out.a0; have p1 := HP1.out.a1; have f0 := HP1.out.f 0; have f1 := HP1.out.f 1
      have c2 := HX1.out.c2
      go_wp2
      rw [stP_fold]
      have q0 := (stP_res (x := 0) (y := 0) HP1.out).a0; have q1 := (stP_res (x := 0) (y := 0) HP1.out).a1
      refine bodyPost_ret (v := .tuple #[.agg #[.int .i64 0, .int .i64 0], .int .i64 2]) (by simp [results, Try.results20, go_sem, q0, q1]) rfl ⟨by rw [HV.out], ?_⟩
      exact stP_below HB1.out (by omega)
    · obtain ⟨a, rfl⟩ := Int.eq_ofNat_of_zero_le (show 0 ≤ a by omega)
      by_cases h1 : a < s.ks.length
      · obtain ⟨g, q, o⟩ := okS_iff.1 hok
        have hi := o.in h1
        have hav : a < s.vs.length := by rw [o.v]; exact h1
        have hn1 := o.n1
        have HV : Hid (atV s a = if occB s.ws a = true then (pairAt s a, 0) else ((0, 0), 6)) := Lib.hid (by unfold atV; rw [show atB (s.ks.length : Int) (a : Int) = true by unfold atB; simp; omega, askS_in hok, Int.toNat_natCast]; rfl)
        have HI2 := Lib.hid (fun w1 hb => HI.out a hi w1 hb)
        clear hok HI hi o h0
        generalize hV : atV s a = V at *
        clear hV
        have HO : Hid (∃ ob, occB s.ws a = ob) := Lib.hid ⟨_, rfl⟩
        generalize occB s.ws a = ob at *
        unfold sval at *
        go_enter Try.func20, Try.ntmps20
        go_wp2_with fail
        rw [twoW_fold]
        refine HM.out.mono ?_
        rintro e w1 ⟨rfl, hb⟩
        have HB1 : Hid (Below w.heap.size w w1) := Lib.hid (HB0.out.trans (hb.mono HB0.out.size))
        have HP1 := Lib.hid (HP0.out.below hb (by have := HS0.out; omega))
        have HX1 := Lib.hid (HX0.out.below hb (by have := HS0.out; omega))
        have HZ1 : Hid (w.heap.size + 2 ≤ w1.heap.size) := Lib.hid (by have := hb.size; have := HS0.out; omega)
        clear hb HB0 HX0 HP0 HM HS0
        have c0 := HX1.out.c0; have c1 := HX1.out.c1; have c2 := HX1.out.c2; have c3 := HX1.out.c3; have c4 := HX1.out.c4; have c5 := HX1.out.c5
        go_wp2_with fail
        refine (HI2.out w1 HB1.out).mono ?_
        rintro e w2 ⟨rfl, hb⟩
        have HB2 : Hid (Below w.heap.size w w2) := Lib.hid (HB1.out.trans (hb.mono HB1.out.size))
        have HP2 := Lib.hid (HP1.out.below hb (by have := HZ1.out; omega))
        have HX2 := Lib.hid (HX1.out.below hb (by have := HZ1.out; omega))
        clear hb HB1 HX1 HP1 HZ1 c0 c1 c2 c3 c4 c5
        have p0 := HP2.out.a0; have p1 := HP2.out.a1; have f0 := HP2.out.f 0; have f1 := HP2.out.f 1
        have c2 := HX2.out.c2; have c3 := HX2.out.c3
        cases ob
        · go_wp2
          rw [stP_fold]
          have q0 := (stP_res (x := 0) (y := 0) HP2.out).a0; have q1 := (stP_res (x := 0) (y := 0) HP2.out).a1
          refine bodyPost_ret (v := .tuple #[.agg #[.int .i64 0, .int .i64 0], .int .i64 6]) (by simp [results, Try.results20, go_sem, q0, q1]) rfl ⟨by rw [HV.out]; rfl, ?_⟩
          exact stP_below HB2.out (by omega)
        · have R2 := HR.out.mono HB2.out (Nat.le_refl _)
          obtain ⟨bk, ok, ek, lk2, ck⟩ := rd_at R2.fk h1
          obtain ⟨bv, ov, ev, lv2, cv⟩ := rd_at R2.fv hav
          rw [ek] at c2
          rw [ev] at c3
          have HE : Hid (s.ks.getD a 0 = (pairAt s a).1 ∧ s.vs.getD a 0 = (pairAt s a).2) := Lib.hid ⟨rfl, rfl⟩
          rw [HE.out.1] at ck
          rw [HE.out.2] at cv
          generalize pairAt s a = xy at *
          obtain ⟨x, y⟩ := xy
          dsimp only at ck cv
          clear R2 ek ev lk2 lv2
          go_wp2_with fail
          refine Mix.wp_region_plan (fun w' => w' = World.drew _) [11, 12] [.dep (List.replicate 11 true)] (Array.replicate 11 true ++ #[false, false]) 2 mixed' (by kernel_rfl) (by kernel_rfl) (by kernel_rfl) (fun _ _ _ _ _ h => h) rfl ?_
          simp only [Mix.wpPlan, Mix.maskL, List.replicate]
          repeat (go_big_quiet_step (fail))
          refine wpQuiet_nil ?_
          refine Mix.wpAny_tail (List.replicate 11 false ++ [true, true]) (Array.replicate 13 true) (by kernel_rfl) (by kernel_rfl) ?_
          simp only [Mix.maskL, List.replicate, List.cons_append, List.nil_append]
          go_wp2
          rw [stP_fold]
          have q0 := (stP_res (x := x) (y := y) HP2.out).a0; have q1 := (stP_res (x := x) (y := y) HP2.out).a1
          refine bodyPost_ret (v := .tuple #[.agg #[.int .i64 x, .int .i64 y], .int .i64 0]) (by simp [results, Try.results20, go_sem, q0, q1]) rfl ⟨by rw [HV.out]; simp, ?_⟩
          exact (stP_below HB2.out (by omega)).drew
      · have HV : Hid (atV s a = ((0, 0), 2)) := Lib.hid (by unfold atV; rw [show atB (s.ks.length : Int) a = false by unfold atB; simp; omega, askS_out hok]; rfl)
        clear hok HI HR
        have h2 : ¬ (a : Int) < 0 := by omega
        generalize hV : atV s a = V at *
        clear hV
        unfold sval at *
        go_enter Try.func20, Try.ntmps20
        go_wp2_with fail
        rw [twoW_fold]
        refine HM.out.mono ?_
        rintro e w1 ⟨rfl, hb⟩
        have HB1 : Hid (Below w.heap.size w w1) := Lib.hid (HB0.out.trans (hb.mono HB0.out.size))
        have HP1 := Lib.hid (HP0.out.below hb (by have := HS0.out; omega))
        have HX1 := Lib.hid (HX0.out.below hb (by have := HS0.out; omega))
        clear hb HB0 HX0 HP0 HM HS0
        have p0 := HP1.out.a0; have p1 := HP1.out.a1; have f0 := HP1.out.f 0; have f1 := HP1.out.f 1
        have c2 := HX1.out.c2
        go_wp2
        rw [stP_fold]
        have q0 := (stP_res (x := 0) (y := 0) HP1.out).a0; have q1 := (stP_res (x := 0) (y := 0) HP1.out).a1
        refine bodyPost_ret (v := .tuple #[.agg #[.int .i64 0, .int .i64 0], .int .i64 2]) (by simp [results, Try.results20, go_sem, q0, q1]) rfl ⟨by rw [HV.out], ?_⟩
        exact stP_below HB1.out (by omega)
end Go.Proofs.Ytfdkaahkhgljdaa.Slo
