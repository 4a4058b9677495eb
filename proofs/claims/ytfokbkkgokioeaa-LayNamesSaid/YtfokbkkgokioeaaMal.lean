/- Contracts of package slots: the document's Filled. Contracts of package slots: the document's Fill. What came in: a pair; how long answers are. 'slices.Collect' of numbers, against whatever iterator. Places: the iterator, and what is collected. Even places: what the functions of package spread compute, in numbers: no program in sight. -/
import Derived.Test.YtfokbkkgokioeaaMak
set_option linter.unusedSimpArgs false
set_option linter.unusedVariables false
namespace Go.Proofs.Ytfokbkkgokioeaa.Slo
open Go.RowKit Go.Shelf Go.Sort Go.Proofs.Ytfokbkkgokioeaa Go.Proofs.Ytfokbkkgokioeaa.Occ Go.Proofs.Ytfokbkkgokioeaa.Frac
attribute [local go_sem] Oper.semAt_some

theorem set_id {l : List Int} {i : Nat} {x : Int} (h : l.getD i 0 = x) (hi : i < l.length) : l.set i x = l := by
  subst h
  refine List.ext_getElem? fun j => ?_
  rw [List.getElem?_set]
  by_cases e : i = j
  · subst e; simp [hi, List.getD_eq_getElem?_getD]
  · simp [e]
theorem take_idle {s : Sl} {g q a : Nat} (o : Ok s g q) (hu : U64 s.ws) (ha : a < s.ks.length) (h : occB s.ws a = false) : takeV s a = s := by
  obtain ⟨z1, z2⟩ := o.blank a ha h
  have hw := putV_same hu h (o.in ha)
  have hk := set_id z1 ha
  have hv := set_id z2 (by rw [o.v]; exact ha)
  clear o hu
  obtain ⟨sg, ws, ks, vs, cs, ld⟩ := s
  unfold takeV
  dsimp only at *
  rw [hw, hk, hv, h]
  rfl
/-- One more pair is laid where there was none. -/
theorem layL_step {s : Sl} {g q n f t : Nat} (h : Is s g q n) (hft : f ≤ t) (htn : t ≤ n) {xs : List Int} {ps : List (Int × Int)} (hp : partB f t xs = true) {k : Nat} (hk : k < xs.length) :
    layL (clrV s f (t - f)) xs ps (k + 1) = setV (layL (clrV s f (t - f)) xs ps k) (xs.getD k 0).toNat (ps.getD k (0, 0)).1 (ps.getD k (0, 0)).2 ∧ occB (layL (clrV s f (t - f)) xs ps k).ws (xs.getD k 0).toNat = false := by
  have hx : ∀ k, k < xs.length → 0 ≤ xs.getD k 0 ∧ xs.getD k 0 < n := fun k hk => by
    have := partB_ge hp k hk; have := (partB_iff.1 hp k hk).2; omega
  have hr := rises_of hp
  have IY := h.clr (f := f) (t - f) (by omega)
  obtain ⟨c1, -, -⟩ := clr_facts (f := f) h (t - f) (by omega)
  have D := (lay_facts IY (ps := ps) hx hr k (by omega)).2.1 (xs.getD k 0).toNat (fun j hj => by have := hr j k hj hk; have := hx j (by omega); omega)
  have h1 := hx k hk
  have h2 := partB_ge hp k hk
  have h3 := (partB_iff.1 hp k hk).2
  have hf : occB (layL (clrV s f (t - f)) xs ps k).ws (xs.getD k 0).toNat = false := by rw [D.1, c1, if_pos (by omega)]
  have IX := IY.layL (ps := ps) hx k (by omega)
  refine ⟨?_, hf⟩
  show setV (takeV (layL (clrV s f (t - f)) xs ps k) _) _ _ _ = _
  rw [take_idle IX.o IX.u (by rw [IX.n]; omega) hf]
/-- What is known of a slot that is turned. -/
structure Rnd (T : Sl) (g A : Nat) : Prop where
  hk : A < T.ks.length
  hv : A < T.vs.length
  hc : A / g < T.cs.length
  seg : T.seg = (g : Int)
  cnt : 0 ≤ T.cs.getD (A / g) 0 ∧ T.cs.getD (A / g) 0 ≤ 64
  n1 : T.ks.length ≤ 65536
  u : U64 T.ws
  lw : T.ws.length ≤ 100000
  in_ : A < 64 * T.ws.length
  l : 0 ≤ T.laid ∧ T.laid < 18446744073709551616
def FilI (w wr : World) (S : Sl) : Prop := ∃ h2 : Hd, Brr wr (w.heap.size + 2) w.heap.size S h2 ∧ Below w.heap.size w wr ∧ BoxZ wr (w.heap.size + 1)
theorem Is.rnd {T : Sl} {g q n A : Nat} (i : Is T g q n) (h : A < n) : Rnd T g A := by
  have ha : A < T.ks.length := by rw [i.n]; exact h
  have c := i.o.count ha
  have W := i.o.wf i.u i.l
  exact ⟨ha, by rw [i.o.v]; exact ha, by rw [i.o.c]; exact (seg_of i.o.g4 i.o.n ha).1, i.o.seg, ⟨c.1, c.2.1⟩, i.o.n1, i.u, W.lw, i.o.in ha, i.l⟩
theorem Rd.cellAt {k : IntKind} {w w1 : World} {b o : Nat} {zs : List Int} {n i : Nat} (h : Rd k w (some ⟨b, o, Option.none⟩) zs) (hb : Below n w w1) (hn : w.heap.size ≤ n) (hi : i < zs.length) : w1.cell? ⟨b, o + i, Option.none⟩ = some (.int k (zs.getD i 0)) := by
  obtain ⟨b', o', e, c⟩ := Rd.at h hb hn hi
  cases e; exact c
theorem Rd2.cellAt {w w1 : World} {b o : Nat} {P : List (Int × Int)} {n i : Nat} (h : Rd2 w (some ⟨b, o, Option.none⟩) P) (hb : Below n w w1) (hn : w.heap.size ≤ n) (hi : i < P.length) :
    w1.cell? ⟨b, o + i * 2, Option.none⟩ = some (.int .i64 (P.getD i (0, 0)).1) ∧ w1.cell? ⟨b, o + i * 2 + 1, Option.none⟩ = some (.int .i64 (P.getD i (0, 0)).2) := by
  obtain ⟨b', o', e, c⟩ := Rd2.at h hb hn hi
  cases e; exact c

set_option maxRecDepth 100000 in
set_option maxHeartbeats 8000000 in
theorem refFilled_any (s : Sl) (h : Hd) (g q f t : Nat) (ax : Option Addr) (cx : Nat) (xs : List Int) (al : Option Addr) (cl : Nat) (ps : List (Int × Int)) (w : World) (W : s.Wf) (R : SRd w s h) (N : HNo h) (o : Ok s g q) (hft : f ≤ t) (htn : t ≤ s.ks.length)
    (hrx : Rd .i64 w ax xs) (hrp : Rd2 w al ps) (hlen : xs.length = ps.length) (lp : ps.length ≤ 1000000) (hp : partB f t xs = true) :
    Calls Try.prog 62 #[sval s h, .int .i64 f, .int .i64 t, .slice ax xs.length cx, .slice al ps.length cl] w fun e w' => ∃ h', e = .returned (sval (fillV s f t xs ps) h') ∧ SOwn w' w.heap.size w'.heap.size (fillV s f t xs ps) h' ∧ Below w.heap.size w w' := by
  have HT := Lib.hid (refTwin_any s h (twoW w s h (.cells #[.int .i64 0, .slice Option.none 0 0, .slice Option.none 0 0, .slice Option.none 0 0, .slice Option.none 0 0, .int .u64 0] 27)) W (R.mono (twoW_below w s h _) (Nat.le_refl _)) N)
  have HB0 := Lib.hid (twoW_below w s h (.cells #[.int .i64 0, .slice Option.none 0 0, .slice Option.none 0 0, .slice Option.none 0 0, .slice Option.none 0 0, .int .u64 0] 27))
  have HX0 := Lib.hid (twoW_box w s h (.cells #[.int .i64 0, .slice Option.none 0 0, .slice Option.none 0 0, .slice Option.none 0 0, .slice Option.none 0 0, .int .u64 0] 27))
  have HZ0 := Lib.hid (twoW_zero w s h)
  have HS0 := Lib.hid (twoW_size w s h (.cells #[.int .i64 0, .slice Option.none 0 0, .slice Option.none 0 0, .slice Option.none 0 0, .slice Option.none 0 0, .int .u64 0] 27))
  have I : Is s g q s.ks.length := ⟨o, W.u, W.laid, rfl⟩
  have hn1 := o.n1
  have HC1 : Hid (∀ A, f ≤ A → A < t → Rnd (clrV s f (A - f)) g A ∧ (occB (clrV s f (A - f)).ws A = false → clrV s f (A + 1 - f) = { clrV s f (A - f) with ks := (clrV s f (A - f)).ks.set A 0, vs := (clrV s f (A - f)).vs.set A 0 }) ∧
      (occB (clrV s f (A - f)).ws A = true → clrV s f (A + 1 - f) = { clrV s f (A - f) with ws := putV (clrV s f (A - f)).ws A false, ks := (clrV s f (A - f)).ks.set A 0, vs := (clrV s f (A - f)).vs.set A 0, cs := (clrV s f (A - f)).cs.set (A / g) ((clrV s f (A - f)).cs.getD (A / g) 0 - 1) })) := Lib.hid fun A h1 h2 => by
    have i := I.clr (f := f) (A - f) (by omega)
    have e1 : clrV s f (A + 1 - f) = takeV (clrV s f (A - f)) A := by
      rw [show A + 1 - f = A - f + 1 by omega]; show takeV _ (f + (A - f)) = _; rw [show f + (A - f) = A by omega]
    rw [e1]
    generalize clrV s f (A - f) = T at *
    refine ⟨i.rnd (by omega), fun ho => ?_, fun ho => ?_⟩
    · unfold takeV; rw [if_neg (by rw [ho]; simp), putV_same i.u ho (i.o.in (by rw [i.n]; omega))]
    · unfold takeV; rw [if_pos ho, show T.seg.toNat = g by rw [i.o.seg]; simp]
  have HLK : Hid (∀ k, k < xs.length → ∃ a : Nat, xs.getD k 0 = (a : Int) ∧ Rnd (layL (clrV s f (t - f)) xs ps k) g a ∧ layL (clrV s f (t - f)) xs ps (k + 1) = { layL (clrV s f (t - f)) xs ps k with ws := putV (layL (clrV s f (t - f)) xs ps k).ws a true, ks := (layL (clrV s f (t - f)) xs ps k).ks.set a (ps.getD k (0, 0)).1, vs := (layL (clrV s f (t - f)) xs ps k).vs.set a (ps.getD k (0, 0)).2, cs := (layL (clrV s f (t - f)) xs ps k).cs.set (a / g) ((layL (clrV s f (t - f)) xs ps k).cs.getD (a / g) 0 + 1), laid := IntKind.u64.wrap ((layL (clrV s f (t - f)) xs ps k).laid + 1) }) := Lib.hid fun k hk => by
    have h1 := partB_ge hp k hk
    have h2 := (partB_iff.1 hp k hk).2
    obtain ⟨e1, e2⟩ := layL_step I hft htn hp (ps := ps) hk
    have hx : ∀ k, k < xs.length → 0 ≤ xs.getD k 0 ∧ xs.getD k 0 < s.ks.length := fun k hk => by
      have := partB_ge hp k hk; have := (partB_iff.1 hp k hk).2; omega
    have i := (I.clr (f := f) (t - f) (by omega)).layL (ps := ps) hx k (by omega)
    obtain ⟨a, ha⟩ := Int.eq_ofNat_of_zero_le (hx k hk).1
    rw [ha] at h1 h2 e1 e2
    rw [Int.toNat_natCast] at e1 e2
    refine ⟨a, ha, i.rnd (by omega), ?_⟩
    rw [e1]
    unfold setV; rw [show (layL (clrV s f (t - f)) xs ps k).seg.toNat = g by rw [i.o.seg]; simp]
  have HFV : Hid (fillV s f t xs ps = layL (clrV s f (t - f)) xs ps xs.length) := Lib.hid rfl
  have HF0 : clrV s f (f - f) = s ∧ layL (clrV s f (t - f)) xs ps 0 = clrV s f (t - f) := ⟨by rw [Nat.sub_self]; rfl, rfl⟩
  have lf : (f : Int) ≤ 65536 := by omega
  have lt65 : (t : Int) ≤ 65536 := by omega
  generalize hC : (fun A => clrV s f (A - f)) = C at *
  have HC1 : Hid (∀ A, f ≤ A → A < t → Rnd (C A) g A ∧ (occB (C A).ws A = false → C (A + 1) = { C A with ks := (C A).ks.set A 0, vs := (C A).vs.set A 0 }) ∧
      (occB (C A).ws A = true → C (A + 1) = { C A with ws := putV (C A).ws A false, ks := (C A).ks.set A 0, vs := (C A).vs.set A 0, cs := (C A).cs.set (A / g) ((C A).cs.getD (A / g) 0 - 1) })) := Lib.hid (by rw [← hC]; exact HC1.out)
  generalize hD : layL (clrV s f (t - f)) xs ps = D at *
  have HC0 : Hid (C f = s ∧ D 0 = C t) := Lib.hid ⟨by rw [← hC]; exact HF0.1, by rw [HF0.2, ← hC]⟩
  rw [HFV.out]
  have HX := Lib.hid hrx
  have HP := Lib.hid hrp
  have HLEN := Lib.hid hlen
  have hg4 := o.g4
  have hg64 := o.g64
  clear hC hD HFV HF0 I W R N o hp hrx hrp htn hlen
  unfold sval at *
  go_enter Try.func62, Try.ntmps62
  go_wp2_with fail
  rw [twoW_fold]
  refine HT.out.mono ?_
  rintro e w1 ⟨h1, rfl, ho, hb⟩
  have hz0 := HS0.out
  have hsz := hb.size
  have HB1 : Hid (Below w.heap.size w w1) := Lib.hid (HB0.out.trans (hb.mono (by omega)))
  have HX1 := Lib.hid (HX0.out.below hb (by omega))
  have HD1 := Lib.hid (HZ0.out.below hb (by omega))
  rw [hz0] at ho hsz
  have HO1 := Lib.hid ho
  clear ho hb hz0 HB0 HX0 HZ0 HS0 HT
  generalize twoW w s h (.cells #[.int .i64 0, .slice Option.none 0 0, .slice Option.none 0 0, .slice Option.none 0 0, .slice Option.none 0 0, .int .u64 0] 27) = w0 at *
  have f0 := HX1.out.f 0; have f1 := HX1.out.f 1; have f2 := HX1.out.f 2; have f3 := HX1.out.f 3; have f4 := HX1.out.f 4; have f5 := HX1.out.f 5
  have c0 := HX1.out.c0; have c1 := HX1.out.c1; have c2 := HX1.out.c2; have c3 := HX1.out.c3; have c4 := HX1.out.c4; have c5 := HX1.out.c5
  go_wp2
  rw [stS_fold]
  have HBr : Hid (Brr (stS w1 w.heap.size s h1) (w.heap.size + 2) w.heap.size s h1) := Lib.hid (stS_brr HO1.out HX1.out (by omega) hsz)
  have HBw : Hid (Below w.heap.size w (stS w1 w.heap.size s h1)) := Lib.hid (stS_below HB1.out (Nat.le_refl _))
  have HDz : Hid (BoxZ (stS w1 w.heap.size s h1) (w.heap.size + 1)) := Lib.hid (stS_other HD1.out (by omega))
  clear c0 c1 c2 c3 c4 c5 f0 f1 f2 f3 f4 f5 HX1 HD1 HO1 HB1
  generalize stS w1 w.heap.size s h1 = wz at *
  go_loopw [11] (fun i wr => ∃ A : Nat, f ≤ A ∧ A ≤ t ∧ i = .int .i64 A ∧ FilI w wr (C A)) (fun i _ => t - (intOf i).toNat)
  case atStart => exact ⟨f, Nat.le_refl _, hft, rfl, h1, by rw [HC0.out.1]; exact HBr.out, HBw.out, HDz.out⟩
  case round =>
    obtain ⟨A, hA1, hA2, rfl, h2, hBr, hBl, hBx⟩ := hrel
    clear HBr HBw HDz
    have HBr := Lib.hid hBr
    have HBl := Lib.hid hBl
    have HBx := Lib.hid hBx
    clear hBr hBl hBx
    by_cases hlt : A < t
    · have wk1 : IntKind.i64.wrap ((A : Int) + 1) = ((A + 1 : Nat) : Int) := by rw [IntKind.wrap_i64]; omega
      obtain ⟨hR, hc1, hc2⟩ := HC1.out A hA1 hlt
      have HR := Lib.hid hR
      have HV1 := Lib.hid hc1
      have HV2 := Lib.hid hc2
      clear hR hc1 hc2 HC1 HC0 HLK
      have HIS := Lib.hid (sIs_any (C A) h2 A wr HR.out.u HBr.out.own.rd.fw HR.out.lw HR.out.in_)
      have HPU := Lib.hid (fun w1 (hr : Rd .u64 w1 h2.aw (C A).ws) (hn : h2.aw = Option.none → h2.cw = 0) => Put_ok h2.aw h2.cw (C A).ws A false w1 HR.out.u hr hn HR.out.lw HR.out.in_)
      generalize hT' : C (A + 1) = T' at *
      have HTT := Lib.hid hT'
      clear hT'
      generalize C A = T at *
      unfold sval at *
      have c0 := HBr.out.box.c0; have c1 := HBr.out.box.c1; have c2 := HBr.out.box.c2; have c3 := HBr.out.box.c3; have c4 := HBr.out.box.c4; have c5 := HBr.out.box.c5
      go_wp2_with fail
      clear c0 c1 c2 c3 c4 c5
      refine HIS.out.mono ?_
      rintro e w2 ⟨rfl, hb2⟩
      have HBr2 := Lib.hid (HBr.out.below hb2)
      have HBw2 : Hid (Below w.heap.size w w2) := Lib.hid (HBl.out.trans (hb2.mono HBl.out.size))
      have HD2 := Lib.hid (HBx.out.below hb2 (by have := HBr.out.hl; omega))
      clear HBr HBl HBx hb2 HIS
      have hta : A < T.ks.length := HR.out.hk
      have hav : A < T.vs.length := HR.out.hv
      cases hob : occB T.ws A
      case false =>
        have HV := Lib.hid (HV1.out hob)
        clear HV1 HV2 HPU
        have c0 := HBr2.out.box.c0; have c1 := HBr2.out.box.c1; have c2 := HBr2.out.box.c2; have c3 := HBr2.out.box.c3; have c4 := HBr2.out.box.c4; have c5 := HBr2.out.box.c5
        obtain ⟨gk, ek, x2, fk, lk⟩ := own_open HBr2.out.own.ok hta
        obtain ⟨gv, ev, x3, fv, lv⟩ := own_open HBr2.out.own.ov hav
        have hkv : gk ≠ gv := fun e => HBr2.out.own.kv gk (by rw [ek]; rfl) (by rw [ev, e]; rfl)
        have hkn : gk ≠ w.heap.size := by omega
        have hvn : gv ≠ w.heap.size := by omega
        have hkn1 : gk ≠ w.heap.size + 1 := by omega
        have hvn1 : gv ≠ w.heap.size + 1 := by omega
        have HK := Lib.hid (And.intro ek ev)
        rw [ek] at c2
        rw [ev] at c3
        clear ek ev
        go_wp2
        go_roundw
        case rel =>
          refine ⟨A + 1, by omega, by omega, by go_num, h2, by rw [HTT.out, HV.out]; exact (HBr2.out.set_k (j := A) 0 HK.out.1).set_v (j := A) 0 HK.out.2, ?_, ?_⟩
          · exact (HBw2.out.setCell (by show w.heap.size ≤ gk; omega) _).setCell (by show w.heap.size ≤ gv; omega) _
          · exact (HD2.out.other _ _ hkn1).other _ _ hvn1
        case measure => simp [intOf]; omega
      case true =>
        have HV := Lib.hid (HV2.out hob)
        clear HV1 HV2
        have hcn := HR.out.cnt
        have hjc := HR.out.hc
        have HSGI := Lib.hid HR.out.seg
        have hc1 := hcn.1
        have hc2 := hcn.2
        have c0 := HBr2.out.box.c0; have c1 := HBr2.out.box.c1; have c2 := HBr2.out.box.c2; have c3 := HBr2.out.box.c3; have c4 := HBr2.out.box.c4; have c5 := HBr2.out.box.c5
        obtain ⟨gc, ec, xc, fc, lc⟩ := own_open HBr2.out.own.oc hjc
        have HEC := Lib.hid ec
        rw [ec] at c4
        rw [HSGI.out] at c0
        have hn65 := HR.out.n1
        have ht : (A : Int).tdiv (g : Int) = ((A / g : Nat) : Int) := by rw [Int.tdiv_eq_ediv_of_nonneg (by omega)]; simp
        have hdl := Nat.div_le_self A g
        have wj : IntKind.i64.wrap ((A / g : Nat) : Int) = ((A / g : Nat) : Int) := by
          generalize A / g = jj at *
          rw [IntKind.wrap_i64]; omega
        have g0 : ((g : Int) == 0) = false := by rw [beq_eq_false_iff_ne]; omega
        have g1 : (g : Int) ≠ 0 := by omega
        have g2 : g ≠ 0 := by omega
        have HLT : Hid (∀ cx : Int, (T.cs.set (A / g) cx).length = T.cs.length) := Lib.hid fun cx => List.length_set
        clear HR
        generalize hcc : T.cs.getD (A / g) 0 = cx at *
        generalize A / g = j at *
        have wc : IntKind.i64.wrap (cx - 1) = cx - 1 := by rw [IntKind.wrap_i64]; omega
        clear hcn hcc ec hc1 hc2 hdl
        have hgn : gc ≠ w.heap.size := by omega
        go_wp2_with fail
        refine Mix.wp_region_plan (fun w' => w' = World.drew _) [10] [.dep (List.replicate 10 true)] (Array.replicate 10 true ++ #[false]) 1 mixed' (by kernel_rfl) (by kernel_rfl) (by kernel_rfl) (fun _ _ _ _ _ h => h) rfl ?_
        simp only [Mix.wpPlan, Mix.maskL, List.replicate]
        repeat (go_big_quiet_step (fail))
        refine wpQuiet_nil ?_
        refine Mix.wpAny_tail (List.replicate 10 false ++ [true]) (Array.replicate 11 true) (by kernel_rfl) (by kernel_rfl) ?_
        simp only [Mix.maskL, List.replicate, List.cons_append, List.nil_append]
        have HBr3 : Hid (Brr (w2.setCell ⟨gc, j, Option.none⟩ (.int .i64 (cx - 1))).drew (w.heap.size + 2) w.heap.size { T with cs := T.cs.set j (cx - 1) } h2) := Lib.hid (by have hh := HBr2.out.set_c (j := j) (cx - 1) HEC.out; exact hh.below (Below.refl _ _).drew)
        have HBw3 : Hid (Below w.heap.size w (w2.setCell ⟨gc, j, Option.none⟩ (.int .i64 (cx - 1))).drew) := Lib.hid (HBw2.out.setCell (p := ⟨gc, j, Option.none⟩) (by show w.heap.size ≤ gc; omega) _).drew
        have HD3 := Lib.hid ((HD2.out.other ⟨gc, j, Option.none⟩ (.int .i64 (cx - 1)) (by show gc ≠ w.heap.size + 1; omega)).below (Below.refl (w2.heap.size) _).drew (by have := HBr2.out.hl; omega))
        go_wp2_with fail
        clear c0 c1 c2 c3 c4 c5 xc fc hgn ht wj g0 g1 g2 wc
        generalize (w2.setCell ⟨gc, j, Option.none⟩ (.int .i64 (cx - 1))).drew = w3 at *
        refine (HPU.out w3 HBr3.out.own.rd.fw HBr3.out.own.no.w).mono ?_
        rintro e w4 ⟨v, rfl, hov, hb4⟩
        obtain ⟨a4, p4, rfl⟩ := own_slice hov
        have HBr4 : Hid (Brr (w4.setCell ⟨w.heap.size, 1, Option.none⟩ (.slice a4 T.ws.length p4)) (w.heap.size + 2) w.heap.size { T with ws := putV T.ws A false, cs := T.cs.set j (cx - 1) } { h2 with aw := a4, cw := p4 }) := Lib.hid (by
          have := HBr3.out.put_w (a := a4) (c := p4) (ws := putV T.ws A false) hb4 (putV_length _ _ _) (by rw [putV_length]; exact hov)
          rwa [putV_length] at this)
        have HBw4 : Hid (Below w.heap.size w w4) := Lib.hid (HBw3.out.trans (hb4.mono HBw3.out.size))
        have HD4 := Lib.hid (HD3.out.below hb4 (by have := HBr3.out.hl; omega))
        have HB4 := Lib.hid (HBr3.out.below hb4)
        clear hov hb4
        have c0 := HB4.out.box.c0; have c1 := HB4.out.box.c1; have c2 := HB4.out.box.c2; have c3 := HB4.out.box.c3; have c4 := HB4.out.box.c4; have c5 := HB4.out.box.c5
        obtain ⟨gk, ek, x2, fk, lk⟩ := own_open HB4.out.own.ok hta
        obtain ⟨gv, ev, x3, fv, lv⟩ := own_open HB4.out.own.ov hav
        have hkv : gk ≠ gv := fun e => HB4.out.own.kv gk (by rw [ek]; rfl) (by rw [ev, e]; rfl)
        have hkn : gk ≠ w.heap.size := by omega
        have hvn : gv ≠ w.heap.size := by omega
        have hkn1 : gk ≠ w.heap.size + 1 := by omega
        have hvn1 : gv ≠ w.heap.size + 1 := by omega
        have HK := Lib.hid (And.intro ek ev)
        rw [ek] at c2
        rw [ev] at c3
        clear ek ev
        rw [show (T.cs.set j (cx - 1)).length = T.cs.length from HLT.out _] at c4
        have ff := HB4.out.box.f 1
        go_wp2
        go_roundw
        case rel =>
          refine ⟨A + 1, by omega, by omega, by go_num, { h2 with aw := a4, cw := p4 }, by rw [HTT.out, HV.out]; exact (HBr4.out.set_k (j := A) 0 HK.out.1).set_v (j := A) 0 HK.out.2, ?_, ?_⟩
          · exact ((HBw4.out.setCell (by simp) _).setCell (by show w.heap.size ≤ gk; omega) _).setCell (by show w.heap.size ≤ gv; omega) _
          · exact ((HD4.out.other _ _ (by simp)).other _ _ hkn1).other _ _ hvn1
        case measure => simp [intOf]; omega
    · obtain rfl : A = t := by omega
      have hd0 := HC0.out.2
      rw [← hd0] at HBr
      clear hd0 hA2 hlt HC0 HC1
      go_wp2
      go_loopw [12] (fun i wr => ∃ k : Nat, k ≤ xs.length ∧ i = .int .i64 k ∧ FilI w wr (D k)) (fun i _ => xs.length - (intOf i).toNat)
      case atStart => exact ⟨0, Nat.zero_le _, rfl, h2, HBr.out, HBl.out, HBx.out⟩
      case round =>
        obtain ⟨k, hk, rfl, h3, hBr, hBl, hBx⟩ := hrel
        clear HBr HBl HBx
        have HBr := Lib.hid hBr
        have HBl := Lib.hid hBl
        have HBx := Lib.hid hBx
        clear hBr hBl hBx
        have hlen := HLEN.out
        by_cases hlt : k < xs.length
        · obtain ⟨bx, ox, rfl, hcx⟩ := Rd.at HX.out HBl.out (Nat.le_refl _) hlt
          have hlp : k < ps.length := by rw [← HLEN.out]; exact hlt
          obtain ⟨bp, op, rfl, hp1, hp2⟩ := Rd2.at HP.out HBl.out (Nat.le_refl _) hlp
          obtain ⟨a, ea, hR, hV⟩ := HLK.out k hlt
          have HR := Lib.hid hR
          have HV := Lib.hid hV
          have HAX : Hid (∀ w1, Below w.heap.size w w1 → w1.cell? ⟨bx, ox + k, Option.none⟩ = some (.int .i64 (a : Int))) := Lib.hid fun w1 hb => by rw [← ea]; exact Rd.cellAt HX.out hb (Nat.le_refl _) hlt
          have HAP : Hid (∀ w1, Below w.heap.size w w1 → w1.cell? ⟨bp, op + k * 2, Option.none⟩ = some (.int .i64 (ps.getD k (0, 0)).1) ∧ w1.cell? ⟨bp, op + k * 2 + 1, Option.none⟩ = some (.int .i64 (ps.getD k (0, 0)).2)) := Lib.hid fun w1 hb => Rd2.cellAt HP.out hb (Nat.le_refl _) hlp
          have HPU := Lib.hid (fun w1 (hr : Rd .u64 w1 h3.aw (D k).ws) (hn : h3.aw = Option.none → h3.cw = 0) => Put_ok h3.aw h3.cw (D k).ws a true w1 HR.out.u hr hn HR.out.lw HR.out.in_)
          have wk1 : IntKind.i64.wrap ((k : Int) + 1) = ((k + 1 : Nat) : Int) := by rw [IntKind.wrap_i64]; omega
          clear hR hV HLK hcx hp1 hp2 ea HX HP HLEN
          generalize hT' : D (k + 1) = T' at *
          have HTT := Lib.hid hT'
          clear hT'
          generalize D k = T at *
          generalize ps.getD k (0, 0) = pr at *
          obtain ⟨px, py⟩ := pr
          dsimp only at HAP HV
          have hta : a < T.ks.length := HR.out.hk
          have hav : a < T.vs.length := HR.out.hv
          have hl0 := HR.out.l
          have hl1 := hl0.1
          have hl2 := hl0.2
          clear hl0
          have hcx := HAX.out _ HBl.out
          have hcn := HR.out.cnt
          have hjc := HR.out.hc
          have HSGI := Lib.hid HR.out.seg
          have hc1 := hcn.1
          have hc2 := hcn.2
          have c0 := HBr.out.box.c0; have c1 := HBr.out.box.c1; have c2 := HBr.out.box.c2; have c3 := HBr.out.box.c3; have c4 := HBr.out.box.c4; have c5 := HBr.out.box.c5
          obtain ⟨gc, ec, xc, fc, lc⟩ := own_open HBr.out.own.oc hjc
          have HEC := Lib.hid ec
          rw [ec] at c4
          rw [HSGI.out] at c0
          have hn65 := HR.out.n1
          have ht : (a : Int).tdiv (g : Int) = ((a / g : Nat) : Int) := by rw [Int.tdiv_eq_ediv_of_nonneg (by omega)]; simp
          have hdl := Nat.div_le_self a g
          have wj : IntKind.i64.wrap ((a / g : Nat) : Int) = ((a / g : Nat) : Int) := by
            generalize a / g = jj at *
            rw [IntKind.wrap_i64]; omega
          have g0 : ((g : Int) == 0) = false := by rw [beq_eq_false_iff_ne]; omega
          have g1 : (g : Int) ≠ 0 := by omega
          have g2 : g ≠ 0 := by omega
          have HLT : Hid (∀ cx : Int, (T.cs.set (a / g) cx).length = T.cs.length) := Lib.hid fun cx => List.length_set
          clear HR
          generalize hcc : T.cs.getD (a / g) 0 = cx at *
          generalize a / g = j at *
          have wc : IntKind.i64.wrap (cx + 1) = cx + 1 := by rw [IntKind.wrap_i64]; omega
          clear hcn hcc ec hc1 hc2 hdl
          have hgn : gc ≠ w.heap.size := by omega
          go_wp2_with fail
          refine Mix.wp_region_plan (fun w' => w' = World.drew _) [13] [.dep (List.replicate 13 true)] (Array.replicate 13 true ++ #[false]) 1 mixed' (by kernel_rfl) (by kernel_rfl) (by kernel_rfl) (fun _ _ _ _ _ h => h) rfl ?_
          simp only [Mix.wpPlan, Mix.maskL, List.replicate]
          repeat (go_big_quiet_step (fail))
          refine wpQuiet_nil ?_
          refine Mix.wpAny_tail (List.replicate 13 false ++ [true]) (Array.replicate 14 true) (by kernel_rfl) (by kernel_rfl) ?_
          simp only [Mix.maskL, List.replicate, List.cons_append, List.nil_append]
          have HBr3 : Hid (Brr (wr.setCell ⟨gc, j, Option.none⟩ (.int .i64 (cx + 1))).drew (w.heap.size + 2) w.heap.size { T with cs := T.cs.set j (cx + 1) } h3) := Lib.hid (by have hh := HBr.out.set_c (j := j) (cx + 1) HEC.out; exact hh.below (Below.refl _ _).drew)
          have HBw3 : Hid (Below w.heap.size w (wr.setCell ⟨gc, j, Option.none⟩ (.int .i64 (cx + 1))).drew) := Lib.hid (HBl.out.setCell (p := ⟨gc, j, Option.none⟩) (by show w.heap.size ≤ gc; omega) _).drew
          have HD3 := Lib.hid ((HBx.out.other ⟨gc, j, Option.none⟩ (.int .i64 (cx + 1)) (by show gc ≠ w.heap.size + 1; omega)).below (Below.refl (wr.heap.size) _).drew (by have := HBr.out.hl; omega))
          go_wp2_with fail
          clear c0 c1 c2 c3 c4 c5 xc fc hgn ht wj g0 g1 g2 wc hcx HBr HBl HBx
          generalize (wr.setCell ⟨gc, j, Option.none⟩ (.int .i64 (cx + 1))).drew = w3 at *
          have c1 := HBr3.out.box.c1
          have hcx := HAX.out _ HBw3.out
          refine Mix.wp_region_plan (fun w' => w' = World.drew _) [6] [.dep [true, true, true, true, true, true]] (Array.replicate 6 true ++ #[false, false, false]) 3 mixed' (by kernel_rfl) (by kernel_rfl) (by kernel_rfl) (fun _ _ _ _ _ h => h) rfl ?_
          simp only [Mix.wpPlan, Mix.maskL, List.replicate]
          repeat (go_big_quiet_step (fail))
          refine wpQuiet_nil ?_
          refine Mix.wpAny_tail [false, false, false, false, false, false, true, true, true] (Array.replicate 9 true) (by kernel_rfl) (by kernel_rfl) ?_
          simp only [Mix.maskL, List.replicate, List.cons_append, List.nil_append]
          go_wp2_with fail
          clear c1 hcx
          have HB3 : Hid (Below w.heap.size w w3.drew) := Lib.hid HBw3.out.drew
          have HBr3 := Lib.hid (HBr3.out.below (Below.refl _ _).drew)
          have HD3 := Lib.hid (HD3.out.below (Below.refl (w3.heap.size) _).drew (by have := HBr3.out.hl; simp at this; omega))
          clear HBw3
          generalize w3.drew = w3 at *
          refine (HPU.out _ HBr3.out.own.rd.fw HBr3.out.own.no.w).mono ?_
          rintro e w4 ⟨v, rfl, hov, hb4⟩
          obtain ⟨a4, p4, rfl⟩ := own_slice hov
          have HBr4 : Hid (Brr (w4.setCell ⟨w.heap.size, 1, Option.none⟩ (.slice a4 T.ws.length p4)) (w.heap.size + 2) w.heap.size { T with ws := putV T.ws a true, cs := T.cs.set j (cx + 1) } { h3 with aw := a4, cw := p4 }) := Lib.hid (by
            have := HBr3.out.put_w (a := a4) (c := p4) (ws := putV T.ws a true) hb4 (putV_length _ _ _) (by rw [putV_length]; exact hov)
            rwa [putV_length] at this)
          have HBw4 : Hid (Below w.heap.size w (w4.setCell ⟨w.heap.size, 1, Option.none⟩ (.slice a4 T.ws.length p4))) := Lib.hid ((HB3.out.trans (hb4.mono HB3.out.size)).setCell (by simp) _)
          have HD4 := Lib.hid ((HD3.out.below hb4 (by have := HBr3.out.hl; omega)).other ⟨w.heap.size, 1, Option.none⟩ (.slice a4 T.ws.length p4) (by simp))
          have c1 := (HBr3.out.below hb4).box.c1
          have ff := (HBr3.out.below hb4).box.f 1
          clear hov hb4 HBr3 HB3 HD3 HPU
          go_wp2_with fail
          clear c1 ff
          generalize w4.setCell ⟨w.heap.size, 1, Option.none⟩ (.slice a4 T.ws.length p4) = w5 at *
          obtain ⟨gk, ek, x2, fk, lk⟩ := own_open HBr4.out.own.ok hta
          have HK := Lib.hid ek
          have c2 := HBr4.out.box.c2
          rw [ek] at c2
          clear ek
          have hcx := HAX.out _ HBw4.out
          have hpx := (HAP.out _ HBw4.out).1
          refine Mix.wp_region_plan (fun w' => w' = World.drew _) [12] [.dep (List.replicate 12 true)] (Array.replicate 12 true ++ #[false]) 1 mixed' (by kernel_rfl) (by kernel_rfl) (by kernel_rfl) (fun _ _ _ _ _ h => h) rfl ?_
          simp only [Mix.wpPlan, Mix.maskL, List.replicate]
          repeat (go_big_quiet_step (fail))
          refine wpQuiet_nil ?_
          refine Mix.wpAny_tail (List.replicate 12 false ++ [true]) (Array.replicate 13 true) (by kernel_rfl) (by kernel_rfl) ?_
          simp only [Mix.maskL, List.replicate, List.cons_append, List.nil_append]
          have HBr5 : Hid (Brr (w5.setCell ⟨gk, a, Option.none⟩ (.int .i64 px)).drew (w.heap.size + 2) w.heap.size { T with ws := putV T.ws a true, ks := T.ks.set a px, cs := T.cs.set j (cx + 1) } { h3 with aw := a4, cw := p4 }) := Lib.hid ((HBr4.out.set_k (j := a) px HK.out).below (Below.refl _ _).drew)
          have HBw5 : Hid (Below w.heap.size w (w5.setCell ⟨gk, a, Option.none⟩ (.int .i64 px)).drew) := Lib.hid (HBw4.out.setCell (p := ⟨gk, a, Option.none⟩) (by show w.heap.size ≤ gk; omega) _).drew
          have HD5 := Lib.hid ((HD4.out.other ⟨gk, a, Option.none⟩ (.int .i64 px) (by show gk ≠ w.heap.size + 1; omega)).below (Below.refl (w5.heap.size) _).drew (by have := HBr4.out.hl; omega))
          go_wp2_with fail
          clear c2 x2 fk hcx hpx HBr4 HBw4 HD4 HK lk
          generalize (w5.setCell ⟨gk, a, Option.none⟩ (.int .i64 px)).drew = w6 at *
          obtain ⟨gv, ev, x3, fv, lv⟩ := own_open HBr5.out.own.ov hav
          have HK := Lib.hid ev
          have c3 := HBr5.out.box.c3
          rw [ev] at c3
          clear ev
          have hcx := HAX.out _ HBw5.out
          have hpy := (HAP.out _ HBw5.out).2
          refine Mix.wp_region_plan (fun w' => w' = World.drew _) [12] [.dep (List.replicate 12 true)] (Array.replicate 12 true ++ #[false]) 1 mixed' (by kernel_rfl) (by kernel_rfl) (by kernel_rfl) (fun _ _ _ _ _ h => h) rfl ?_
          simp only [Mix.wpPlan, Mix.maskL, List.replicate]
          repeat (go_big_quiet_step (fail))
          refine wpQuiet_nil ?_
          refine Mix.wpAny_tail (List.replicate 12 false ++ [true]) (Array.replicate 13 true) (by kernel_rfl) (by kernel_rfl) ?_
          simp only [Mix.maskL, List.replicate, List.cons_append, List.nil_append]
          have HBr6 : Hid (Brr (w6.setCell ⟨gv, a, Option.none⟩ (.int .i64 py)) (w.heap.size + 2) w.heap.size { T with ws := putV T.ws a true, ks := T.ks.set a px, vs := T.vs.set a py, cs := T.cs.set j (cx + 1) } { h3 with aw := a4, cw := p4 }) := Lib.hid (HBr5.out.set_v (j := a) py HK.out)
          have HBw6 : Hid (Below w.heap.size w (w6.setCell ⟨gv, a, Option.none⟩ (.int .i64 py))) := Lib.hid (HBw5.out.setCell (p := ⟨gv, a, Option.none⟩) (by show w.heap.size ≤ gv; omega) _)
          have HD6 := Lib.hid (HD5.out.other ⟨gv, a, Option.none⟩ (.int .i64 py) (by show gv ≠ w.heap.size + 1; omega))
          have c5 : w6.cell? ⟨w.heap.size, 5, Option.none⟩ = some (.int .u64 T.laid) := HBr5.out.box.c5
          have ff : w6.frozen? ⟨w.heap.size, 5, Option.none⟩ = false := HBr5.out.box.f 5
          have hgn : gv ≠ w.heap.size := by omega
          go_wp2
          go_roundw
          case rel =>
            refine ⟨k + 1, by omega, by go_num, { h3 with aw := a4, cw := p4 }, by rw [HTT.out, HV.out]; exact (HBr6.out.set_laid (IntKind.u64.wrap (T.laid + 1))).below (Below.refl _ _).drew, ?_, ?_⟩
            · exact (HBw6.out.setCell (by simp) _).drew
            · exact (HD6.out.other ⟨w.heap.size, 5, Option.none⟩ _ (by simp)).below (Below.refl (w6.heap.size) _).drew (by have := HBr5.out.hl; omega)
          case measure => simp [intOf]; omega
        · obtain rfl : k = xs.length := by omega
          clear hk hlt HLK
          have c0 := HBr.out.box.c0; have c1 := HBr.out.box.c1; have c2 := HBr.out.box.c2; have c3 := HBr.out.box.c3; have c4 := HBr.out.box.c4; have c5 := HBr.out.box.c5
          obtain ⟨d0, d1, d2, d3, d4, d5, f⟩ := HBx.out
          have f0 := f 0; have f1 := f 1; have f2 := f 2; have f3 := f 3; have f4 := f 4; have f5 := f 5
          clear f
          generalize hL : D xs.length = L at *
          have HL := Lib.hid hL
          clear hL
          go_wp2
          have B6 := stS_own (s := L) (h := h3) HBr.out.own (show w.heap.size + 1 < w.heap.size + 2 by omega)
          refine bodyPost_ret (v := .agg #[.int .i64 L.seg, .slice h3.aw L.ws.length h3.cw, .slice h3.ak L.ks.length h3.ck, .slice h3.av L.vs.length h3.cv, .slice h3.ac L.cs.length h3.cc, .int .u64 L.laid]) (by clear B6; simp [results, Try.results62, go_sem, *]) rfl ⟨h3, by rw [HL.out], ?_, ?_⟩
          · rw [HL.out]; exact B6.mono (by omega) (by simp)
          · exact stS_below (p := w.heap.size + 1) (s := L) (h := h3) HBl.out (by omega)
end Go.Proofs.Ytfokbkkgokioeaa.Slo

namespace Go.Proofs.Ytfokbkkgokioeaa.Slo
open Go.RowKit Go.Shelf Go.Sort Go.Proofs.Ytfokbkkgokioeaa Go.Proofs.Ytfokbkkgokioeaa.Occ Go.Proofs.Ytfokbkkgokioeaa.Frac
attribute [local go_sem] Oper.semAt_some

/-- A part that may be filled, as the document tells it. -/
theorem partB_ends {f t : Int} {xs : List Int} : partB f t xs = true ↔ risesB xs = true ∧ (0 < xs.length → f ≤ xs.getD 0 0 ∧ xs.getD (xs.length - 1) 0 < t) := by
  constructor
  · intro h
    have hr := rises_of h
    refine ⟨risesB_iff.2 fun i hi => hr i (i + 1) (by omega) hi, fun hl => ⟨partB_ge h 0 hl, (partB_iff.1 h (xs.length - 1) (by omega)).2⟩⟩
  · rintro ⟨h1, h2⟩
    have hr : ∀ j k, j < k → k < xs.length → xs.getD j 0 < xs.getD k 0 := by
      intro j k hjk hk
      induction k with
      | zero => omega
      | succ k ih =>
        have h3 := risesB_iff.1 h1 k hk
        rcases Nat.lt_or_ge j k with h | h
        · have := ih h (by omega); omega
        · obtain rfl : j = k := by omega
          exact h3
    refine partB_iff.2 fun k hk => ?_
    obtain ⟨h3, h4⟩ := h2 (by omega)
    constructor
    · unfold prevV
      by_cases e : k = 0
      · subst e; rw [if_pos rfl]; omega
      · rw [if_neg e]; exact hr (k - 1) k (by omega) hk
    · by_cases e : k = xs.length - 1
      · rw [e]; exact h4
      · have := hr k (xs.length - 1) (by omega) (by omega); omega

end Go.Proofs.Ytfokbkkgokioeaa.Slo

namespace Go.Proofs.Ytfokbkkgokioeaa.Slo
open Go.RowKit Go.Shelf Go.Sort Go.Proofs.Ytfokbkkgokioeaa Go.Proofs.Ytfokbkkgokioeaa.Occ Go.Proofs.Ytfokbkkgokioeaa.Frac

/-- A pair as it comes in. -/
structure Pr where
  k : Int
  v : Int
def Pr.val (p : Pr) : Value := .agg #[.int .i64 p.k, .int .i64 p.v]
structure Pr.Ok (p : Pr) : Prop where
  wk : (Lit.int .i64 p.k).wf = true
  wv : (Lit.int .i64 p.v).wf = true
/-- The two boxes. -/
def inP (w : World) (s : Sl) (h : Hd) (a b : Int) : World := allocP (allocS w s h) a b
theorem inP_below (w : World) (s : Sl) (h : Hd) (a b : Int) : Below w.heap.size w (inP w s h a b) :=
  (allocS_below w s h).trans ((allocP_below _ a b).mono (by rw [allocS_size]; omega))
theorem inP_bs (w : World) (s : Sl) (h : Hd) (a b : Int) : BS (inP w s h a b) w.heap.size s h := (allocS_bs w s h).next (allocP_below _ a b)
theorem inP_bp (w : World) (s : Sl) (h : Hd) (a b : Int) : BP (inP w s h a b) (w.heap.size + 1) a b := by
  have := allocP_bp (allocS w s h) a b
  rwa [allocS_size] at this
/-- No longer than another. -/
structure LenLe (x s : Sl) : Prop where
  w : x.ws.length ≤ s.ws.length
  k : x.ks.length ≤ s.ks.length
  v : x.vs.length ≤ s.vs.length
  c : x.cs.length ≤ s.cs.length
theorem LenLe.refl (s : Sl) : LenLe s s := ⟨Nat.le_refl _, Nat.le_refl _, Nat.le_refl _, Nat.le_refl _⟩
theorem LenLe.trans {a b c : Sl} (h : LenLe a b) (k : LenLe b c) : LenLe a c := ⟨Nat.le_trans h.w k.w, Nat.le_trans h.k k.k, Nat.le_trans h.v k.v, Nat.le_trans h.c k.c⟩
theorem lenLe_none (s : Sl) : LenLe noneS s := ⟨Nat.zero_le _, Nat.zero_le _, Nat.zero_le _, Nat.zero_le _⟩
theorem lenLe_take (s : Sl) (a : Nat) : LenLe (takeV s a) s := by
  refine ⟨?_, ?_, ?_, ?_⟩ <;> unfold takeV <;> dsimp only
  · rw [putV_length]; exact Nat.le_refl _
  · rw [List.length_set]; exact Nat.le_refl _
  · rw [List.length_set]; exact Nat.le_refl _
  · split
    · rw [List.length_set]; exact Nat.le_refl _
    · exact Nat.le_refl _
theorem lenLe_set (s : Sl) (a : Nat) (x y : Int) : LenLe (setV s a x y) s := by
  refine ⟨?_, ?_, ?_, ?_⟩ <;> unfold setV <;> dsimp only
  · rw [putV_length]; exact Nat.le_refl _
  · rw [List.length_set]; exact Nat.le_refl _
  · rw [List.length_set]; exact Nat.le_refl _
  · rw [List.length_set]; exact Nat.le_refl _
theorem lenLe_lay (s : Sl) (a : Nat) (x y : Int) : LenLe (layV s a x y) s := (lenLe_set _ a x y).trans (lenLe_take s a)
theorem lenLe_clr (s : Sl) (f : Nat) : ∀ k, LenLe (clrV s f k) s
  | 0 => LenLe.refl s
  | k + 1 => (lenLe_take _ _).trans (lenLe_clr s f k)
theorem lenLe_layL (s : Sl) (xs : List Int) (ps : List (Int × Int)) : ∀ k, LenLe (layL s xs ps k) s
  | 0 => LenLe.refl s
  | k + 1 => (lenLe_lay _ _ _ _).trans (lenLe_layL s xs ps k)
theorem lenLe_fill (s : Sl) (f t : Nat) (xs : List Int) (ps : List (Int × Int)) : LenLe (fillV s f t xs ps) s := (lenLe_layL _ xs ps _).trans (lenLe_clr s f _)
theorem lenLe_laySV (s : Sl) (a x y : Int) : LenLe (laySV s a x y).1 s := by
  unfold laySV; split
  · exact lenLe_lay _ _ _ _
  · exact lenLe_none s
theorem lenLe_clearSV (s : Sl) (a : Int) : LenLe (clearSV s a).1 s := by
  unfold clearSV; split <;> first | exact lenLe_take _ _ | exact lenLe_none s
theorem lenLe_moveSV (s : Sl) (a b : Int) : LenLe (moveSV s a b).1 s := by
  unfold moveSV; split
  · exact lenLe_none s
  · split
    · exact lenLe_none s
    · split
      · exact lenLe_none s
      · exact (lenLe_lay _ _ _ _).trans (lenLe_take _ _)
theorem lenLe_fillSV (s : Sl) (f t : Int) (xs : List Int) (ps : List (Int × Int)) : LenLe (fillSV s f t xs ps).1 s := by
  unfold fillSV; split
  · exact lenLe_none s
  · split
    · exact lenLe_none s
    · exact lenLe_fill _ _ _ _ _
/-- Whether two of one number are the same: they are. -/
theorem same_refl (s : Sl) (h1 h2 : Hd) (w1 : World) (R1 : SRd w1 s h1) (R2 : SRd w1 s h2) (l : s.ws.length ≤ 1000000000 ∧ s.ks.length ≤ 1000000000 ∧ s.vs.length ≤ 1000000000 ∧ s.cs.length ≤ 1000000000) :
    Calls Try.prog 13 #[sval s h1, sval s h2] w1 fun e w' => e = .returned (.bool true) ∧ Below w1.heap.size w1 w' := by
  have h := sRefSame_any s s h1 h2 w1 R1 R2 l ⟨by omega, by omega, by omega, by omega⟩
  rwa [sameB_refl] at h
end Go.Proofs.Ytfokbkkgokioeaa.Slo

namespace Go.Proofs.Ytfokbkkgokioeaa
open Go.RowKit Go.Shelf
attribute [local go_sem] Oper.semAt_some

theorem infoIc : (Try.prog.info? 3).map (fun i => (i.zero, i.size, i.bytes)) = some (some (.int .i64 0), 1, 8) := by kernel_rfl

set_option maxRecDepth 100000 in
set_option maxHeartbeats 2000000 in
theorem appendSeq_ints (g : Nat) (lb : Array Value) (eg : ∀ args w, (callFunc g args).run Try.prog w = .ok (.enter g args) w) (n0 lo hi N : Nat) (S Sp : List Int → Prop) (w : World) (hn0 : n0 ≤ w.heap.size) (hhi : hi ≤ w.heap.size) (hN : N ≤ 1000000)
    (hseq : SeqStopsK Fence.wide 1 Try.prog g lb (fun x : Int => #[Value.int .i64 x]) (Keeps n0 lo hi) S Sp N w) :
    Calls Try.prog 85 #[.slice Option.none 0 0, .func (.func g) #[] lb] w fun e w' => ∃ v xs, e = .returned v ∧ S xs ∧ w'.ownsRow w.heap.size 3 1 v xs.length (xs.map (Value.int .i64)) ∧ Below w.heap.size w w' := by
  obtain ⟨i0, hi', hz0, hz1, hz2⟩ := info_parts infoIc
  refine (callsIn_wide (n := 2)).1 ?_
  refine callsIn_of_wp_marks Try.func85 rfl trivial ?_ rfl
  simp only [Try.ntmps85, List.size_toArray, List.length_cons, List.length_nil, Nat.reduceAdd, Nat.reduceSub, Array.replicate_succ, Array.replicate_zero, List.push_toArray, List.append_toArray, List.nil_append, List.cons_append]
  gi_wp2
  have bO := Boxed.new w 24 (.slice Option.none 0 0)
  have hB0 : Below w.heap.size w (w.alloc (.cells #[.slice Option.none 0 0] 24)) := (Below.refl _ w).alloc (Nat.le_refl _) _
  refine wpIn_rangeFunc_ownG rfl (by decide) (gf := g) (lb := lb) rfl trivial eg
    hseq Keeps.t (Keeps.b (by simp; omega) (by simp; omega)) hB0 (fun _ => rfl)
    (fun pre W => (∃ v, Boxed W w.heap.size 24 v ∧ W.ownsRow w.heap.size 3 1 v pre.length (pre.map (Value.int .i64)) ∧ True) ∧ Below w.heap.size w W)
    (fun _ _ _ => False)
    (OwnFrom.and (Own.from (holdsRow_own w.heap.size w.heap.size 24 3 1 (fun pre : List Int => pre.length) (fun pre => pre.map (Value.int .i64)) (fun _ _ => True)) _) (ownFrom_below (Nat.le_refl _) (by simp)))
    (fun _ _ _ _ _ hs _ _ => hs)
    ⟨⟨_, bO, World.ownsRow_nil _ _ _ _, trivial⟩, hB0⟩
    (fun x => { tmps := #[.slice Option.none 0 0, .func (.func g) #[] lb, .pointer (some ⟨w.heap.size, 0, Option.none⟩), undef, .slice Option.none 0 0, .int .i64 x, .func (.func g) #[] lb, .int .i64 x, undef, undef, undef, undef, undef], defers := [] }) ?assign ?body ?done ?stop
  case assign =>
    intro l x W K hK
    gi_wp2
    exact hK
  case body =>
    rintro l pre x W ⟨⟨v, hv, hrow, -⟩, hB⟩ hlt
    have hc := hv.cell
    gi_wp2_with (gi_at_builtin; refine wpListIn_append_own _ rfl _ _ 24 rfl w.heap.size 3 i0 (.int .i64 0) 1 8 Try.underlying24 hi' hz0 hz1 hz2 rfl (by decide) _ _ _ rfl (hrow.alloc _) ⟨W.heap.size, 0, Option.none⟩ 1 1 [.int .i64 x] rfl rfl (cell_one_new _ _ _) (by simp [Value.oneCell']) (by unfold maxLen; omega) (by omega) (by have := hB.size; simp; omega) ?_; intro v' w1 hown' hgrow _; obtain ⟨g', cap', rfl⟩ := ownsRow_succ hown'; obtain ⟨hv1, hv2, hr2, hk2, hb2⟩ := hv.appended (by decide) hrow hB.size (Nat.le_refl _) hown' hgrow; have hc1 := hv1.cell; have hf1 := hv1.frozen)
    exact ⟨hk2.from _, Keeps.of_below hb2 hn0 hhi, ⟨_, hv2, by simpa using hr2, trivial⟩, hB.trans hb2⟩
  case done =>
    rintro D ys W hD hS ⟨⟨v, hv, hrow, -⟩, hB⟩ hK
    have hc := hv.cell
    gi_wp2
    refine ⟨by simp, .inl ⟨_, _, rfl, run_takeDeferred hK, ?_⟩⟩
    exact ⟨_, results_tmp rfl _ _ _, v, ys, rfl, hS, ownsRow_putObj hrow _ hK rfl, hB.trans (belowK_b (w := w) (Nat.le_refl _) W D _ _ (by simp at hD; omega) hK rfl rfl)⟩
  case stop =>
    rintro D c pre W _ _ h _
    exact h.elim

set_option maxHeartbeats 1000000 in
theorem collect_ints (g : Nat) (lb : Array Value) (eg : ∀ args w, (callFunc g args).run Try.prog w = .ok (.enter g args) w) (n0 lo hi N : Nat) (S Sp : List Int → Prop) (w : World) (hn0 : n0 ≤ w.heap.size) (hhi : hi ≤ w.heap.size) (hN : N ≤ 1000000)
    (hseq : SeqStopsK Fence.wide 1 Try.prog g lb (fun x : Int => #[Value.int .i64 x]) (Keeps n0 lo hi) S Sp N w) :
    Calls Try.prog 74 #[.func (.func g) #[] lb] w fun e w' => ∃ v xs, e = .returned v ∧ S xs ∧ w'.ownsRow w.heap.size 3 1 v xs.length (xs.map (Value.int .i64)) ∧ Below w.heap.size w w' := by
  go_enter Try.func74, Try.ntmps74
  go_wp2_with fail
  refine (appendSeq_ints g lb eg n0 lo hi N S Sp w hn0 hhi hN hseq).mono ?_
  rintro e w1 ⟨v, xs, rfl, hS, hrow, hb⟩
  have HR := Lib.hid hrow
  clear hrow
  go_wp2
  go_ret
  exact ⟨v, xs, rfl, hS, HR.out, hb⟩
end Go.Proofs.Ytfokbkkgokioeaa

namespace Go.Proofs.Ytfokbkkgokioeaa.Spr
open Go.RowKit Go.Shelf Go.Proofs.Ytfokbkkgokioeaa
attribute [local go_sem] Oper.semAt_some

theorem mixed : Try.prog.follows .mixedOrders = true := by kernel_rfl

/-- The place of a thing. -/
def place (n f d i : Nat) : Nat := f + i * d / n
def placesL (n f d : Nat) : List Int := upto (fun i => ((place n f d i : Nat) : Int)) n

set_option maxRecDepth 100000 in
set_option maxHeartbeats 2000000 in
theorem places1_in (m l Bn Bf Bt n0 lo hi n f t d : Nat) (hd : t = f + d) (ht : t ≤ 65536) (hnd : n ≤ d) (b1 : lo ≤ Bn ∧ Bn < hi) (b2 : lo ≤ Bf ∧ Bf < hi) (b3 : lo ≤ Bt ∧ Bt < hi) (J Jx : List Int → World → Prop) (hJd : ∀ pre W, J pre W → J pre W.drew)
    (hY : ∀ pre x W, J pre W → pre.length < n → YieldAt Fence.wide (m - 1) Try.prog l #[.int .i64 x] W fun e W' =>
      (e = .returned (.bool true) ∧ J (pre ++ [x]) W' ∧ Keeps n0 lo hi W W') ∨ (e = .returned (.bool false) ∧ Jx (pre ++ [x]) W'))
    (W : World) (hcn : W.cell? ⟨Bn, 0, Option.none⟩ = some (.int .i64 n)) (hcf : W.cell? ⟨Bf, 0, Option.none⟩ = some (.int .i64 f)) (hct : W.cell? ⟨Bt, 0, Option.none⟩ = some (.int .i64 t)) (h0 : J [] W) :
    CallsIn Fence.wide m Try.prog 86 #[.func (.yield l) #[] #[], .pointer (some ⟨Bn, 0, Option.none⟩), .pointer (some ⟨Bf, 0, Option.none⟩), .pointer (some ⟨Bt, 0, Option.none⟩)] W fun e W' => (∃ v, e = .returned v) ∧
      ((∃ ys, ys = placesL n f d ∧ J ys W') ∨ (∃ pre, pre <+: placesL n f d ∧ Jx pre W')) := by
  have hdi : (t : Int) - (f : Int) = (d : Int) := by omega
  have HD := Lib.hid hd
  clear hd
  refine callsIn_of_wp Try.func86 rfl trivial ?_ rfl
  simp only [Try.ntmps86, List.size_toArray, List.length_cons, List.length_nil, Nat.reduceAdd, Nat.reduceSub, Array.replicate_succ, Array.replicate_zero, List.push_toArray, List.append_toArray, List.nil_append, List.cons_append]
  gi_wp2
  gi_loopw [7] (fun i wr => ∃ k : Nat, k ≤ n ∧ i = .int .i64 k ∧ J (upto (fun i => ((place n f d i : Nat) : Int)) k) wr ∧ (∀ b o, lo ≤ b → b < hi → wr.cell? ⟨b, o, Option.none⟩ = W.cell? ⟨b, o, Option.none⟩)) (fun i _ => n - (intOf i).toNat)
  case atStart => exact ⟨0, Nat.zero_le _, rfl, h0, fun _ _ _ _ => rfl⟩
  case round =>
    obtain ⟨k, hk, rfl, hJs, hsame⟩ := hrel
    by_cases hlt : k < n
    · have c1 := (hsame Bn 0 b1.1 b1.2).trans hcn
      have c2 := (hsame Bf 0 b2.1 b2.2).trans hcf
      have c3 := (hsame Bt 0 b3.1 b3.2).trans hct
      have HS := Lib.hid hsame
      have p0 : 0 ≤ (k : Int) * (d : Int) := Int.mul_nonneg (by omega) (by omega)
      have p1 : (k : Int) * (d : Int) ≤ 65536 * 65536 := Int.mul_le_mul (by omega) (by omega) (by omega) (by omega)
      have hq : (k : Int) * (d : Int) / (n : Int) = ((k * d / n : Nat) : Int) := by simp
      have hq1 : k * d / n ≤ 65536 * 65536 := Nat.le_trans (Nat.div_le_self _ _) (by have : ((k * d : Nat) : Int) = (k : Int) * (d : Int) := by simp
                                                                                     omega)
      obtain ⟨fn, tmps, assign, body, hy, hR⟩ := hY _ ((place n f d k : Nat) : Int) wr.drew (hJd _ _ hJs) (by rw [upto_length]; exact hlt)
      have hpl : ((place n f d k : Nat) : Int) = (f : Int) + ((k * d / n : Nat) : Int) := by unfold place; omega
      rw [hpl] at hy
      have HP := Lib.hid hpl
      have w1 : IntKind.i64.wrap (d : Int) = (d : Int) := by rw [IntKind.wrap_i64]; omega
      have w2 : IntKind.i64.wrap ((k : Int) * (d : Int)) = (k : Int) * (d : Int) := by rw [IntKind.wrap_i64]; omega
      have w3 : ((k : Int) * (d : Int)).tdiv (n : Int) = ((k * d / n : Nat) : Int) := by rw [Int.tdiv_eq_ediv_of_nonneg p0]; exact hq
      have w4 : IntKind.i64.wrap ((k * d / n : Nat) : Int) = ((k * d / n : Nat) : Int) := by rw [IntKind.wrap_i64]; omega
      have w5 : IntKind.i64.wrap ((f : Int) + ((k * d / n : Nat) : Int)) = (f : Int) + ((k * d / n : Nat) : Int) := by rw [IntKind.wrap_i64]; omega
      have n0 : ((n : Int) == 0) = false := by rw [beq_eq_false_iff_ne]; omega
      have n1 : (n : Int) ≠ 0 := by omega
      have n2 : n ≠ 0 := by omega
      clear hpl hsame hq
      generalize k * d / n = q at *
      gi_wp2
      refine wpIn_region_still_tail 10 mixed (by kernel_rfl) ?_
      simp only [List.take_succ_cons, List.take_zero, List.drop_succ_cons, List.drop_zero]
      repeat still_step
      refine wpStill_nil ?_
      gi_wp2
      refine ⟨fun h => (by cases h), hR.mono ?_⟩
      rintro e W3 (⟨rfl, hJ3, hk3⟩ | ⟨rfl, hJx3⟩)
      · gi_wp2
        go_roundw
        case rel => exact ⟨k + 1, by omega, by go_num, by rw [upto_succ]; exact hJ3, fun b o h1 h2 => (hk3.cell h1 h2).trans (HS.out b o h1 h2)⟩
        case measure => simp [intOf]; omega
      · gi_wp2
        refine bodyPost_ret (results_none rfl _ _ _) rfl ?_
        exact ⟨⟨_, rfl⟩, .inr ⟨_, upto_prefix _ (show k + 1 ≤ n by omega), by rw [upto_succ]; exact hJx3⟩⟩
    · obtain rfl : k = n := by omega
      clear hsame
      gi_wp2
      go_end0
      exact ⟨⟨_, rfl⟩, .inl ⟨_, rfl, hJs⟩⟩

theorem placesL_length (n f d : Nat) : (placesL n f d).length = n := upto_length _ _

/-- The world behind it. -/
def boxed (w : World) (n f t : Int) : World := ((w.alloc (.cells #[.int .i64 n] 3)).alloc (.cells #[.int .i64 f] 3)).alloc (.cells #[.int .i64 t] 3)
set_option maxHeartbeats 1000000 in
/-- The iterator's value: three boxes. -/
theorem places_any (n f t : Int) (w : World) :
    Calls Try.prog 75 #[.int .i64 n, .int .i64 f, .int .i64 t] w fun e w' => e = .returned (.func (.func 86) #[] #[.pointer (some ⟨w.heap.size, 0, Option.none⟩), .pointer (some ⟨w.heap.size + 1, 0, Option.none⟩), .pointer (some ⟨w.heap.size + 2, 0, Option.none⟩)]) ∧
      boxed w n f t = w' := by
  go_enter Try.func75, Try.ntmps75
  go_wp2
  go_ret
  exact ⟨rfl, rfl⟩

theorem boxed_size (w : World) (n f t : Int) : (boxed w n f t).heap.size = w.heap.size + 3 := by simp [boxed]
theorem boxed_below (w : World) (n f t : Int) : Below w.heap.size w (boxed w n f t) := (((Below.refl _ w).alloc (Nat.le_refl _) _).alloc (by simp) _).alloc (by simp; omega) _
theorem boxed_cells (w : World) (n f t : Int) : (boxed w n f t).cell? ⟨w.heap.size, 0, Option.none⟩ = some (.int .i64 n) ∧ (boxed w n f t).cell? ⟨w.heap.size + 1, 0, Option.none⟩ = some (.int .i64 f) ∧ (boxed w n f t).cell? ⟨w.heap.size + 2, 0, Option.none⟩ = some (.int .i64 t) := by
  have a1 := Boxed.new w 3 (.int .i64 n)
  have a2 := Boxed.new (w.alloc (.cells #[.int .i64 n] 3)) 3 (.int .i64 f)
  have a3 := Boxed.new ((w.alloc (.cells #[.int .i64 n] 3)).alloc (.cells #[.int .i64 f] 3)) 3 (.int .i64 t)
  simp only [World.size_alloc] at a2 a3
  exact ⟨((a1.alloc _).alloc _).cell, (a2.alloc _).cell, a3.cell⟩

/-- The places come one behind the other; or a part of them, a round having said 'no more'. -/
theorem places_stops (m n0 n f t d : Nat) (w : World) (hd : t = f + d) (ht : t ≤ 65536) (hnd : n ≤ d) :
    SeqStopsK Fence.wide m Try.prog 86 #[.pointer (some ⟨w.heap.size, 0, Option.none⟩), .pointer (some ⟨w.heap.size + 1, 0, Option.none⟩), .pointer (some ⟨w.heap.size + 2, 0, Option.none⟩)] (fun x : Int => #[Value.int .i64 x]) (Keeps n0 w.heap.size (w.heap.size + 3)) (fun ys => ys = placesL n f d) (fun pre => pre <+: placesL n f d) n (boxed w n f t) := fun l J Jx W hW hJ _ hY h0 => by
  obtain ⟨c1, c2, c3⟩ := boxed_cells w n f t
  have hs := boxed_size w n f t
  exact places1_in m l _ _ _ n0 w.heap.size (w.heap.size + 3) n f t d hd ht hnd (by omega) (by omega) (by omega) J Jx (fun pre W h => hJ pre W W.drew Option.none h ⟨rfl, rfl, rfl, Nat.le_refl _, fun _ _ _ => rfl⟩ (fun r e => by cases e)) hY W ((hW.cell (p := ⟨w.heap.size, 0, Option.none⟩) (by show w.heap.size < _; omega)).trans c1) ((hW.cell (p := ⟨w.heap.size + 1, 0, Option.none⟩) (by show w.heap.size + 1 < _; omega)).trans c2) ((hW.cell (p := ⟨w.heap.size + 2, 0, Option.none⟩) (by show w.heap.size + 2 < _; omega)).trans c3) h0

end Go.Proofs.Ytfokbkkgokioeaa.Spr

namespace Go.Proofs.Ytfokbkkgokioeaa.Spr

def mayB (n f t : Int) : Bool := decide (0 ≤ f) && decide (f ≤ t) && decide (t ≤ 65536) && decide (0 ≤ n) && decide (n ≤ t - f)
theorem mayB_iff {n f t : Int} : mayB n f t = true ↔ 0 ≤ f ∧ f ≤ t ∧ t ≤ 65536 ∧ 0 ≤ n ∧ n ≤ t - f := by
  unfold mayB; simp only [Bool.and_eq_true, decide_eq_true_eq]; omega
theorem mayB_false {n f t : Int} (h : ¬ (0 ≤ f ∧ f ≤ t ∧ t ≤ 65536 ∧ 0 ≤ n ∧ n ≤ t - f)) : mayB n f t = false := by
  rw [Bool.eq_false_iff]; exact fun g => h (mayB_iff.1 g)

/-- How many of n numbers i have i * d / n below y. -/
def cnt (n d y : Nat) : Nat := (List.range n).countP (fun i => decide (i * d / n < y))
theorem add_div_le (a b : Nat) {c : Nat} (hc : 0 < c) : a / c + b / c ≤ (a + b) / c := by
  rw [Nat.le_div_iff_mul_le hc, Nat.add_mul]
  have := Nat.div_mul_le_self a c
  have := Nat.div_mul_le_self b c
  omega
def ceilD (a b : Nat) : Nat := (a + b - 1) / b

theorem lt_ceilD (i a b : Nat) (hb : 0 < b) : i < ceilD a b ↔ i * b < a := by
  unfold ceilD
  rw [Nat.lt_iff_add_one_le, Nat.le_div_iff_mul_le hb, Nat.add_mul]
  omega
theorem countP_lt (n c : Nat) : (List.range n).countP (fun i => decide (i < c)) = min n c := by
  induction n with
  | zero => simp
  | succ n ih =>
    rw [List.range_succ, List.countP_append, ih]
    by_cases h : n < c
    · simp [h]; omega
    · simp [h]; omega
theorem cnt_min (n d y : Nat) (hd : 0 < d) : cnt n d y = min n (ceilD (y * n) d) := by
  rw [← countP_lt]
  unfold cnt
  apply List.countP_congr
  intro i hi
  have hn : 0 < n := by have := List.mem_range.1 hi; omega
  rw [decide_eq_true_eq, decide_eq_true_eq, lt_ceilD _ _ _ hd, Nat.div_lt_iff_lt_mul hn]
theorem ceilD_le (a b c : Nat) (hb : 0 < b) (h : a ≤ c * b) : ceilD a b ≤ c := by
  rcases Nat.lt_or_ge c (ceilD a b) with g | g
  · rw [lt_ceilD _ _ _ hb] at g; omega
  · exact g
/-- Of equal parts. -/
theorem cnt_part (n parts w j : Nat) (hp : 0 < parts) (hw : 0 < w) (hj : j ≤ parts) : cnt n (parts * w) (j * w) = ceilD (j * n) parts := by
  have hd : 0 < parts * w := Nat.mul_pos hp hw
  rw [cnt_min _ _ _ hd]
  have e : ceilD (j * w * n) (parts * w) = ceilD (j * n) parts := by
    have key : ∀ i, i < ceilD (j * w * n) (parts * w) ↔ i < ceilD (j * n) parts := fun i => by
      rw [lt_ceilD _ _ _ hd, lt_ceilD _ _ _ hp, ← Nat.mul_assoc, Nat.mul_right_comm j w n]
      exact ⟨fun h => Nat.lt_of_mul_lt_mul_right h, fun h => Nat.mul_lt_mul_of_pos_right h hw⟩
    have h1 := key (ceilD (j * w * n) (parts * w))
    have h2 := key (ceilD (j * n) parts)
    omega
  rw [e]
  have := ceilD_le (j * n) parts n hp (by rw [Nat.mul_comm n]; exact Nat.mul_le_mul_right _ hj)
  omega
theorem ceilD_full (n parts : Nat) (hp : 0 < parts) : ceilD (parts * n) parts = n := by
  have key : ∀ i, i < ceilD (parts * n) parts ↔ i < n := fun i => by
    rw [lt_ceilD _ _ _ hp, Nat.mul_comm parts]
    exact ⟨fun h => Nat.lt_of_mul_lt_mul_right h, fun h => Nat.mul_lt_mul_of_pos_right h hp⟩
  have h1 := key (ceilD (parts * n) parts)
  have h2 := key n
  omega
theorem ceilD_zero (b : Nat) (hb : 0 < b) : ceilD 0 b = 0 := by
  unfold ceilD; rw [Nat.zero_add]; exact Nat.div_eq_of_lt (by omega)
theorem ceilD_mono {a a' b : Nat} (h : a ≤ a') : ceilD a b ≤ ceilD a' b := Nat.div_le_div_right (by omega)
/-- A part's share is rounded down or up. -/
theorem share_bounds (n parts k : Nat) (hp : 0 < parts) : n / parts ≤ ceilD ((k + 1) * n) parts - ceilD (k * n) parts ∧ ceilD ((k + 1) * n) parts - ceilD (k * n) parts ≤ ceilD n parts := by
  have hm := ceilD_mono (b := parts) (show k * n ≤ (k + 1) * n from Nat.mul_le_mul_right _ (by omega))
  constructor
  · have : ceilD (k * n) parts + n / parts ≤ ceilD ((k + 1) * n) parts := by
      unfold ceilD
      rw [Nat.add_mul, Nat.one_mul, show k * n + n + parts - 1 = (k * n + parts - 1) + n by omega]
      exact add_div_le _ _ hp
    omega
  · have : ceilD ((k + 1) * n) parts ≤ ceilD (k * n) parts + ceilD n parts := by
      refine ceilD_le _ _ _ hp ?_
      have g : ∀ a, a ≤ ceilD a parts * parts := fun a => by
        rcases Nat.lt_or_ge (ceilD a parts * parts) a with h | h
        · rw [← lt_ceilD _ _ _ hp] at h; omega
        · exact h
      have h1 := g (k * n)
      have h2 := g n
      rw [Nat.add_mul, Nat.add_mul]
      omega
    omega

/-! ### Neighbours -/
theorem step_bounds (d n i : Nat) (hn : 0 < n) : i * d / n + d / n ≤ (i + 1) * d / n ∧ (i + 1) * d / n ≤ i * d / n + (d + n - 1) / n := by
  constructor
  · rw [Nat.add_mul, Nat.one_mul]; exact add_div_le _ _ hn
  · rw [Nat.add_mul, Nat.one_mul]
    have h1 : i * d < (i * d / n + 1) * n := by rw [Nat.add_mul, Nat.one_mul]; have := Nat.div_add_mod (i * d) n; have := Nat.mod_lt (i * d) hn; rw [Nat.mul_comm n] at *; omega
    have h2 : d ≤ (d + n - 1) / n * n := by
      rcases Nat.lt_or_ge ((d + n - 1) / n * n) d with h | h
      · rw [show (d + n - 1) / n = ceilD d n from rfl, ← lt_ceilD _ _ _ hn] at h
        exact absurd h (Nat.lt_irrefl _)
      · exact h
    have h3 : (i * d + d) / n < i * d / n + 1 + (d + n - 1) / n := by
      rw [Nat.div_lt_iff_lt_mul hn, Nat.add_mul]
      omega
    omega
theorem place_mono {d n i j : Nat} (h : i ≤ j) : i * d / n ≤ j * d / n := Nat.div_le_div_right (Nat.mul_le_mul_right _ h)
theorem last_place (d n : Nat) (hn : 0 < n) : n * d / n = d := Nat.mul_div_cancel_left _ hn

end Go.Proofs.Ytfokbkkgokioeaa.Spr
