/- Contracts of package slots: a pair is laid into a slot. Contracts of package slots: asked, part; Lay. Contracts of package slots: Lay. Lists of pairs of numbers in memory: each pair two cells. Operations whose guards say no: inside the wide fence. A range over an iterator whose loop variable lies in a box. 'slices.Collect' of pairs, against whatever iterator. -/
import Derived.Test.YtljfbhkoppahaaaDoorMag
import Derived.Laws.StructEq
set_option linter.unusedSimpArgs false
set_option linter.unusedVariables false
namespace Go.Proofs.YtljfbhkoppahaaaDoor.Slo
open Go.RowKit Go.Proofs.YtljfbhkoppahaaaDoor Go.Proofs.YtljfbhkoppahaaaDoor.Occ Go.Proofs.YtljfbhkoppahaaaDoor.Frac

theorem set_wd {s : Sl} {a g : Nat} {kx vx : Int} (hsg : s.seg.toNat = g) : setV s a kx vx = { s with ws := s.ws.set (a / 64) ((turn (wd s.ws (a / 64)) (a % 64) true : Nat) : Int), ks := s.ks.set a kx, vs := s.vs.set a vx, cs := s.cs.set (a / g) (s.cs.getD (a / g) 0 + 1), laid := IntKind.u64.wrap (s.laid + 1) } := by
  unfold setV putV; rw [hsg]

set_option maxRecDepth 100000 in
set_option maxHeartbeats 4000000 in
theorem lay_any (lo hi p : Nat) (s : Sl) (h : Hd) (g q a : Nat) (kx vx : Int) (w : World) (A : Arr w lo hi p s h) (o : Ok s g q) (hu : U64 s.ws) (hl : 0 ≤ s.laid ∧ s.laid < 18446744073709551616) (ha : a < s.ks.length) :
    Calls Tryd.prog 40 #[.pointer (some ⟨p, 0, Option.none⟩), .int .i64 a, .agg #[.int .i64 kx, .int .i64 vx]] w fun e w' => e = .returned (.tuple #[]) ∧ Arr w' lo hi p (layV s a kx vx) h ∧ Keeps lo (p + 1) w.heap.size w w' := by
  have HB1 : Hid (Below w.heap.size w (w.alloc (.cells #[.int .i64 kx, .int .i64 vx] 43))) := Lib.hid ((Below.refl _ w).alloc (Nat.le_refl _) _)
  have HA1 := Lib.hid (A.below HB1.out)
  have HR1 := Lib.hid (Res.new w kx vx 43)
  have HT := Lib.hid (take_any lo hi p s h g q a _ HA1.out o hu ha)
  have hlo : lo ≤ w.heap.size := by have := A.low; have := A.pb; have := A.pl; omega
  have hpl := A.pl
  have hpb := A.pb
  have HO := Lib.hid (o.take hu ha)
  have HU := Lib.hid (take_u hu a)
  have HTO : Hid (occB (takeV s a).ws a = false) := Lib.hid (by rw [take_occ o hu ha, if_pos rfl])
  have ha' : a < (takeV s a).ks.length := by rw [take_len]; exact ha
  have HL : Hid (0 ≤ (takeV s a).laid ∧ (takeV s a).laid < 18446744073709551616) := Lib.hid hl
  have HVL : Hid (layV s a kx vx = setV (takeV s a) a kx vx) := Lib.hid rfl
  clear A o hu hl ha
  generalize takeV s a = t at *
  obtain ⟨aw, cw, ak, ck, av, cv, ac, cc⟩ := h
  go_enter Tryd.func40, Tryd.ntmps40
  go_wp2_with fail
  refine HT.out.mono ?_
  rintro e w2 ⟨rfl, hA2, hk⟩
  have HR2 : Hid (Res w2 w.heap.size kx vx) := Lib.hid (by
    have e0 := hk.cell (b := w.heap.size) (o := 0) (by omega) (by simp)
    have e1 := hk.cell (b := w.heap.size) (o := 1) (by omega) (by simp)
    refine ⟨e0.trans HR1.out.a0, e1.trans HR1.out.a1, fun j => ?_⟩
    have : w2.frozen? ⟨w.heap.size, j, Option.none⟩ = (w.alloc (.cells #[.int .i64 kx, .int .i64 vx] 43)).frozen? ⟨w.heap.size, j, Option.none⟩ := World.frozen?_of_block (hk.kept w.heap.size (by omega) (by simp))
    rw [this]; exact HR1.out.f j)
  have HB2 : Hid (Keeps lo (p + 1) w.heap.size w w2) := Lib.hid ((Keeps.of_below HB1.out hlo (Nat.le_refl _)).t ⟨hk.below, fun k h1 h2 => hk.kept k (by omega) (by simp; omega)⟩)
  have hws : w.heap.size < w2.heap.size := by have := hk.below.size; simp at this; omega
  have HWS := Lib.hid hws
  clear hk HB1 HA1 HT HR1 hws
  have hi64 : a / 64 < t.ws.length := by have := HO.out.w; omega
  have hav : a < t.vs.length := by rw [HO.out.v]; exact ha'
  have hj := (seg_of HO.out.g4 HO.out.n ha').1
  have hjc : a / g < t.cs.length := by rw [HO.out.c]; exact hj
  obtain ⟨gw, gk, gv, gc, ⟨rfl, rfl, rfl, rfl⟩, -, -, ⟨l1, l2, l3, l4⟩, ⟨u1, u2, u3, u4⟩⟩ := hA2.open hi64 ha' hav hjc
  have HA2 := Lib.hid hA2
  clear hA2
  have hx := wd_of HU.out (a / 64)
  have hwd := wd_int HU.out (a / 64)
  have hcnt := HO.out.count ha'
  have hn1 := HO.out.n1
  have hsg : t.seg.toNat = g := by rw [HO.out.seg]; simp
  have hsgi := HO.out.seg
  have hg4 := HO.out.g4
  have hg64 := HO.out.g64
  have hm64 : a % 64 < 64 := Nat.mod_lt _ (by decide)
  have h2k : 2 ^ (a % 64) < 18446744073709551616 := Nat.pow_lt_pow_right (n := 64) (by decide) hm64
  have e1 : bits .or .u64 ((wd t.ws (a / 64) : Nat) : Int) ((2 : Int) ^ (a % 64)) = ((turn (wd t.ws (a / 64)) (a % 64) true : Nat) : Int) := by
    have := bits_or_u64_nat (wd t.ws (a / 64)) (2 ^ (a % 64)) hx h2k
    rw [turn_on _ _ hx hm64, clr_or _ _ hx hm64, ← this]; congr 1
  have e4 : IntKind.u64.wrap ((2 : Int) ^ (a % 64)) = (2 : Int) ^ (a % 64) := by
    rw [show (2 : Int) ^ (a % 64) = ((2 ^ (a % 64) : Nat) : Int) by simp]
    generalize 2 ^ (a % 64) = pp at *
    rw [IntKind.wrap_u64]; omega
  have hd : (a : Int) / 64 = ((a / 64 : Nat) : Int) := rfl
  have hmm : (a : Int) % 64 = ((a % 64 : Nat) : Int) := rfl
  have ht : (a : Int).tdiv (g : Int) = ((a / g : Nat) : Int) := by rw [Int.tdiv_eq_ediv_of_nonneg (by omega)]; simp
  have wj : IntKind.i64.wrap ((a / g : Nat) : Int) = ((a / g : Nat) : Int) := by
    have hdl := Nat.div_le_self a g
    generalize a / g = jj at *
    rw [IntKind.wrap_i64]; omega
  have g0 : ((g : Int) == 0) = false := by rw [beq_eq_false_iff_ne]; omega
  have g1 : (g : Int) ≠ 0 := by omega
  have g2 : g ≠ 0 := by omega
  have HV : Hid (setV t a kx vx = _) := Lib.hid (set_wd hsg)
  have hc0 := hcnt.1
  have hc64 := hcnt.2.1
  have w1 : IntKind.i64.wrap (t.cs.getD (a / g) 0 + 1) = t.cs.getD (a / g) 0 + 1 := by rw [IntKind.wrap_i64]; omega
  clear HO HU HTO hcnt hsg hj
  generalize hnw : t.ws.length = nw at *
  generalize hnk : t.ks.length = nk at *
  generalize hnv : t.vs.length = nv at *
  generalize hnc : t.cs.length = nc at *
  have HN := Lib.hid (And.intro hnw (And.intro hnk (And.intro hnv hnc)))
  clear hnw hnk hnv hnc
  generalize hxx : wd t.ws (a / 64) = x at *
  generalize hii : a / 64 = i at *
  generalize hmm2 : a % 64 = m at *
  generalize hjj : a / g = j at *
  clear hxx hii hmm2 hjj
  generalize hz : turn x m true = z at *
  clear hz
  have HWD := Lib.hid hwd
  have HSG := Lib.hid hsgi
  clear hwd hsgi
  generalize hcc : t.cs.getD j 0 = cx at *
  have HKV := Lib.hid hcc
  clear hcc
  obtain ⟨⟨x1, x2, x3, x4⟩, ⟨f1, f2, f3, f4⟩, b0, b1, b2, b3, b4⟩ := HA2.out.at HN.out.1 HN.out.2.1 HN.out.2.2.1 HN.out.2.2.2 hi64 ha' hav hjc
  rw [HSG.out] at b0
  rw [HKV.out] at x4
  clear x1 x2 x3 f1 f2 f3 b1 b2 b3
  go_wp2_with fail
  refine Mix.wp_region_plan (fun w' => w' = World.drew _) [16] [.dep [true, true, true, true, true, true, true, true, true, true, true, true, true, true, true, true]] (Array.replicate 16 true ++ Array.replicate 1 false) 1 mixed' (by kernel_rfl) (by kernel_rfl) (by kernel_rfl) (fun _ _ _ _ _ h => h) rfl ?_
  simp only [Mix.wpPlan, Mix.maskL]
  repeat (go_big_quiet_step (fail))
  refine wpQuiet_nil ?_
  refine Mix.wpAny_tail [false, false, false, false, false, false, false, false, false, false, false, false, false, false, false, false, true] (Array.replicate 17 true) (by kernel_rfl) (by kernel_rfl) ?_
  simp only [Mix.maskL]
  go_wp2_with fail
  have HA3 := Lib.hid ((HA2.out.set_c (j := j) (cx + 1) rfl).drew)
  have HR3 := Lib.hid ((HR2.out.set ⟨gc, j, Option.none⟩ (.int .i64 (cx + 1)) (by show gc ≠ w.heap.size; omega)).drew)
  have HB3 := Lib.hid (keeps_drew (HB2.out.setCell ⟨gc, j, Option.none⟩ l4 (.inl (by show gc < p + 1; omega)) (.int .i64 (cx + 1))))
  have HWS3 : Hid (w.heap.size < (w2.setCell ⟨gc, j, Option.none⟩ (.int .i64 (cx + 1))).drew.heap.size) := Lib.hid (by simpa using HWS.out)
  clear x4 f4 b0 b4 HA2 HR2 HB2 HWS
  generalize (w2.setCell ⟨gc, j, Option.none⟩ (.int .i64 (cx + 1))).drew = w3 at *
  obtain ⟨⟨x1, x2, x3, x4⟩, ⟨f1, f2, f3, f4⟩, b0, b1, b2, b3, b4⟩ := HA3.out.at (i := i) (a := a) (j := j) (nw := nw) (nk := nk) (nv := nv) (nc := nc) (by first | exact HN.out.1 | (show (List.set _ _ _).length = _; rw [List.length_set]; exact HN.out.1)) (by first | exact HN.out.2.1 | (show (List.set _ _ _).length = _; rw [List.length_set]; exact HN.out.2.1)) (by first | exact HN.out.2.2.1 | (show (List.set _ _ _).length = _; rw [List.length_set]; exact HN.out.2.2.1)) (by first | exact HN.out.2.2.2 | (show (List.set _ _ _).length = _; rw [List.length_set]; exact HN.out.2.2.2)) hi64 ha' hav hjc
  have x1' : w3.cell? ⟨gw, i, Option.none⟩ = some (.int .u64 (x : Int)) := by rw [← HWD.out]; exact x1
  clear x1 x2 x3 x4 f2 f3 f4 b0 b2 b3 b4
  refine Mix.wp_region_plan (fun w' => w' = World.drew _) [14] [.dep [true, true, true, true, true, true, true, true, true, true, true, true, true, true]] (Array.replicate 14 true ++ Array.replicate 1 false) 1 mixed' (by kernel_rfl) (by kernel_rfl) (by kernel_rfl) (fun _ _ _ _ _ h => h) rfl ?_
  simp only [Mix.wpPlan, Mix.maskL]
  repeat (go_big_quiet_step (fail))
  refine wpQuiet_nil ?_
  refine Mix.wpAny_tail [false, false, false, false, false, false, false, false, false, false, false, false, false, false, true] (Array.replicate 15 true) (by kernel_rfl) (by kernel_rfl) ?_
  simp only [Mix.maskL]
  go_wp2_with fail
  have HA4 := Lib.hid ((HA3.out.set_w (j := i) (z : Int) rfl).drew)
  have HR4 := Lib.hid ((HR3.out.set ⟨gw, i, Option.none⟩ (.int .u64 (z : Int)) (by show gw ≠ w.heap.size; omega)).drew)
  have HB4 := Lib.hid (keeps_drew (HB3.out.setCell ⟨gw, i, Option.none⟩ l1 (.inl (by show gw < p + 1; omega)) (.int .u64 (z : Int))))
  have HWS4 : Hid (w.heap.size < (w3.setCell ⟨gw, i, Option.none⟩ (.int .u64 (z : Int))).drew.heap.size) := Lib.hid (by simpa using HWS3.out)
  clear x1' f1 b1 HA3 HR3 HB3 HWS3
  generalize (w3.setCell ⟨gw, i, Option.none⟩ (.int .u64 (z : Int))).drew = w4 at *
  obtain ⟨⟨x1, x2, x3, x4⟩, ⟨f1, f2, f3, f4⟩, b0, b1, b2, b3, b4⟩ := HA4.out.at (i := i) (a := a) (j := j) (nw := nw) (nk := nk) (nv := nv) (nc := nc) (by first | exact HN.out.1 | (show (List.set _ _ _).length = _; rw [List.length_set]; exact HN.out.1)) (by first | exact HN.out.2.1 | (show (List.set _ _ _).length = _; rw [List.length_set]; exact HN.out.2.1)) (by first | exact HN.out.2.2.1 | (show (List.set _ _ _).length = _; rw [List.length_set]; exact HN.out.2.2.1)) (by first | exact HN.out.2.2.2 | (show (List.set _ _ _).length = _; rw [List.length_set]; exact HN.out.2.2.2)) hi64 ha' hav hjc
  have r0 := HR4.out.a0
  have r1 := HR4.out.a1
  have b5 := HA4.out.b5
  have fb5 := HA4.out.fz 5
  have hne : gk ≠ gv := fun e => HA4.out.own.kv gk rfl (by rw [e]; rfl)
  have hne2 : gv ≠ gk := fun e => hne e.symm
  have hp1 : gk ≠ p := by omega
  have hp2 : gv ≠ p := by omega
  have hr1 : gk ≠ w.heap.size := by omega
  have hr2 : gv ≠ w.heap.size := by omega
  generalize hla : IntKind.u64.wrap (t.laid + 1) = la at *
  clear x1 x4 f1 f4 b0 b1 b4
  have na : ∀ b o, gk ≠ b → (⟨gk, a, Option.none⟩ : Addr) ≠ ⟨b, o, Option.none⟩ := fun b o hb e => hb (by cases e; rfl)
  have HNA := Lib.hid na
  clear na
  have k2 := Mix.maySet_cell (w := w4.drew) (q := ⟨gk, a, Option.none⟩) b2 (HNA.out _ _ hp1)
  have k3 := Mix.maySet_cell (w := w4.drew) (q := ⟨gk, a, Option.none⟩) b3 (HNA.out _ _ hp1)
  have kr0 := Mix.maySet_cell (w := w4.drew) (q := ⟨gk, a, Option.none⟩) r0 (HNA.out _ _ hr1)
  have kr1 := Mix.maySet_cell (w := w4.drew) (q := ⟨gk, a, Option.none⟩) r1 (HNA.out _ _ hr1)
  refine Mix.wp_region_plan (fun w' => ∃ o, w' = Mix.maySet w4.drew ⟨gk, a, Option.none⟩ o) [18] [.dep (List.replicate 17 true), .run (List.replicate 17 false ++ [true])] (Array.replicate 18 true ++ Array.replicate 2 false) 2 mixed' (by kernel_rfl) (by kernel_rfl) (by kernel_rfl) (fun _ _ _ _ _ h => h) ⟨Option.none, rfl⟩ ?_
  simp only [Mix.wpPlan, Mix.maskL, List.replicate, List.cons_append, List.nil_append]
  repeat (go_big_quiet_step (fail))
  refine wpQuiet_nil ?_
  clear k2 k3 kr0 kr1
  unfold Mix.wpListS
  go_wp2_with fail
  refine ⟨⟨some (.int .i64 kx), rfl⟩, ?_⟩
  unfold Mix.wpListS
  refine Mix.wpAny_tail (List.replicate 18 false ++ List.replicate 2 true) (Array.replicate 20 true) (by kernel_rfl) (by kernel_rfl) ?_
  simp only [Mix.maskL, List.replicate, List.cons_append, List.nil_append]
  go_wp2
  go_end0
  refine ⟨rfl, ?_, ?_⟩
  · have := ((((HA4.out.set_k (j := a) kx rfl).set_v (j := a) vx rfl)).set_laid la).drew
    rw [HVL.out, HV.out]
    exact this
  · exact keeps_drew (((HB4.out.setCell ⟨gk, a, Option.none⟩ l2 (.inl (by show gk < p + 1; omega)) (.int .i64 kx)).setCell ⟨gv, a, Option.none⟩ l3 (.inl (by show gv < p + 1; omega)) (.int .i64 vx)).setCell ⟨p, 5, Option.none⟩ (by show lo ≤ p; omega) (.inl (Nat.lt_succ_self p)) (.int .u64 la))

end Go.Proofs.YtljfbhkoppahaaaDoor.Slo

namespace Go.Proofs.YtljfbhkoppahaaaDoor.Slo
open Go.RowKit Go.Proofs.YtljfbhkoppahaaaDoor Go.Proofs.YtljfbhkoppahaaaDoor.Occ Go.Proofs.YtljfbhkoppahaaaDoor.Frac
attribute [local go_sem] sval

def askS (s : Sl) (b : Bool) : Int := if okS s = true then (if b = true then 0 else 2) else 8
theorem askS_ok {s : Sl} {b : Bool} (h : askS s b = 0) : okS s = true ∧ b = true := by
  unfold askS at h
  by_cases h1 : okS s = true
  · rw [if_pos h1] at h
    cases b with
    | true => exact ⟨h1, rfl⟩
    | false => cases h
  · rw [if_neg h1] at h; cases h
theorem askS_yes {s : Sl} {b : Bool} (h1 : okS s = true) (h2 : b = true) : askS s b = 0 := by unfold askS; rw [if_pos h1, if_pos h2]
theorem askS_place {s : Sl} {b : Bool} (h1 : okS s = true) (h2 : b = false) : askS s b = 2 := by unfold askS; rw [if_pos h1, h2]; rfl
theorem askS_bad {s : Sl} {b : Bool} (h1 : okS s = false) : askS s b = 8 := by unfold askS; rw [h1]; rfl
theorem chkS_yes {s : Sl} (h : okS s = true) : chkS s = 0 := by unfold chkS; rw [if_pos h]
theorem chkS_no {s : Sl} (h : okS s = false) : chkS s = 8 := by unfold chkS; rw [h]; rfl

set_option maxRecDepth 100000 in
set_option maxHeartbeats 2000000 in
theorem sAsked_any (s : Sl) (h : Hd) (a : Int) (w : World) (W : s.Wf) (R : SRd w s h) :
    Calls Tryd.prog 38 #[sval s h, .int .i64 a] w fun e w' => e = .returned (.int .i64 (askS s (atB s.ks.length a))) ∧ Below w.heap.size w w' := by
  have HC := Lib.hid (fun w1 (hb : Below w.heap.size w w1) => sCheck_any s h w1 W (R.mono hb (Nat.le_refl _)))
  have HB : Hid (∀ o, Below w.heap.size w (w.alloc o)) := Lib.hid fun o => (Below.refl _ w).alloc (Nat.le_refl _) _
  clear W R
  cases hk : okS s
  · rw [askS_bad hk]
    rw [chkS_no hk] at HC
    clear hk
    unfold sval at *
    go_enter Tryd.func38, Tryd.ntmps38
    go_wp2_with fail
    refine (HC.out _ (HB.out _)).mono ?_
    rintro e w' ⟨rfl, hb⟩
    have HB2 := Lib.hid ((HB.out _).trans (hb.mono (HB.out _).size))
    clear hb
    go_wp2
    go_ret
    exact ⟨rfl, HB2.out⟩
  · rw [chkS_yes hk] at HC
    by_cases h0 : a < 0
    · rw [askS_place hk (by rw [Bool.eq_false_iff]; intro g; have := (atB_iff.1 g).1; omega)]
      clear hk
      unfold sval at *
      go_enter Tryd.func38, Tryd.ntmps38
      go_wp2_with fail
      refine (HC.out _ (HB.out _)).mono ?_
      rintro e w' ⟨rfl, hb⟩
      have HB2 := Lib.hid ((HB.out _).trans (hb.mono (HB.out _).size))
      clear hb
      go_wp2
      go_ret
      exact ⟨rfl, HB2.out⟩
    · by_cases h1 : (s.ks.length : Int) ≤ a
      · rw [askS_place hk (by rw [Bool.eq_false_iff]; intro g; have := (atB_iff.1 g).2; omega)]
        clear hk
        unfold sval at *
        generalize s.ks.length = n at *
        go_enter Tryd.func38, Tryd.ntmps38
        go_wp2_with fail
        refine (HC.out _ (HB.out _)).mono ?_
        rintro e w' ⟨rfl, hb⟩
        have HB2 := Lib.hid ((HB.out _).trans (hb.mono (HB.out _).size))
        obtain ⟨c0, c1, c2, c3, c4, c5⟩ := box6 (wr := w') (by simpa using hb)
        clear hb c0 c1 c3 c4 c5
        go_wp2
        go_ret
        exact ⟨rfl, HB2.out⟩
      · rw [askS_yes hk (atB_iff.2 ⟨by omega, by omega⟩)]
        clear hk
        unfold sval at *
        generalize s.ks.length = n at *
        go_enter Tryd.func38, Tryd.ntmps38
        go_wp2_with fail
        refine (HC.out _ (HB.out _)).mono ?_
        rintro e w' ⟨rfl, hb⟩
        have HB2 := Lib.hid ((HB.out _).trans (hb.mono (HB.out _).size))
        obtain ⟨c0, c1, c2, c3, c4, c5⟩ := box6 (wr := w') (by simpa using hb)
        clear hb c0 c1 c3 c4 c5
        go_wp2
        go_ret
        exact ⟨rfl, HB2.out⟩

set_option maxRecDepth 100000 in
set_option maxHeartbeats 2000000 in
theorem sPart_any (s : Sl) (h : Hd) (f t : Int) (w : World) (W : s.Wf) (R : SRd w s h) :
    Calls Tryd.prog 41 #[sval s h, .int .i64 f, .int .i64 t] w fun e w' => e = .returned (.int .i64 (askS s (inB s.ks.length f t))) ∧ Below w.heap.size w w' := by
  have HC := Lib.hid (fun w1 (hb : Below w.heap.size w w1) => sCheck_any s h w1 W (R.mono hb (Nat.le_refl _)))
  have HB : Hid (∀ o, Below w.heap.size w (w.alloc o)) := Lib.hid fun o => (Below.refl _ w).alloc (Nat.le_refl _) _
  clear W R
  cases hk : okS s
  · rw [askS_bad hk]
    rw [chkS_no hk] at HC
    clear hk
    unfold sval at *
    go_enter Tryd.func41, Tryd.ntmps41
    go_wp2_with fail
    refine (HC.out _ (HB.out _)).mono ?_
    rintro e w' ⟨rfl, hb⟩
    have HB2 := Lib.hid ((HB.out _).trans (hb.mono (HB.out _).size))
    clear hb
    go_wp2
    go_ret
    exact ⟨rfl, HB2.out⟩
  · rw [chkS_yes hk] at HC
    by_cases h0 : f < 0
    · rw [askS_place hk (by rw [Bool.eq_false_iff]; intro g; have := (inB_iff.1 g).1; omega)]
      clear hk
      unfold sval at *
      go_enter Tryd.func41, Tryd.ntmps41
      go_wp2_with fail
      refine (HC.out _ (HB.out _)).mono ?_
      rintro e w' ⟨rfl, hb⟩
      have HB2 := Lib.hid ((HB.out _).trans (hb.mono (HB.out _).size))
      clear hb
      go_wp2
      go_ret
      exact ⟨rfl, HB2.out⟩
    · by_cases h1 : t < f
      · rw [askS_place hk (by rw [Bool.eq_false_iff]; intro g; have := (inB_iff.1 g).2; omega)]
        clear hk
        unfold sval at *
        go_enter Tryd.func41, Tryd.ntmps41
        go_wp2_with fail
        refine (HC.out _ (HB.out _)).mono ?_
        rintro e w' ⟨rfl, hb⟩
        have HB2 := Lib.hid ((HB.out _).trans (hb.mono (HB.out _).size))
        clear hb
        go_wp2
        go_ret
        exact ⟨rfl, HB2.out⟩
      · by_cases h2 : (s.ks.length : Int) < t
        · rw [askS_place hk (by rw [Bool.eq_false_iff]; intro g; have := (inB_iff.1 g).2; omega)]
          clear hk
          unfold sval at *
          generalize s.ks.length = n at *
          go_enter Tryd.func41, Tryd.ntmps41
          go_wp2_with fail
          refine (HC.out _ (HB.out _)).mono ?_
          rintro e w' ⟨rfl, hb⟩
          have HB2 := Lib.hid ((HB.out _).trans (hb.mono (HB.out _).size))
          obtain ⟨c0, c1, c2, c3, c4, c5⟩ := box6 (wr := w') (by simpa using hb)
          clear hb c0 c1 c3 c4 c5
          go_wp2
          go_ret
          exact ⟨rfl, HB2.out⟩
        · rw [askS_yes hk (inB_iff.2 ⟨by omega, by omega, by omega⟩)]
          clear hk
          unfold sval at *
          generalize s.ks.length = n at *
          go_enter Tryd.func41, Tryd.ntmps41
          go_wp2_with fail
          refine (HC.out _ (HB.out _)).mono ?_
          rintro e w' ⟨rfl, hb⟩
          have HB2 := Lib.hid ((HB.out _).trans (hb.mono (HB.out _).size))
          obtain ⟨c0, c1, c2, c3, c4, c5⟩ := box6 (wr := w') (by simpa using hb)
          clear hb c0 c1 c3 c4 c5
          go_wp2
          go_ret
          exact ⟨rfl, HB2.out⟩

/-- What answers a gapped array and an error: new memory. -/
def AnsS (V : Sl × Int) (w : World) (e : Ending) (w' : World) : Prop :=
  ∃ h', e = .returned (.tuple #[sval V.1 h', .int .i64 V.2]) ∧ SOwn w' w.heap.size w'.heap.size V.1 h' ∧ Below w.heap.size w w'
def noneS : Sl := ⟨0, [], [], [], [], 0⟩
def noneH : Hd := ⟨Option.none, 0, Option.none, 0, Option.none, 0, Option.none, 0⟩
theorem ap_none (a : Option Addr) : Ap Option.none a := fun k hk => by cases hk
theorem noneS_own (w : World) (lo hi : Nat) : SOwn w lo hi noneS noneH :=
  ⟨World.ownsRow_nil _ _ _ _, World.ownsRow_nil _ _ _ _, World.ownsRow_nil _ _ _ _, World.ownsRow_nil _ _ _ _, fun k hk => (by cases hk), fun k hk => (by cases hk), fun k hk => (by cases hk), fun k hk => (by cases hk), ap_none _, ap_none _, ap_none _, ap_none _, ap_none _, ap_none _⟩
def laySV (s : Sl) (a : Int) (x y : Int) : Sl × Int := if askS s (atB s.ks.length a) = 0 then (layV s a.toNat x y, 0) else (noneS, askS s (atB s.ks.length a))
end Go.Proofs.YtljfbhkoppahaaaDoor.Slo

namespace Go.Proofs.YtljfbhkoppahaaaDoor.Slo
open Go.RowKit Go.Proofs.YtljfbhkoppahaaaDoor Go.Proofs.YtljfbhkoppahaaaDoor.Occ Go.Proofs.YtljfbhkoppahaaaDoor.Frac
attribute [local go_sem] sval

theorem SOwn.set_low {w : World} {lo hi : Nat} {s : Sl} {h : Hd} (o : SOwn w lo hi s h) (p : Addr) (u : Value) (hp : p.block < lo) : SOwn (w.setCell p u) lo hi s h :=
  ⟨own_set o.ow p u hp, own_set o.ok p u hp, own_set o.ov p u hp, own_set o.oc p u hp, o.hw, o.hk, o.hv, o.hc, o.wk, o.wv, o.wc, o.kv, o.kc, o.vc⟩
theorem SOwn.mono {w : World} {lo hi lo' hi' : Nat} {s : Sl} {h : Hd} (o : SOwn w lo hi s h) (h1 : lo' ≤ lo) (h2 : hi ≤ hi') : SOwn w lo' hi' s h :=
  ⟨o.ow.mono h1, o.ok.mono h1, o.ov.mono h1, o.oc.mono h1, fun k hk => Nat.lt_of_lt_of_le (o.hw k hk) h2, fun k hk => Nat.lt_of_lt_of_le (o.hk k hk) h2, fun k hk => Nat.lt_of_lt_of_le (o.hv k hk) h2, fun k hk => Nat.lt_of_lt_of_le (o.hc k hk) h2, o.wk, o.wv, o.wc, o.kv, o.kc, o.vc⟩
theorem SOwn.drew {w : World} {lo hi : Nat} {s : Sl} {h : Hd} (o : SOwn w lo hi s h) : SOwn w.drew lo hi s h := o.below (Below.refl _ w).drew
/-- Of one that may be: its slices begin rows. -/
theorem Ok.pl {w : World} {s : Sl} {h : Hd} {g q : Nat} (o : Ok s g q) (R : SRd w s h) : HPl h := by
  have h1 := o.n; have h2 := o.q1; have h3 := o.g4; have h4 := o.v; have h5 := o.w; have h6 := o.c
  have h7 : 1 * g ≤ q * g := Nat.mul_le_mul_right _ h2
  have e : ∀ l : List Int, l.length ≠ 0 → l ≠ [] := fun l hl h => hl (by rw [h]; rfl)
  exact ⟨Plain.of_rd R.fw (e _ (by omega)), Plain.of_rd R.fk (e _ (by omega)), Plain.of_rd R.fv (e _ (by omega)), Plain.of_rd R.fc (e _ (by omega))⟩
/-- The struct in a new block of its own, behind the rows. -/
theorem arr_new {w : World} {lo : Nat} {s : Sl} {h : Hd} (o : SOwn w lo w.heap.size s h) (hlo : lo ≤ w.heap.size) (t : TypeId) :
    Arr (w.alloc (.cells #[.int .i64 s.seg, .slice h.aw s.ws.length h.cw, .slice h.ak s.ks.length h.ck, .slice h.av s.vs.length h.cv, .slice h.ac s.cs.length h.cc, .int .u64 s.laid] t)) lo w.heap.size w.heap.size s h := by
  obtain ⟨c0, c1, c2, c3, c4, c5⟩ := box6 (w := w) (Below.refl _ (w.alloc (.cells #[.int .i64 s.seg, .slice h.aw s.ws.length h.cw, .slice h.ak s.ks.length h.ck, .slice h.av s.vs.length h.cv, .slice h.ac s.cs.length h.cc, .int .u64 s.laid] t)))
  exact ⟨o.below ((Below.refl _ w).alloc (Nat.le_refl _) _), hlo, Nat.le_refl _, by simp, c0, c1, c2, c3, c4, c5, fun j => frozen_new _ _ _ _⟩
/-- The cells of three new blocks: a struct of six, a pair, a struct of six. -/
theorem box626 {w wr : World} {v0 v1 v2 v3 v4 v5 x0 x1 u0 u1 u2 u3 u4 u5 : Value} {t t2 : TypeId} (h : Below (w.heap.size + 1 + 1 + 1) (((w.alloc (.cells #[v0, v1, v2, v3, v4, v5] t)).alloc (.cells #[x0, x1] t2)).alloc (.cells #[u0, u1, u2, u3, u4, u5] t)) wr) :
    (wr.cell? ⟨w.heap.size, 0, Option.none⟩ = some v0 ∧ wr.cell? ⟨w.heap.size, 1, Option.none⟩ = some v1 ∧ wr.cell? ⟨w.heap.size, 2, Option.none⟩ = some v2 ∧
    wr.cell? ⟨w.heap.size, 3, Option.none⟩ = some v3 ∧ wr.cell? ⟨w.heap.size, 4, Option.none⟩ = some v4 ∧ wr.cell? ⟨w.heap.size, 5, Option.none⟩ = some v5) ∧
    (wr.cell? ⟨w.heap.size + 1, 0, Option.none⟩ = some x0 ∧ wr.cell? ⟨w.heap.size + 1, 1, Option.none⟩ = some x1) ∧
    (wr.cell? ⟨w.heap.size + 2, 0, Option.none⟩ = some u0 ∧ wr.cell? ⟨w.heap.size + 2, 1, Option.none⟩ = some u1 ∧ wr.cell? ⟨w.heap.size + 2, 2, Option.none⟩ = some u2 ∧
    wr.cell? ⟨w.heap.size + 2, 3, Option.none⟩ = some u3 ∧ wr.cell? ⟨w.heap.size + 2, 4, Option.none⟩ = some u4 ∧ wr.cell? ⟨w.heap.size + 2, 5, Option.none⟩ = some u5) ∧ ∀ j, wr.frozen? ⟨w.heap.size + 2, j, Option.none⟩ = false := by
  generalize ha : w.alloc (.cells #[v0, v1, v2, v3, v4, v5] t) = wa at *
  have sa : wa.heap.size = w.heap.size + 1 := by rw [← ha]; simp
  generalize hb : wa.alloc (.cells #[x0, x1] t2) = wb at *
  have sb : wb.heap.size = w.heap.size + 2 := by rw [← hb]; simp [sa]
  have a1 : Below (w.heap.size + 1) (w.alloc (.cells #[v0, v1, v2, v3, v4, v5] t)) wr := by
    rw [ha]
    have h1 : Below (w.heap.size + 1) wa wb := by rw [← hb]; exact (Below.refl _ _).alloc (by omega) _
    exact (h1.alloc (by omega) _).trans (h.mono (by omega))
  have a3 : Below (wb.heap.size + 1) (wb.alloc (.cells #[u0, u1, u2, u3, u4, u5] t)) wr := h.mono (by omega)
  have b3 := box6 a3
  have f3 := fun j => box_frozen a3 j
  rw [sb] at b3 f3
  have H : ∀ j u, [x0, x1][j]? = some u → wr.cell? ⟨w.heap.size + 1, j, Option.none⟩ = some u := fun j u hj => by
    have hn := new_cells wa t2 #[x0, x1] j u (by simpa using hj)
    rw [Addr.add_lit, Nat.zero_add, hb, sa] at hn
    rw [h.cell (p := ⟨w.heap.size + 1, j, Option.none⟩) (by show w.heap.size + 1 < _; omega)]
    exact (((Below.refl wb.heap.size wb).alloc (Nat.le_refl _) _).cell (p := ⟨w.heap.size + 1, j, Option.none⟩) (by show w.heap.size + 1 < _; omega)).trans hn
  exact ⟨box6 a1, ⟨H 0 _ rfl, H 1 _ rfl⟩, b3, f3⟩

set_option maxRecDepth 100000 in
set_option maxHeartbeats 4000000 in
theorem Lay_any (s : Sl) (h : Hd) (a x y : Int) (w : World) (W : s.Wf) (R : SRd w s h) :
    Calls Tryd.prog 21 #[sval s h, .int .i64 a, .agg #[.int .i64 x, .int .i64 y]] w fun e w' => AnsS (laySV s a x y) w e w' := by
  have HC := Lib.hid (fun w1 (hb : Below w.heap.size w w1) => sAsked_any s h a w1 W (R.mono hb (Nat.le_refl _)))
  have HB : Hid (∀ o1 o2 o3, Below w.heap.size w (((w.alloc o1).alloc o2).alloc o3)) := Lib.hid fun o1 o2 o3 => (((Below.refl _ w).alloc (Nat.le_refl _) _).alloc (by simp) _).alloc (by simp; omega) _
  by_cases hv : askS s (atB s.ks.length a) = 0
  · have HV : Hid (laySV s a x y = (layV s a.toNat x y, 0)) := Lib.hid (if_pos hv)
    obtain ⟨hok, hat⟩ := askS_ok hv
    obtain ⟨h0, h1⟩ := atB_iff.1 hat
    obtain ⟨a, rfl⟩ := Int.eq_ofNat_of_zero_le h0
    rw [Int.toNat_natCast] at HV
    obtain ⟨g, q, o⟩ := okS_iff.1 hok
    have HT := Lib.hid (fun w1 (hb : Below w.heap.size w w1) => sTwin_any s h w1 W (R.mono hb (Nat.le_refl _)) (o.pl R))
    have HL := Lib.hid (fun lo hi p h w1 (A : Arr w1 lo hi p s h) => lay_any lo hi p s h g q a x y w1 A o W.u W.laid (by omega))
    rw [hv] at HC
    have HLEN : Hid ((layV s a x y).seg = s.seg ∧ (layV s a x y).ws.length = s.ws.length ∧ (layV s a x y).ks.length = s.ks.length ∧ (layV s a x y).vs.length = s.vs.length ∧ (layV s a x y).cs.length = s.cs.length) := Lib.hid (by
      have e1 := (o.lay W.u (show a < s.ks.length by omega) x y)
      refine ⟨rfl, ?_, ?_, ?_, ?_⟩
      · rw [e1.w, o.w, e1.n, o.n]
      · rw [e1.n, o.n]
      · rw [e1.v, o.v, e1.n, o.n]
      · rw [e1.c, o.c])
    clear W R hv hok hat h0 h1 o
    unfold sval at *
    go_enter Tryd.func21, Tryd.ntmps21
    go_wp2_with fail
    refine (HC.out _ (HB.out _ _ _)).mono ?_
    rintro e w1 ⟨rfl, hb⟩
    have HB1 := Lib.hid ((HB.out _ _ _).trans (hb.mono (HB.out _ _ _).size))
    have HX1 := Lib.hid (show Below (w.heap.size + 1 + 1 + 1) _ w1 by simpa using hb)
    clear hb
    obtain ⟨⟨c0, c1, c2, c3, c4, c5⟩, ⟨p0, p1⟩, ⟨d0, d1, d2, d3, d4, d5⟩, hf⟩ := box626 HX1.out
    clear hf d0 d1 d2 d3 d4 d5 p0 p1
    go_wp2_with fail
    refine (HT.out _ HB1.out).mono ?_
    rintro e w2 ⟨h2, rfl, hown, hb⟩
    have HB2 := Lib.hid (HB1.out.trans (hb.mono HB1.out.size))
    have HX2 := Lib.hid (HX1.out.trans (hb.mono (by have := HX1.out.size; simpa using this)))
    have hsz := hb.size
    have hsz1 := HX1.out.size
    have HA := Lib.hid (arr_new hown hsz 67)
    have HZ : Hid (w.heap.size + 3 ≤ w1.heap.size ∧ w1.heap.size ≤ w2.heap.size) := Lib.hid ⟨by simpa using hsz1, hsz⟩
    clear hown hb hsz hsz1 c0 c1 c2 c3 c4 c5
    obtain ⟨⟨c0, c1, c2, c3, c4, c5⟩, ⟨p0, p1⟩, ⟨d0, d1, d2, d3, d4, d5⟩, hf⟩ := box626 HX2.out
    clear hf d0 d1 d2 d3 d4 d5 c0 c1 c2 c3 c4 c5
    have hz2 : w.heap.size + 1 < w2.heap.size := by have := HZ.out; omega
    go_wp2_with fail
    refine (HL.out _ _ _ _ _ HA.out).mono ?_
    rintro e w3 ⟨rfl, hA3, hk⟩
    have HB3 : Hid (Below w.heap.size w w3) := Lib.hid ((HB2.out.alloc HB2.out.size _).trans (hk.below.mono (by have := HZ.out; omega)))
    have HX3 := Lib.hid ((HX2.out.alloc (by have := HZ.out; omega) _).trans (hk.below.mono (by have := HZ.out; omega)))
    have HO3 := Lib.hid hA3.own
    have b0 := hA3.b0; have b1 := hA3.b1; have b2 := hA3.b2; have b3 := hA3.b3; have b4 := hA3.b4; have b5 := hA3.b5
    have hp : w2.heap.size ≠ w.heap.size + 2 := by have := HZ.out; omega
    have HP3 : Hid (w2.heap.size ≤ w3.heap.size) := Lib.hid (by have := hA3.pl; omega)
    clear hA3 hk p0 p1
    obtain ⟨⟨c0, c1, c2, c3, c4, c5⟩, ⟨p0, p1⟩, ⟨d0, d1, d2, d3, d4, d5⟩, hf⟩ := box626 HX3.out
    have f0 := hf 0; have f1 := hf 1; have f2 := hf 2; have f3 := hf 3; have f4 := hf 4; have f5 := hf 5
    clear c0 c1 c2 c3 c4 c5 p0 p1 hf
    go_wp2
    refine bodyPost_ret (v := .tuple #[sval (layV s a x y) h2, .int .i64 0]) (by simp [results, Tryd.results21, go_sem, *]) rfl ⟨h2, by rw [HV.out], ?_, ?_⟩
    · rw [HV.out]
      have hlow : w.heap.size + 2 < w1.heap.size := by have := HZ.out; omega
      exact ((((((HO3.out.set_low _ _ hlow).set_low _ _ hlow).set_low _ _ hlow).set_low _ _ hlow).set_low _ _ hlow).set_low _ _ hlow).mono (by have := HZ.out; omega) (by have := HP3.out; simp; omega)
    · exact (((((HB3.out.setCell (by simp; omega) _).setCell (by simp; omega) _).setCell (by simp; omega) _).setCell (by simp; omega) _).setCell (by simp; omega) _).setCell (by simp; omega) _
  · have HV : Hid (laySV s a x y = (noneS, askS s (atB s.ks.length a))) := Lib.hid (if_neg hv)
    generalize askS s (atB s.ks.length a) = c at *
    have hne : (c != 0) = true := by rw [bne_iff_ne]; exact hv
    clear W R hv
    unfold sval at *
    go_enter Tryd.func21, Tryd.ntmps21
    go_wp2_with fail
    refine (HC.out _ (HB.out _ _ _)).mono ?_
    rintro e w1 ⟨rfl, hb⟩
    have HB1 := Lib.hid ((HB.out _ _ _).trans (hb.mono (HB.out _ _ _).size))
    have HX1 := Lib.hid (show Below (w.heap.size + 1 + 1 + 1) _ w1 by simpa using hb)
    clear hb
    obtain ⟨-, -, ⟨d0, d1, d2, d3, d4, d5⟩, hf⟩ := box626 HX1.out
    have f0 := hf 0; have f1 := hf 1; have f2 := hf 2; have f3 := hf 3; have f4 := hf 4; have f5 := hf 5
    clear hf
    go_wp2
    refine bodyPost_ret (v := .tuple #[sval noneS noneH, .int .i64 c]) (by simp [results, Tryd.results21, go_sem, sval, noneS, noneH, *]) rfl ⟨noneH, by rw [HV.out], by rw [HV.out]; exact noneS_own _ _ _, ?_⟩
    exact (((((HB1.out.setCell (by simp; omega) _).setCell (by simp; omega) _).setCell (by simp; omega) _).setCell (by simp; omega) _).setCell (by simp; omega) _).setCell (by simp; omega) _
end Go.Proofs.YtljfbhkoppahaaaDoor.Slo

namespace Go.Proofs.YtljfbhkoppahaaaDoor
open Go.RowKit Go.Shelf

def pcells (P : List (Int × Int)) : List Value := P.flatMap (fun p => [.int .i64 p.1, .int .i64 p.2])
theorem pcells_append (P Q : List (Int × Int)) : pcells (P ++ Q) = pcells P ++ pcells Q := by simp [pcells]
theorem pcells_length (P : List (Int × Int)) : (pcells P).length = P.length * 2 := by
  induction P with
  | nil => rfl
  | cons p P ih => rw [show p :: P = [p] ++ P from rfl, pcells_append, List.length_append, ih]; simp [pcells]; omega
theorem pcells_get (P : List (Int × Int)) (i : Nat) (h : i < P.length) : (pcells P)[i * 2]? = some (.int .i64 (P.getD i (0, 0)).1) ∧ (pcells P)[i * 2 + 1]? = some (.int .i64 (P.getD i (0, 0)).2) := by
  induction P generalizing i with
  | nil => simp at h
  | cons p P ih =>
    rw [show pcells (p :: P) = .int .i64 p.1 :: .int .i64 p.2 :: pcells P from rfl]
    cases i with
    | zero => exact ⟨rfl, rfl⟩
    | succ i =>
      have := ih i (by simpa using h)
      rw [show (i + 1) * 2 = i * 2 + 2 by omega]
      exact this
theorem pcells_one (P : List (Int × Int)) : ∀ u ∈ pcells P, u.oneCell' = true := by
  intro u hu
  unfold pcells at hu
  obtain ⟨p, _, hp⟩ := List.mem_flatMap.1 hu
  simp at hp
  rcases hp with rfl | rfl <;> rfl

/-- The pairs P stand in a row of cells at the address (which is any, where there are none). -/
def Rd2 (w : World) (a : Option Addr) (P : List (Int × Int)) : Prop :=
  P = [] ∨ ∃ b off, a = some ⟨b, off, Option.none⟩ ∧ b < w.heap.size ∧ ∀ i, i < P.length → w.cell? ⟨b, off + i * 2, Option.none⟩ = some (.int .i64 (P.getD i (0, 0)).1) ∧ w.cell? ⟨b, off + i * 2 + 1, Option.none⟩ = some (.int .i64 (P.getD i (0, 0)).2)
theorem Rd2.nil {w : World} {a : Option Addr} : Rd2 w a [] := .inl rfl
theorem Rd2.mono {w w1 : World} {a : Option Addr} {P : List (Int × Int)} {n : Nat} (h : Rd2 w a P) (hb : Below n w w1) (hn : w.heap.size ≤ n) : Rd2 w1 a P := by
  rcases h with h | ⟨b, off, ha, hlt, hc⟩
  · exact .inl h
  · exact .inr ⟨b, off, ha, Nat.lt_of_lt_of_le hlt hb.size, fun i hi => ⟨(hb.cell (p := ⟨b, off + i * 2, Option.none⟩) (Nat.lt_of_lt_of_le hlt hn)).trans (hc i hi).1, (hb.cell (p := ⟨b, off + i * 2 + 1, Option.none⟩) (Nat.lt_of_lt_of_le hlt hn)).trans (hc i hi).2⟩⟩
theorem Rd2.at {w w1 : World} {a : Option Addr} {P : List (Int × Int)} {n i : Nat} (h : Rd2 w a P) (hb : Below n w w1) (hn : w.heap.size ≤ n) (hi : i < P.length) :
    ∃ b off, a = some ⟨b, off, Option.none⟩ ∧ w1.cell? ⟨b, off + i * 2, Option.none⟩ = some (.int .i64 (P.getD i (0, 0)).1) ∧ w1.cell? ⟨b, off + i * 2 + 1, Option.none⟩ = some (.int .i64 (P.getD i (0, 0)).2) := by
  rcases h.mono hb hn with h | ⟨b, off, ha, _, hc⟩
  · subst h; simp at hi
  · exact ⟨b, off, ha, (hc i hi).1, (hc i hi).2⟩
/-- What a call has made and owns. -/
theorem owns2_arg {w : World} {base : Nat} {e : TypeId} {v : Value} {n : Nat} {P : List (Int × Int)} (h : w.ownsRow base e 2 v n (pcells P)) :
    ∃ a cap, v = .slice a P.length cap ∧ n = P.length ∧ Rd2 w a P ∧ P.length ≤ cap ∧ (a = Option.none → cap = 0) ∧ cap ≤ maxLen := by
  have hn : n = P.length := by have := h.1; rw [pcells_length] at this; omega
  subst hn
  rcases h.2 with ⟨rfl, h0⟩ | ⟨g, cap, cur, rfl, hg, hh, hc, hm, hs, ht⟩
  · have hP : P = [] := by cases P with
      | nil => rfl
      | cons _ _ => simp at h0
    subst hP
    exact ⟨Option.none, 0, rfl, rfl, .inl rfl, Nat.le_refl _, fun _ => rfl, Nat.zero_le _⟩
  · refine ⟨some ⟨g, 0, Option.none⟩, cap, rfl, rfl, .inr ⟨g, 0, rfl, ?_, fun i hi => ?_⟩, hc, (by intro h; cases h), hm⟩
    · rcases Nat.lt_or_ge g w.heap.size with h | h
      · exact h
      · rw [Array.getElem?_eq_none h] at hh; cases hh
    · have key : ∀ j, j < P.length * 2 → cur[j]? = (pcells P)[j]? := fun j hj => by
        rw [← ht, List.getElem?_take_of_lt hj, Array.getElem?_toList]
      have := pcells_get P i hi
      constructor
      · rw [Nat.zero_add]
        simp only [World.cell?, hh]
        rw [key _ (by omega), this.1]
        rfl
      · rw [Nat.zero_add]
        simp only [World.cell?, hh]
        rw [key _ (by omega), this.2]
        rfl

theorem two_cells (w : World) (t : TypeId) (x y : Int) : ∀ j u, [Value.int .i64 x, Value.int .i64 y][j]? = some u → (w.alloc (.cells #[.int .i64 x, .int .i64 y] t)).cell? ((⟨w.heap.size, 0, Option.none⟩ : Addr).add j) = some u := by
  intro j u h
  rw [Addr.add_lit, Nat.zero_add, cell_of_row _ w.heap.size j _ t (0, 0) (heap_alloc_new w _)]
  simpa using h

/-- '==' of two arrays of two numbers. -/
theorem run_equalIn_array2 {P : Program} (w : World) (d : Nat) (t e : TypeId) (i : TypeInfo) (k : IntKind) (a b x y : Int) (ht : P.underlying t = some (.array 2 e)) (he : P.underlying e = some (.int k)) (hi : P.info? e = some i) (hs : i.size = 1) :
    (Op.equalIn (d + 2) t (.agg #[.int k a, .int k b]) (.agg #[.int k x, .int k y])).run P w = .ok (a == x && b == y) w := by
  have q0 := run_equalIn_int (P := P) w d e k k a x he
  have q1 := run_equalIn_int (P := P) w d e k k b y he
  unfold Op.equalIn
  simp only [Sem.run_bind, run_underlying ht, Result.andThen_ok]
  simp [sizeOf, typeInfo, hi, hs]
  rw [show List.range' 0 2 = [0, 1] from rfl]
  simp only [List.forIn_cons, List.forIn_nil]
  cases hax : (a == x) <;> cases hby : (b == y) <;> simp [isAgg, run_underlying he, part, q0, q1, hax, hby]

/-- 'append(out, p)' of one pair. -/
theorem wpList_append_pair {P : Program} {w0 : World} {ops : Array Oper} {rest : List Oper} {o : Oper} {A : Act} {Q : Exit → Act → World → Prop} {base : Nat} {e : TypeId} {v : Value} {n : Nat} {L : List (Int × Int)} (hown : w0.ownsRow base e 2 v n (pcells L)) (hbase : base ≤ w0.heap.size)
    (hgd : o.guard = Option.none) (s x : Operand) (t : TypeId)
    (ho : o.op = .call { callee := .builtin .append, args := #[s, x], argTypes := #[t, t] })
    (i : TypeInfo) (ht : P.underlying t = some (.slice e)) (hi : P.info? e = some i) (hz : i.zero = some (.agg #[.int .i64 0, .int .i64 0])) (hsize : i.size = 2) (hby : i.bytes = 16)
    (p q : Int) (c : Nat) (hs : A.eval s = v) (hx : A.eval x = .slice (some ⟨w0.heap.size, 0, Option.none⟩) 1 c)
    (h63 : n + 1 ≤ maxLen) (hb : (n + 1) * 16 ≤ 140737488355328)
    (h : ∀ v' w', w'.ownsRow base e 2 v' (n + 1) (pcells (L ++ [(p, q)])) → Below base w0 w' → wpList P ops Q rest (A.put o.dst v') w') :
    wpList P ops Q (o :: rest) A (w0.alloc (.cells #[.int .i64 p, .int .i64 q] e)) := by
  refine wpList_append_own _ hgd s x t ho base e i (.agg #[.int .i64 0, .int .i64 0]) 2 16 ht hi hz hsize hby rfl (by decide) v n (pcells L) hs (hown.alloc _) ⟨w0.heap.size, 0, Option.none⟩ 1 c [.int .i64 p, .int .i64 q] hx (by simp) (two_cells w0 e p q) (by intro u hu; simp at hu; rcases hu with rfl | rfl <;> rfl) h63 hb (Nat.le_trans hbase (by simp)) ?_
  intro v' w' hown' hgrow _
  refine h v' w' (by rw [pcells_append]; exact hown') (((Below.refl base w0).alloc hbase _).grown hgrow (Nat.le_trans hbase (by simp)) (fun k hk => (World.ownsRow.lt hown k hk).1))
end Go.Proofs.YtljfbhkoppahaaaDoor

namespace Go.Proofs.YtljfbhkoppahaaaDoor
open Go.RowKit
theorem listIn_skip2 {m : Nat} {P : Program} {ops : Array Oper} {Q : Exit → Act → World → Prop} {w : World} {a : Act} {o1 o2 : Oper} {r : List Oper} (hs : skipB ops [o1, o2] a = true) (h : wpListIn Fence.wide m P ops Q r (putAll [o1, o2] a) w) : wpListIn Fence.wide m P ops Q (o1 :: o2 :: r) a w := by
  simp only [skipB, Bool.and_eq_true, Bool.not_eq_true'] at hs
  unfold wpListIn
  rw [if_neg (by rw [hs.1]; exact Bool.false_ne_true)]
  refine ⟨fun _ _ => trivial, ?_⟩
  unfold wpListIn
  rw [if_neg (by rw [hs.2.1]; exact Bool.false_ne_true)]
  exact ⟨fun _ _ => trivial, h⟩
end Go.Proofs.YtljfbhkoppahaaaDoor

namespace Go.Proofs.YtljfbhkoppahaaaDoor
open Go.RowKit

theorem rangeFunc_box {m : Nat} {P : Program} {α : Type} {g : Operand} {ps : Array Tmp} {assign body : Code} {Q : Exit → Act → World → Prop} {a : Act} {w : World}
    (qs : α → Nat → List (Tmp × Value)) (Bp : α → Nat → World → Prop) (h1 : 1 ≤ m) {gf : Nat} {lb : Array Value} (hg : a.eval g = .func (.func gf) #[] lb) (eg : ∀ args w, (callFunc gf args).run P w = .ok (.enter gf args) w)
    {encs : α → Array Value} {Kp : World → World → Prop} {S Sp : List α → Prop} {N : Nat} {w0 : World} (hseq : SeqStopsK Fence.wide (m - 1) P gf lb encs Kp S Sp N w0)
    (hKt : ∀ {A B C : World}, Kp A B → Kp B C → Kp A C) (hKb : ∀ (W : World) (l : Nat) (o o' : Obj), w.heap.size ≤ l → W.heap[l]? = some o → o.isCells = false → o.isWalk = false → Kp W (W.putObj l o')) (hb0 : Below w0.heap.size w0 w) (hps : ∀ x, (encs x).size = ps.size)
    (I : List α → World → Prop) (Ix : Code → List α → World → Prop) (hI : OwnFrom w.heap.size I) (hIx : ∀ c, OwnFrom w.heap.size (Ix c)) (h0 : I [] w)
    (hBp : ∀ x Bx, OwnFrom w.heap.size (fun (_ : Unit) W => Bp x Bx W))
    (hassign : ∀ (l : Nat) (pre : List α) (x : α) (W : World) (K : Act → World → Prop), I pre W → (∀ Bx W', KeepsFrom w.heap.size W W' → Kp W W' → I pre W' → Bp x Bx W' → K { tmps := (qs x Bx).foldl (fun t pv => t.setIfInBounds pv.1 pv.2) a.tmps, defers := [] } W') →
      assign.wpIn (Fence.wide.inRound l) (m - 1 - 1) P (Exit.then K (fun _ _ _ => False)) { tmps := (ps.zip (encs x)).foldl (fun t (p, v) => t.setIfInBounds p v) a.tmps, defers := [] } W)
    (hbody : ∀ (l : Nat) (pre : List α) (x : α) (Bx : Nat) (W : World), I pre W → Bp x Bx W → pre.length < N → body.wpIn (Fence.wide.inRound l) (m - 1 - 1) P (ownPostG w.heap.size Kp I Ix (pre ++ [x]) W) { tmps := (qs x Bx).foldl (fun t pv => t.setIfInBounds pv.1 pv.2) a.tmps, defers := [] } W)
    (hdone : ∀ (D : Nat) (xs : List α) (W : World), w.heap.size ≤ D → S xs → I xs W → W.heap[D]? = some (.deferred (some [])) → Q .normal { a with defers := { target := .collected D, args := #[] } :: a.defers } W)
    (hstop : ∀ (D : Nat) (c : Code) (pre : List α) (W : World), w.heap.size ≤ D → Sp pre → Ix c pre W → W.heap[D]? = some (.deferred (some [])) → c.wpIn Fence.wide m P Q { a with defers := { target := .collected D, args := #[] } :: a.defers } W) :
    (Code.rangeFunc g ps assign body).wpIn Fence.wide m P Q a w :=
  wpIn_rangeFunc_ownH rfl h1 hg trivial eg hseq hKt hKb hb0 hps I Ix hI hIx h0
    (fun x a' W => ∃ Bx, Bp x Bx W ∧ a' = { tmps := (qs x Bx).foldl (fun t pv => t.setIfInBounds pv.1 pv.2) a.tmps, defers := [] })
    (fun x a' s A B row hs hg' hr => by obtain ⟨Bx, hb, e⟩ := hs; exact ⟨Bx, hBp x Bx () A B row hb hg' hr, e⟩)
    (fun l pre x W K hi hK => hassign l pre x W K hi (fun Bx W' h1 h2 h3 h4 => hK _ W' h1 h2 h3 ⟨Bx, h4, rfl⟩))
    (fun l pre x a' W _ _ hi hax hN => by obtain ⟨Bx, hb, rfl⟩ := hax; exact hbody l pre x Bx W hi hb hN) hdone hstop
end Go.Proofs.YtljfbhkoppahaaaDoor

namespace Go.Proofs.YtljfbhkoppahaaaDoor
open Go.RowKit Go.Shelf
attribute [local go_sem] Oper.semAt_some

theorem infoP : (Tryd.prog.info? 43).map (fun i => (i.zero, i.size, i.bytes)) = some (some (.agg #[.int .i64 0, .int .i64 0]), 2, 16) := by kernel_rfl

set_option maxRecDepth 100000 in
set_option maxHeartbeats 2000000 in
theorem appendSeq_pairs {α : Type} (f : α → Int × Int) (g : Nat) (lb : Array Value) (eg : ∀ args w, (callFunc g args).run Tryd.prog w = .ok (.enter g args) w) (n0 lo hi N : Nat) (S Sp : List α → Prop) (w : World) (hn0 : n0 ≤ w.heap.size) (hhi : hi ≤ w.heap.size) (hN : N ≤ 1000000)
    (hseq : SeqStopsK Fence.wide 1 Tryd.prog g lb (fun x : α => #[Value.agg #[.int .i64 (f x).1, .int .i64 (f x).2]]) (Keeps n0 lo hi) S Sp N w) :
    Calls Tryd.prog 59 #[.slice Option.none 0 0, .func (.func g) #[] lb] w fun e w' => ∃ v xs, e = .returned v ∧ S xs ∧ w'.ownsRow w.heap.size 43 2 v xs.length (pcells (xs.map f)) ∧ Below w.heap.size w w' := by
  obtain ⟨i0, hi', hz0, hz1, hz2⟩ := info_parts infoP
  refine (callsIn_wide (n := 2)).1 ?_
  refine callsIn_of_wp_marks Tryd.func59 rfl trivial ?_ rfl
  simp only [Tryd.ntmps59, List.size_toArray, List.length_cons, List.length_nil, Nat.reduceAdd, Nat.reduceSub, Array.replicate_succ, Array.replicate_zero, List.push_toArray, List.append_toArray, List.nil_append, List.cons_append]
  gi_wp2
  have bO := Boxed.new w 46 (.slice Option.none 0 0)
  have hB0 : Below w.heap.size w (w.alloc (.cells #[.slice Option.none 0 0] 46)) := (Below.refl _ w).alloc (Nat.le_refl _) _
  refine rangeFunc_box (fun x Bx => [(7, .agg #[.int .i64 (f x).1, .int .i64 (f x).2]), (5, .pointer (some ⟨Bx, 0, Option.none⟩))])
    (fun x Bx W => w.heap.size < Bx ∧ W.heap[Bx]? = some (.cells #[.int .i64 (f x).1, .int .i64 (f x).2] 43 (0, 0)))
    (by decide) (gf := g) (lb := lb) rfl eg hseq Keeps.t (Keeps.b (by simp; omega) (by simp; omega)) hB0 (fun _ => rfl)
    (fun pre W => (∃ v, Boxed W w.heap.size 46 v ∧ W.ownsRow w.heap.size 43 2 v pre.length (pcells (pre.map f)) ∧ True) ∧ Below w.heap.size w W)
    (fun _ _ _ => False)
    (OwnFrom.and (Own.from (holdsRow_own w.heap.size w.heap.size 46 43 2 (fun pre : List α => pre.length) (fun pre => pcells (pre.map f)) (fun _ _ => True)) _) (ownFrom_below (Nat.le_refl _) (by simp)))
    (fun _ _ _ _ _ hs _ _ => hs)
    ⟨⟨_, bO, World.ownsRow_nil _ _ _ _, trivial⟩, hB0⟩
    ?hBp ?assign ?body ?done ?stop
  case hBp =>
    rintro x Bx u A B row ⟨h1, h2⟩ hg hr
    refine ⟨h1, (hg.block Bx (Array.getElem?_eq_some_iff.1 h2).1 (fun e => ?_)).trans h2⟩
    obtain ⟨_, o, ho, hc⟩ := hr Bx e.symm
    rw [h2] at ho; cases ho; cases hc
  case assign =>
    rintro l pre x W K ⟨⟨v, hv, hrow, -⟩, hB⟩ hK
    have HK := Lib.hid hK
    clear hK
    gi_wp2
    have hs := hB.size
    exact HK.out W.heap.size _ ((KeepsOthers.alloc W _).from _) (Keeps.of_below ((Below.refl _ W).alloc (Nat.le_refl _) _) (by omega) (by omega)) ⟨⟨v, hv.alloc _, hrow.alloc _, trivial⟩, hB.alloc hs _⟩ ⟨hv.lt, heap_alloc_new W _⟩
  case body =>
    rintro l pre x Bx W ⟨⟨v, hv, hrow, -⟩, hB⟩ ⟨hbx, hcx⟩ hlt
    have hc := hv.cell
    have hc1 : W.cell? ⟨Bx, 0, Option.none⟩ = some (.int .i64 (f x).1) := by rw [cell_of_row W Bx 0 _ _ _ hcx]; rfl
    have hc2 : W.cell? ⟨Bx, 1, Option.none⟩ = some (.int .i64 (f x).2) := by rw [cell_of_row W Bx 1 _ _ _ hcx]; rfl
    have HP : Hid (pcells ((pre ++ [x]).map f) = pcells (pre.map f) ++ [.int .i64 (f x).1, .int .i64 (f x).2]) := Lib.hid (by rw [List.map_append, pcells_append]; rfl)
    clear hcx
    generalize (f x).1 = x1 at *
    generalize (f x).2 = x2 at *
    gi_wp2_with (gi_at_builtin; refine wpListIn_append_own _ rfl _ _ 46 rfl w.heap.size 43 i0 (.agg #[.int .i64 0, .int .i64 0]) 2 16 Tryd.underlying46 hi' hz0 hz1 hz2 rfl (by decide) _ _ _ rfl (hrow.alloc _) ⟨W.heap.size, 0, Option.none⟩ 1 1 [.int .i64 x1, .int .i64 x2] rfl rfl (two_cells _ _ _ _) (by intro u hu; simp at hu; rcases hu with rfl | rfl <;> rfl) (by unfold maxLen; omega) (by omega) (by have := hB.size; simp; omega) ?_; intro v' w1 hown' hgrow _; obtain ⟨g', cap', rfl⟩ := ownsRow_succ hown'; obtain ⟨hv1, hv2, hr2, hk2, hb2⟩ := hv.appended (by decide) hrow hB.size (Nat.le_refl _) hown' hgrow; have hcv1 := hv1.cell; have hfv1 := hv1.frozen)
    exact ⟨hk2.from _, Keeps.of_below hb2 hn0 hhi, ⟨_, hv2, by rw [HP.out]; simpa using hr2, trivial⟩, hB.trans hb2⟩
  case done =>
    rintro D ys W hD hS ⟨⟨v, hv, hrow, -⟩, hB⟩ hK
    have hc := hv.cell
    gi_wp2
    refine ⟨by simp, .inl ⟨_, _, rfl, run_takeDeferred hK, ?_⟩⟩
    exact ⟨_, results_tmp rfl _ _ _, v, ys, rfl, hS, ownsRow_putObj hrow _ hK rfl, hB.trans (belowK_b (w := w) (Nat.le_refl _) W D _ _ (by simp at hD; omega) hK rfl rfl)⟩
  case stop =>
    rintro D c pre W _ _ h _
    exact h.elim

set_option maxHeartbeats 1000000 in
theorem collect_pairs {α : Type} (f : α → Int × Int) (g : Nat) (lb : Array Value) (eg : ∀ args w, (callFunc g args).run Tryd.prog w = .ok (.enter g args) w) (n0 lo hi N : Nat) (S Sp : List α → Prop) (w : World) (hn0 : n0 ≤ w.heap.size) (hhi : hi ≤ w.heap.size) (hN : N ≤ 1000000)
    (hseq : SeqStopsK Fence.wide 1 Tryd.prog g lb (fun x : α => #[Value.agg #[.int .i64 (f x).1, .int .i64 (f x).2]]) (Keeps n0 lo hi) S Sp N w) :
    Calls Tryd.prog 42 #[.func (.func g) #[] lb] w fun e w' => ∃ v xs, e = .returned v ∧ S xs ∧ w'.ownsRow w.heap.size 43 2 v xs.length (pcells (xs.map f)) ∧ Below w.heap.size w w' := by
  go_enter Tryd.func42, Tryd.ntmps42
  go_wp2_with fail
  refine (appendSeq_pairs f g lb eg n0 lo hi N S Sp w hn0 hhi hN hseq).mono ?_
  rintro e w1 ⟨v, xs, rfl, hS, hrow, hb⟩
  have HR := Lib.hid hrow
  clear hrow
  go_wp2
  go_ret
  exact ⟨v, xs, rfl, hS, HR.out, hb⟩
end Go.Proofs.YtljfbhkoppahaaaDoor
