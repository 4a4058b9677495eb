/- Contracts of package span: place.pair, tell, Floor, Ceiling, Min, Max, Select. Contracts of the document's answer for package span: all but Scan. -/
import Derived.Test.YthkhideonceibaaDoorMam
set_option linter.unusedSimpArgs false
set_option linter.unusedVariables false
namespace Go.Proofs.YthkhideonceibaaDoor.Span
open Go.RowKit Go.Shelf Go.Sort Go.Proofs.YthkhideonceibaaDoor Go.Proofs.YthkhideonceibaaDoor.Occ Go.Proofs.YthkhideonceibaaDoor.Slo Go.Proofs.YthkhideonceibaaDoor.Seek
attribute [local go_sem] sval Oper.semAt_some

def pval (s : Sl) (h : Hd) (a : Int) : Value := .agg #[.int .i64 s.seg, .slice h.aw s.ws.length h.cw, .slice h.ak s.ks.length h.ck, .slice h.av s.vs.length h.cv, .slice h.ac s.cs.length h.cc, .int .u64 s.laid, .int .i64 a]
def stP (W : World) (p : Nat) (x y : Int) : World := (W.setCell ⟨p, 0, Option.none⟩ (.int .i64 x)).setCell ⟨p, 1, Option.none⟩ (.int .i64 y)
theorem stP_fold (W : World) (p : Nat) (x y : Int) : (W.setCell ⟨p, 0, Option.none⟩ (.int .i64 x)).setCell ⟨p, 1, Option.none⟩ (.int .i64 y) = stP W p x y := rfl
theorem stP_below {n p : Nat} {w W : World} {x y : Int} (hb : Below n w W) (hp : n ≤ p) : Below n w (stP W p x y) := (hb.setCell hp _).setCell hp _
theorem stP_bp {W : World} {p : Nat} {a b x y : Int} (h : BP W p a b) : (stP W p x y).cell? ⟨p, 0, Option.none⟩ = some (.int .i64 x) ∧ (stP W p x y).cell? ⟨p, 1, Option.none⟩ = some (.int .i64 y) := by
  have n1 : (⟨p, 0, Option.none⟩ : Addr) ≠ ⟨p, 1, Option.none⟩ := by simp
  refine ⟨?_, ?_⟩
  · show ((W.setCell _ _).setCell _ _).cell? _ = _
    rw [World.cell?_setCell_other _ _ _ _ n1.symm, World.cell?_setCell_same _ _ _ h.box.a0]
  · show ((W.setCell _ _).setCell _ _).cell? _ = _
    rw [World.cell?_setCell_same _ _ _ ((World.cell?_setCell_other _ _ _ _ n1).trans h.box.a1)]
/-- The two boxes of place.pair. -/
def plW (w : World) (s : Sl) (h : Hd) (a : Int) : World := (w.alloc (.cells #[.int .i64 s.seg, .slice h.aw s.ws.length h.cw, .slice h.ak s.ks.length h.ck, .slice h.av s.vs.length h.cv, .slice h.ac s.cs.length h.cc, .int .u64 s.laid, .int .i64 a] 72)).alloc (.cells #[.int .i64 0, .int .i64 0] 38)
theorem plW_fold (w : World) (s : Sl) (h : Hd) (a : Int) : (w.alloc (.cells #[.int .i64 s.seg, .slice h.aw s.ws.length h.cw, .slice h.ak s.ks.length h.ck, .slice h.av s.vs.length h.cv, .slice h.ac s.cs.length h.cc, .int .u64 s.laid, .int .i64 a] 72)).alloc (.cells #[.int .i64 0, .int .i64 0] 38) = plW w s h a := rfl
theorem plW_below (w : World) (s : Sl) (h : Hd) (a : Int) : Below w.heap.size w (plW w s h a) := ((Below.refl _ w).alloc (Nat.le_refl _) _).alloc (by simp) _
theorem plW_cells (w : World) (s : Sl) (h : Hd) (a : Int) : (plW w s h a).cell? ⟨w.heap.size, 2, Option.none⟩ = some (.slice h.ak s.ks.length h.ck) ∧ (plW w s h a).cell? ⟨w.heap.size, 3, Option.none⟩ = some (.slice h.av s.vs.length h.cv) ∧ (plW w s h a).cell? ⟨w.heap.size, 6, Option.none⟩ = some (.int .i64 a) := by
  have N : ∀ j u, [.int .i64 s.seg, .slice h.aw s.ws.length h.cw, .slice h.ak s.ks.length h.ck, .slice h.av s.vs.length h.cv, .slice h.ac s.cs.length h.cc, .int .u64 s.laid, Value.int .i64 a][j]? = some u → (plW w s h a).cell? ⟨w.heap.size, j, Option.none⟩ = some u := fun j u hj => by
    have h1 := new_cells w 72 #[.int .i64 s.seg, .slice h.aw s.ws.length h.cw, .slice h.ak s.ks.length h.ck, .slice h.av s.vs.length h.cv, .slice h.ac s.cs.length h.cc, .int .u64 s.laid, .int .i64 a] j u (by simpa using hj)
    rw [Addr.add_lit, Nat.zero_add] at h1
    have hb : Below (w.alloc (.cells #[.int .i64 s.seg, .slice h.aw s.ws.length h.cw, .slice h.ak s.ks.length h.ck, .slice h.av s.vs.length h.cv, .slice h.ac s.cs.length h.cc, .int .u64 s.laid, .int .i64 a] 72)).heap.size (w.alloc (.cells #[.int .i64 s.seg, .slice h.aw s.ws.length h.cw, .slice h.ak s.ks.length h.ck, .slice h.av s.vs.length h.cv, .slice h.ac s.cs.length h.cc, .int .u64 s.laid, .int .i64 a] 72)) (plW w s h a) := (Below.refl _ _).alloc (Nat.le_refl _) _
    exact (hb.cell (p := ⟨w.heap.size, j, Option.none⟩) (by show w.heap.size < _; rw [World.size_alloc]; omega)).trans h1
  exact ⟨N 2 _ rfl, N 3 _ rfl, N 6 _ rfl⟩
theorem plW_res (w : World) (s : Sl) (h : Hd) (a : Int) : Res (plW w s h a) (w.heap.size + 1) 0 0 := by
  have := Res.new (w.alloc (.cells #[.int .i64 s.seg, .slice h.aw s.ws.length h.cw, .slice h.ak s.ks.length h.ck, .slice h.av s.vs.length h.cv, .slice h.ac s.cs.length h.cc, .int .u64 s.laid, .int .i64 a] 72)) 0 0 38
  rwa [World.size_alloc] at this
set_option maxRecDepth 100000 in
set_option maxHeartbeats 4000000 in
theorem place_any (s : Sl) (h : Hd) (a : Nat) (w : World) (R : SRd w s h) (ha : a < s.ks.length) (hv : s.vs.length = s.ks.length) :
    Calls Tryd.prog 41 #[pval s h a] w fun e w' => e = .returned (.agg #[.int .i64 (pairAt s a).1, .int .i64 (pairAt s a).2]) ∧ Below w.heap.size w w' := by
  have HB := Lib.hid (plW_below w s h a)
  have hva : a < s.vs.length := by omega
  obtain ⟨bk, ok, hak, lk, ck⟩ := rd_at (R.next HB.out).fk ha
  obtain ⟨bv, ov, hav, lv, cv⟩ := rd_at (R.next HB.out).fv hva
  obtain ⟨c2, c3, c6⟩ := plW_cells w s h a
  have HRS := Lib.hid (plW_res w s h a)
  have p0 := HRS.out.a0; have p1 := HRS.out.a1; have f0 := HRS.out.f 0; have f1 := HRS.out.f 1
  rw [hak] at c2
  rw [hav] at c3
  have HP : Hid ((pairAt s a).1 = s.ks.getD a 0 ∧ (pairAt s a).2 = s.vs.getD a 0) := Lib.hid ⟨rfl, rfl⟩
  clear R hv hak hav
  generalize s.ks.getD a 0 = x at *
  generalize s.vs.getD a 0 = y at *
  generalize pairAt s a = P at *
  obtain ⟨P1, P2⟩ := P
  dsimp only at HP
  obtain ⟨rfl, rfl⟩ := HP.out
  unfold pval
  go_enter Tryd.func41, Tryd.ntmps41
  go_wp2_with fail
  rw [plW_fold]
  generalize plW w s h (a : Int) = w0 at *
  refine Mix.wp_region_plan (fun w' => w' = World.drew _) [15] [.dep (List.replicate 15 true)] (Array.replicate 15 true ++ Array.replicate 1 false) 1 mixed' (by kernel_rfl) (by kernel_rfl) (by kernel_rfl) (fun _ _ _ _ _ h => h) rfl ?_
  simp only [Mix.wpPlan, Mix.maskL, List.replicate]
  repeat (go_big_quiet_step (fail))
  refine wpQuiet_nil ?_
  refine Mix.wpAny_tail (List.replicate 15 false ++ List.replicate 1 true) (Array.replicate 16 true) (by kernel_rfl) (by kernel_rfl) ?_
  simp only [Mix.maskL, List.replicate, List.cons_append, List.nil_append]
  go_wp2_with fail
  refine bodyPost_ret (v := .agg #[.int .i64 P1, .int .i64 P2]) (by simp [results, Tryd.results41, go_sem, *]) rfl ⟨rfl, ?_⟩
  exact stP_below HB.out.drew (Nat.le_succ _)

set_option maxRecDepth 100000 in
set_option maxHeartbeats 4000000 in
theorem tell_any (s : Sl) (h : Hd) (a : Nat) (w : World) (R : SRd w s h) (ha : a < s.ks.length) (hv : s.vs.length = s.ks.length) :
    Calls Tryd.prog 40 #[sval s h, .int .i64 a, .int .i64 0, .func (Fn.func 41) #[] #[]] w fun e w' => e = .returned (.tuple #[.agg #[.int .i64 (pairAt s a).1, .int .i64 (pairAt s a).2], .int .i64 0]) ∧ Below w.heap.size w w' := by
  have E0 := Lib.hid (((((St.below' (inP_below w s h 0 0))).and (St.rd (R.next (inP_below w s h 0 0)))).and (St.bs (inP_bs w s h 0 0))).and (St.bp (inP_bp w s h 0 0)))
  have HP := Lib.hid (fun w1 (R : SRd w1 s h) => place_any s h a w1 R ha hv)
  clear R ha hv
  generalize pairAt s a = P at *
  obtain ⟨x, y⟩ := P
  unfold pval at HP
  unfold sval at *
  go_enter Tryd.func40, Tryd.ntmps40
  go_wp2_with fail
  rw [allocS_fold, allocP_fold, show allocP (allocS w s h) 0 0 = inP w s h 0 0 from rfl]
  generalize inP w s h 0 0 = w0 at *
  obtain ⟨-, ⟨⟨bs_0, bs_1, bs_2, bs_3, bs_4, bs_5, -⟩, bs_l⟩, -, -⟩ := E0.out.now
  go_wp2_with fail
  clear bs_0 bs_1 bs_2 bs_3 bs_4 bs_5 bs_l
  refine (HP.out _ E0.out.now.2.2.1).mono ?_
  rintro e w1 ⟨rfl, hb⟩
  have E1 := Lib.hid (E0.out.next hb)
  clear hb
  obtain ⟨⟨⟨bp_0, bp_1, -⟩, bp_l⟩, -, -, -⟩ := E1.out.now
  have g := E1.out.now.1.box.f
  have g0 := g 0; have g1 := g 1
  clear g
  go_wp2
  (rw [stP_fold]; obtain ⟨q0, q1⟩ := stP_bp (x := x) (y := y) E1.out.now.1; refine bodyPost_ret (v := .tuple #[.agg #[.int .i64 x, .int .i64 y], .int .i64 0]) (by simp [results, Tryd.results40, go_sem, q0, q1]) rfl ⟨rfl, stP_below E1.out.now.2.2.2 (by omega)⟩)

set_option maxRecDepth 100000 in
set_option maxHeartbeats 4000000 in
theorem tell_no (s : Sl) (h : Hd) (a c : Int) (w : World) (hc : c ≠ 0) :
    Calls Tryd.prog 40 #[sval s h, .int .i64 a, .int .i64 c, .func (Fn.func 41) #[] #[]] w fun e w' => e = .returned (.tuple #[.agg #[.int .i64 0, .int .i64 0], .int .i64 c]) ∧ Below w.heap.size w w' := by
  have E0 := Lib.hid (((St.below' (inP_below w s h 0 0))).and (St.bp (inP_bp w s h 0 0)))
  have hne : (c != 0) = true := by rw [bne_iff_ne]; exact hc
  clear hc
  unfold sval at *
  go_enter Tryd.func40, Tryd.ntmps40
  go_wp2_with fail
  rw [allocS_fold, allocP_fold, show allocP (allocS w s h) 0 0 = inP w s h 0 0 from rfl]
  generalize inP w s h 0 0 = w0 at *
  obtain ⟨⟨⟨bp_0, bp_1, -⟩, bp_l⟩, -⟩ := E0.out.now
  have g := E0.out.now.1.box.f
  have g0 := g 0; have g1 := g 1
  clear g
  go_wp2
  first
  | (rw [stP_fold]; obtain ⟨q0, q1⟩ := stP_bp (x := 0) (y := 0) E0.out.now.1; refine bodyPost_ret (v := .tuple #[.agg #[.int .i64 0, .int .i64 0], .int .i64 c]) (by simp [results, Tryd.results40, go_sem, q0, q1]) rfl ⟨rfl, stP_below E0.out.now.2 (by omega)⟩)
  | refine bodyPost_ret (v := .tuple #[.agg #[.int .i64 0, .int .i64 0], .int .i64 c]) (by simp [results, Tryd.results40, go_sem, bp_0, bp_1]) rfl ⟨rfl, E0.out.now.2⟩

theorem tell_num {s : Sl} {h : Hd} (hok : okS s = true) {i : Nat} (hi : i < (allP s).length) (w : World) (R : SRd w s h) :
    Calls Tryd.prog 40 #[sval s h, .int .i64 (((slotsL s).getD i 0 : Nat) : Int), .int .i64 0, .func (Fn.func 41) #[] #[]] w fun e w' => e = .returned (.tuple #[.agg #[.int .i64 ((allP s).getD i (0, 0)).1, .int .i64 ((allP s).getD i (0, 0)).2], .int .i64 0]) ∧ Below w.heap.size w w' := by
  obtain ⟨g, q, o⟩ := okS_iff.1 hok
  have := tell_any s h _ w R (slot_lt s hi) o.v
  rwa [pair_num s hi] at this

set_option maxRecDepth 100000 in
set_option maxHeartbeats 4000000 in
theorem Ceiling_any (s : Sl) (h : Hd) (key : Int) (w : World) (hT : Tab w) (W : s.Wf) (R : SRd w s h) :
    Calls Tryd.prog 17 #[sval s h, .int .i64 key] w fun e w' => AnsP1 (ceilV s key) w e w' := by
  have E0 := Lib.hid ((((((St.below' (inP_below w s h 0 0))).and (St.rd (R.next (inP_below w s h 0 0)))).and ((St.tab hT).next (inP_below w s h 0 0))).and (St.bs (inP_bs w s h 0 0))).and (St.bp (inP_bp w s h 0 0)))
  have HN := Lib.hid (fun w1 (T : Tab w1) (R : SRd w1 s h) => kNext_any s h key w1 T W R)
  by_cases hk : chkK s = 0
  · by_cases hb : bel (allP s) key < (allP s).length
    · have HT1 := Lib.hid (fun w1 (R : SRd w1 s h) => tell_num (chkK_ok hk).1 hb w1 R)
      have HV : Hid (ceilV s key = ((allP s).getD (bel (allP s) key) (0, 0), 0)) := Lib.hid (by unfold ceilV; rw [if_pos hk, if_pos hb])
      rw [show nxtV s key = ((((slotsL s).getD (bel (allP s) key) 0 : Nat) : Int), 0) by unfold nxtV; rw [if_pos hk, if_pos (by rw [← allP_length]; exact hb)]] at HN
      generalize ceilV s key = V at *
      generalize (slotsL s).getD (bel (allP s) key) 0 = at0 at *
      generalize (allP s).getD (bel (allP s) key) (0, 0) = P at *
      obtain ⟨x, y⟩ := P
      have hV := HV.out
      subst hV
      clear HV hk hb R hT W
      unfold sval at *
      go_enter Tryd.func17, Tryd.ntmps17
      go_wp2_with fail
      rw [allocS_fold, allocP_fold, show allocP (allocS w s h) 0 0 = inP w s h 0 0 from rfl]
      generalize inP w s h 0 0 = w0 at *
      obtain ⟨-, ⟨⟨bs_0, bs_1, bs_2, bs_3, bs_4, bs_5, -⟩, bs_l⟩, -, -, -⟩ := E0.out.now
      go_wp2_with fail
      clear bs_0 bs_1 bs_2 bs_3 bs_4 bs_5 bs_l
      refine (HN.out _ E0.out.now.2.2.1 E0.out.now.2.2.2.1).mono ?_
      rintro e w1 ⟨rfl, hb⟩
      have E1 := Lib.hid (E0.out.next hb)
      clear hb
      obtain ⟨-, ⟨⟨bs_0, bs_1, bs_2, bs_3, bs_4, bs_5, -⟩, bs_l⟩, -, -, -⟩ := E1.out.now
      go_wp2_with fail
      clear bs_0 bs_1 bs_2 bs_3 bs_4 bs_5 bs_l
      refine (HT1.out _ E1.out.now.2.2.2.1).mono ?_
      rintro e w2 ⟨rfl, hb⟩
      have E2 := Lib.hid (E1.out.next hb)
      clear hb
      obtain ⟨⟨⟨bp_0, bp_1, -⟩, bp_l⟩, -, -, -, -⟩ := E2.out.now
      have g := E2.out.now.1.box.f
      have g0 := g 0; have g1 := g 1
      clear g
      go_wp2
      (rw [stP_fold]; obtain ⟨q0, q1⟩ := stP_bp (x := x) (y := y) E2.out.now.1; refine bodyPost_ret (v := .tuple #[.agg #[.int .i64 x, .int .i64 y], .int .i64 0]) (by simp [results, Tryd.results17, go_sem, q0, q1]) rfl ⟨rfl, stP_below E2.out.now.2.2.2.2 (by omega)⟩)
    · have HV : Hid (ceilV s key = ((0, 0), 6)) := Lib.hid (by unfold ceilV; rw [if_pos hk, if_neg hb])
      rw [show nxtV s key = (0, 6) by unfold nxtV; rw [if_pos hk, if_neg (by rw [← allP_length]; exact hb)]] at HN
      have HT1 := Lib.hid (fun w1 => tell_no s h 0 6 w1 (by decide))
      generalize ceilV s key = V at *
      have hV := HV.out
      subst hV
      clear HV hk hb R hT W
      unfold sval at *
      go_enter Tryd.func17, Tryd.ntmps17
      go_wp2_with fail
      rw [allocS_fold, allocP_fold, show allocP (allocS w s h) 0 0 = inP w s h 0 0 from rfl]
      generalize inP w s h 0 0 = w0 at *
      obtain ⟨-, ⟨⟨bs_0, bs_1, bs_2, bs_3, bs_4, bs_5, -⟩, bs_l⟩, -, -, -⟩ := E0.out.now
      go_wp2_with fail
      clear bs_0 bs_1 bs_2 bs_3 bs_4 bs_5 bs_l
      refine (HN.out _ E0.out.now.2.2.1 E0.out.now.2.2.2.1).mono ?_
      rintro e w1 ⟨rfl, hb⟩
      have E1 := Lib.hid (E0.out.next hb)
      clear hb
      obtain ⟨-, ⟨⟨bs_0, bs_1, bs_2, bs_3, bs_4, bs_5, -⟩, bs_l⟩, -, -, -⟩ := E1.out.now
      go_wp2_with fail
      clear bs_0 bs_1 bs_2 bs_3 bs_4 bs_5 bs_l
      refine (HT1.out _).mono ?_
      rintro e w2 ⟨rfl, hb⟩
      have E2 := Lib.hid (E1.out.next hb)
      clear hb
      obtain ⟨⟨⟨bp_0, bp_1, -⟩, bp_l⟩, -, -, -, -⟩ := E2.out.now
      have g := E2.out.now.1.box.f
      have g0 := g 0; have g1 := g 1
      clear g
      go_wp2
      first
      | (rw [stP_fold]; obtain ⟨q0, q1⟩ := stP_bp (x := 0) (y := 0) E2.out.now.1; refine bodyPost_ret (v := .tuple #[.agg #[.int .i64 0, .int .i64 0], .int .i64 6]) (by simp [results, Tryd.results17, go_sem, q0, q1]) rfl ⟨rfl, stP_below E2.out.now.2.2.2.2 (by omega)⟩)
      | refine bodyPost_ret (v := .tuple #[.agg #[.int .i64 0, .int .i64 0], .int .i64 6]) (by simp [results, Tryd.results17, go_sem, bp_0, bp_1]) rfl ⟨rfl, E2.out.now.2.2.2.2⟩
  · have HV : Hid (ceilV s key = ((0, 0), chkK s)) := Lib.hid (if_neg hk)
    rw [show nxtV s key = (0, chkK s) from if_neg hk] at HN
    have HT1 := Lib.hid (fun w1 => tell_no s h 0 (chkK s) w1 hk)
    generalize ceilV s key = V at *
    have hV := HV.out
    subst hV
    generalize chkK s = c at *
    clear HV hk R hT W
    unfold sval at *
    go_enter Tryd.func17, Tryd.ntmps17
    go_wp2_with fail
    rw [allocS_fold, allocP_fold, show allocP (allocS w s h) 0 0 = inP w s h 0 0 from rfl]
    generalize inP w s h 0 0 = w0 at *
    obtain ⟨-, ⟨⟨bs_0, bs_1, bs_2, bs_3, bs_4, bs_5, -⟩, bs_l⟩, -, -, -⟩ := E0.out.now
    go_wp2_with fail
    clear bs_0 bs_1 bs_2 bs_3 bs_4 bs_5 bs_l
    refine (HN.out _ E0.out.now.2.2.1 E0.out.now.2.2.2.1).mono ?_
    rintro e w1 ⟨rfl, hb⟩
    have E1 := Lib.hid (E0.out.next hb)
    clear hb
    obtain ⟨-, ⟨⟨bs_0, bs_1, bs_2, bs_3, bs_4, bs_5, -⟩, bs_l⟩, -, -, -⟩ := E1.out.now
    go_wp2_with fail
    clear bs_0 bs_1 bs_2 bs_3 bs_4 bs_5 bs_l
    refine (HT1.out _).mono ?_
    rintro e w2 ⟨rfl, hb⟩
    have E2 := Lib.hid (E1.out.next hb)
    clear hb
    obtain ⟨⟨⟨bp_0, bp_1, -⟩, bp_l⟩, -, -, -, -⟩ := E2.out.now
    have g := E2.out.now.1.box.f
    have g0 := g 0; have g1 := g 1
    clear g
    go_wp2
    first
    | (rw [stP_fold]; obtain ⟨q0, q1⟩ := stP_bp (x := 0) (y := 0) E2.out.now.1; refine bodyPost_ret (v := .tuple #[.agg #[.int .i64 0, .int .i64 0], .int .i64 c]) (by simp [results, Tryd.results17, go_sem, q0, q1]) rfl ⟨rfl, stP_below E2.out.now.2.2.2.2 (by omega)⟩)
    | refine bodyPost_ret (v := .tuple #[.agg #[.int .i64 0, .int .i64 0], .int .i64 c]) (by simp [results, Tryd.results17, go_sem, bp_0, bp_1]) rfl ⟨rfl, E2.out.now.2.2.2.2⟩

set_option maxRecDepth 100000 in
set_option maxHeartbeats 4000000 in
theorem Min_any (s : Sl) (h : Hd) (w : World) (hT : Tab w) (W : s.Wf) (R : SRd w s h) :
    Calls Tryd.prog 19 #[sval s h] w fun e w' => AnsP1 (minV s) w e w' := by
  have E0 := Lib.hid ((((((St.below' (inP_below w s h 0 0))).and (St.rd (R.next (inP_below w s h 0 0)))).and ((St.tab hT).next (inP_below w s h 0 0))).and (St.bs (inP_bs w s h 0 0))).and (St.bp (inP_bp w s h 0 0)))
  have HC := Lib.hid (fun w1 (R : SRd w1 s h) => kCheck_any s h w1 W R)
  by_cases hk : chkK s = 0
  · have hok := (chkK_ok hk).1
    have hcs := chk_slots hok
    rw [hk] at HC
    have HX := Lib.hid (fun w1 (T : Tab w1) (R : SRd w1 s h) => Next_any h.aw h.cw s.ws s.ks.length 0 w1 T W.u R.fw W.lw)
    by_cases hz : (allP s).length = 0
    · have HV : Hid (minV s = ((0, 0), 6)) := Lib.hid (by unfold minV; rw [if_pos hk, if_pos hz])
      rw [show nextV s.ws s.ks.length 0 = (0, 6) by unfold nextV; rw [if_pos (ask_ok hcs (upB_iff.2 ⟨by omega, by omega⟩))]; unfold firstV; rw [if_pos (by rw [allP_length] at hz; simpa [slotsL] using hz)]] at HX
      have HT1 := Lib.hid (fun w1 => tell_no s h 0 6 w1 (by decide))
      generalize minV s = V at *
      have hV := HV.out
      subst hV
      clear HV hk hz R hT W hok hcs
      unfold sval at *
      go_enter Tryd.func19, Tryd.ntmps19
      go_wp2_with fail
      rw [allocS_fold, allocP_fold, show allocP (allocS w s h) 0 0 = inP w s h 0 0 from rfl]
      generalize inP w s h 0 0 = w0 at *
      obtain ⟨-, ⟨⟨bs_0, bs_1, bs_2, bs_3, bs_4, bs_5, -⟩, bs_l⟩, -, -, -⟩ := E0.out.now
      go_wp2_with fail
      clear bs_0 bs_1 bs_2 bs_3 bs_4 bs_5 bs_l
      refine (HC.out _ E0.out.now.2.2.2.1).mono ?_
      rintro e w1 ⟨rfl, hb⟩
      have E1 := Lib.hid (E0.out.next hb)
      clear hb
      obtain ⟨-, ⟨⟨bs_0, bs_1, bs_2, bs_3, bs_4, bs_5, -⟩, bs_l⟩, -, -, -⟩ := E1.out.now
      go_wp2_with fail
      clear bs_0 bs_1 bs_2 bs_3 bs_4 bs_5 bs_l
      refine (HX.out _ E1.out.now.2.2.1 E1.out.now.2.2.2.1).mono ?_
      rintro e w2 ⟨rfl, hb⟩
      have E2 := Lib.hid (E1.out.next hb)
      clear hb
      obtain ⟨-, ⟨⟨bs_0, bs_1, bs_2, bs_3, bs_4, bs_5, -⟩, bs_l⟩, -, -, -⟩ := E2.out.now
      go_wp2_with fail
      clear bs_0 bs_1 bs_2 bs_3 bs_4 bs_5 bs_l
      refine (HT1.out _).mono ?_
      rintro e w3 ⟨rfl, hb⟩
      have E3 := Lib.hid (E2.out.next hb)
      clear hb
      obtain ⟨⟨⟨bp_0, bp_1, -⟩, bp_l⟩, -, -, -, -⟩ := E3.out.now
      have g := E3.out.now.1.box.f
      have g0 := g 0; have g1 := g 1
      clear g
      go_wp2
      first
      | (rw [stP_fold]; obtain ⟨q0, q1⟩ := stP_bp (x := 0) (y := 0) E3.out.now.1; refine bodyPost_ret (v := .tuple #[.agg #[.int .i64 0, .int .i64 0], .int .i64 6]) (by simp [results, Tryd.results19, go_sem, q0, q1]) rfl ⟨rfl, stP_below E3.out.now.2.2.2.2 (by omega)⟩)
      | refine bodyPost_ret (v := .tuple #[.agg #[.int .i64 0, .int .i64 0], .int .i64 6]) (by simp [results, Tryd.results19, go_sem, bp_0, bp_1]) rfl ⟨rfl, E3.out.now.2.2.2.2⟩
    · have HT1 := Lib.hid (fun w1 (R : SRd w1 s h) => tell_num hok (show 0 < (allP s).length by omega) w1 R)
      have HV : Hid (minV s = ((allP s).getD (0) (0, 0), 0)) := Lib.hid (by unfold minV; rw [if_pos hk, if_neg hz])
      rw [show nextV s.ws s.ks.length 0 = ((((slotsL s).getD 0 0 : Nat) : Int), 0) by unfold nextV; rw [if_pos (ask_ok hcs (upB_iff.2 ⟨by omega, by omega⟩))]; unfold firstV; rw [if_neg (by rw [allP_length] at hz; simpa [slotsL] using hz)]; simp [slotsL]] at HX
      generalize minV s = V at *
      generalize (slotsL s).getD (0) 0 = at0 at *
      generalize (allP s).getD (0) (0, 0) = P at *
      obtain ⟨x, y⟩ := P
      have hV := HV.out
      subst hV
      clear HV hk hz R hT W hok hcs
      unfold sval at *
      go_enter Tryd.func19, Tryd.ntmps19
      go_wp2_with fail
      rw [allocS_fold, allocP_fold, show allocP (allocS w s h) 0 0 = inP w s h 0 0 from rfl]
      generalize inP w s h 0 0 = w0 at *
      obtain ⟨-, ⟨⟨bs_0, bs_1, bs_2, bs_3, bs_4, bs_5, -⟩, bs_l⟩, -, -, -⟩ := E0.out.now
      go_wp2_with fail
      clear bs_0 bs_1 bs_2 bs_3 bs_4 bs_5 bs_l
      refine (HC.out _ E0.out.now.2.2.2.1).mono ?_
      rintro e w1 ⟨rfl, hb⟩
      have E1 := Lib.hid (E0.out.next hb)
      clear hb
      obtain ⟨-, ⟨⟨bs_0, bs_1, bs_2, bs_3, bs_4, bs_5, -⟩, bs_l⟩, -, -, -⟩ := E1.out.now
      go_wp2_with fail
      clear bs_0 bs_1 bs_2 bs_3 bs_4 bs_5 bs_l
      refine (HX.out _ E1.out.now.2.2.1 E1.out.now.2.2.2.1).mono ?_
      rintro e w2 ⟨rfl, hb⟩
      have E2 := Lib.hid (E1.out.next hb)
      clear hb
      obtain ⟨-, ⟨⟨bs_0, bs_1, bs_2, bs_3, bs_4, bs_5, -⟩, bs_l⟩, -, -, -⟩ := E2.out.now
      go_wp2_with fail
      clear bs_0 bs_1 bs_2 bs_3 bs_4 bs_5 bs_l
      refine (HT1.out _ E2.out.now.2.2.2.1).mono ?_
      rintro e w3 ⟨rfl, hb⟩
      have E3 := Lib.hid (E2.out.next hb)
      clear hb
      obtain ⟨⟨⟨bp_0, bp_1, -⟩, bp_l⟩, -, -, -, -⟩ := E3.out.now
      have g := E3.out.now.1.box.f
      have g0 := g 0; have g1 := g 1
      clear g
      go_wp2
      (rw [stP_fold]; obtain ⟨q0, q1⟩ := stP_bp (x := x) (y := y) E3.out.now.1; refine bodyPost_ret (v := .tuple #[.agg #[.int .i64 x, .int .i64 y], .int .i64 0]) (by simp [results, Tryd.results19, go_sem, q0, q1]) rfl ⟨rfl, stP_below E3.out.now.2.2.2.2 (by omega)⟩)
  · have HV : Hid (minV s = ((0, 0), chkK s)) := Lib.hid (if_neg hk)
    have hne : (chkK s != 0) = true := by rw [bne_iff_ne]; exact hk
    generalize minV s = V at *
    have hV := HV.out
    subst hV
    generalize chkK s = c at *
    clear HV hk R hT W
    unfold sval at *
    go_enter Tryd.func19, Tryd.ntmps19
    go_wp2_with fail
    rw [allocS_fold, allocP_fold, show allocP (allocS w s h) 0 0 = inP w s h 0 0 from rfl]
    generalize inP w s h 0 0 = w0 at *
    obtain ⟨-, ⟨⟨bs_0, bs_1, bs_2, bs_3, bs_4, bs_5, -⟩, bs_l⟩, -, -, -⟩ := E0.out.now
    go_wp2_with fail
    clear bs_0 bs_1 bs_2 bs_3 bs_4 bs_5 bs_l
    refine (HC.out _ E0.out.now.2.2.2.1).mono ?_
    rintro e w1 ⟨rfl, hb⟩
    have E1 := Lib.hid (E0.out.next hb)
    clear hb
    obtain ⟨⟨⟨bp_0, bp_1, -⟩, bp_l⟩, -, -, -, -⟩ := E1.out.now
    have g := E1.out.now.1.box.f
    have g0 := g 0; have g1 := g 1
    clear g
    go_wp2
    first
    | (rw [stP_fold]; obtain ⟨q0, q1⟩ := stP_bp (x := 0) (y := 0) E1.out.now.1; refine bodyPost_ret (v := .tuple #[.agg #[.int .i64 0, .int .i64 0], .int .i64 c]) (by simp [results, Tryd.results19, go_sem, q0, q1]) rfl ⟨rfl, stP_below E1.out.now.2.2.2.2 (by omega)⟩)
    | refine bodyPost_ret (v := .tuple #[.agg #[.int .i64 0, .int .i64 0], .int .i64 c]) (by simp [results, Tryd.results19, go_sem, bp_0, bp_1]) rfl ⟨rfl, E1.out.now.2.2.2.2⟩

set_option maxRecDepth 100000 in
set_option maxHeartbeats 4000000 in
theorem Max_any (s : Sl) (h : Hd) (w : World) (hT : Tab w) (W : s.Wf) (R : SRd w s h) :
    Calls Tryd.prog 21 #[sval s h] w fun e w' => AnsP1 (maxV s) w e w' := by
  have E0 := Lib.hid ((((((St.below' (inP_below w s h 0 0))).and (St.rd (R.next (inP_below w s h 0 0)))).and ((St.tab hT).next (inP_below w s h 0 0))).and (St.bs (inP_bs w s h 0 0))).and (St.bp (inP_bp w s h 0 0)))
  have HC := Lib.hid (fun w1 (R : SRd w1 s h) => kCheck_any s h w1 W R)
  by_cases hk : chkK s = 0
  · have hok := (chkK_ok hk).1
    have hcs := chk_slots hok
    rw [hk] at HC
    have HX := Lib.hid (fun w1 (T : Tab w1) (R : SRd w1 s h) => Last_any h.aw h.cw s.ws s.ks.length s.ks.length w1 W.u R.fw W.lw)
    by_cases hz : (allP s).length = 0
    · have HV : Hid (maxV s = ((0, 0), 6)) := Lib.hid (by unfold maxV; rw [if_pos hk, if_pos hz])
      rw [show lastV s.ws s.ks.length s.ks.length = (0, 6) by unfold lastV; rw [if_pos (ask_ok hcs (upB_iff.2 ⟨by omega, by omega⟩))]; unfold endV; rw [if_pos (by rw [allP_length] at hz; simpa [slotsL] using hz)]] at HX
      have HT1 := Lib.hid (fun w1 => tell_no s h 0 6 w1 (by decide))
      generalize maxV s = V at *
      have hV := HV.out
      subst hV
      clear HV hk hz R hT W hok hcs
      unfold sval at *
      go_enter Tryd.func21, Tryd.ntmps21
      go_wp2_with fail
      rw [allocS_fold, allocP_fold, show allocP (allocS w s h) 0 0 = inP w s h 0 0 from rfl]
      generalize inP w s h 0 0 = w0 at *
      obtain ⟨-, ⟨⟨bs_0, bs_1, bs_2, bs_3, bs_4, bs_5, -⟩, bs_l⟩, -, -, -⟩ := E0.out.now
      go_wp2_with fail
      clear bs_0 bs_1 bs_2 bs_3 bs_4 bs_5 bs_l
      refine (HC.out _ E0.out.now.2.2.2.1).mono ?_
      rintro e w1 ⟨rfl, hb⟩
      have E1 := Lib.hid (E0.out.next hb)
      clear hb
      obtain ⟨-, ⟨⟨bs_0, bs_1, bs_2, bs_3, bs_4, bs_5, -⟩, bs_l⟩, -, -, -⟩ := E1.out.now
      go_wp2_with fail
      clear bs_0 bs_1 bs_2 bs_3 bs_4 bs_5 bs_l
      refine (HX.out _ E1.out.now.2.2.1 E1.out.now.2.2.2.1).mono ?_
      rintro e w2 ⟨rfl, hb⟩
      have E2 := Lib.hid (E1.out.next hb)
      clear hb
      obtain ⟨-, ⟨⟨bs_0, bs_1, bs_2, bs_3, bs_4, bs_5, -⟩, bs_l⟩, -, -, -⟩ := E2.out.now
      go_wp2_with fail
      clear bs_0 bs_1 bs_2 bs_3 bs_4 bs_5 bs_l
      refine (HT1.out _).mono ?_
      rintro e w3 ⟨rfl, hb⟩
      have E3 := Lib.hid (E2.out.next hb)
      clear hb
      obtain ⟨⟨⟨bp_0, bp_1, -⟩, bp_l⟩, -, -, -, -⟩ := E3.out.now
      have g := E3.out.now.1.box.f
      have g0 := g 0; have g1 := g 1
      clear g
      go_wp2
      first
      | (rw [stP_fold]; obtain ⟨q0, q1⟩ := stP_bp (x := 0) (y := 0) E3.out.now.1; refine bodyPost_ret (v := .tuple #[.agg #[.int .i64 0, .int .i64 0], .int .i64 6]) (by simp [results, Tryd.results21, go_sem, q0, q1]) rfl ⟨rfl, stP_below E3.out.now.2.2.2.2 (by omega)⟩)
      | refine bodyPost_ret (v := .tuple #[.agg #[.int .i64 0, .int .i64 0], .int .i64 6]) (by simp [results, Tryd.results21, go_sem, bp_0, bp_1]) rfl ⟨rfl, E3.out.now.2.2.2.2⟩
    · have HT1 := Lib.hid (fun w1 (R : SRd w1 s h) => tell_num hok (show (allP s).length - 1 < (allP s).length by omega) w1 R)
      have HV : Hid (maxV s = ((allP s).getD ((allP s).length - 1) (0, 0), 0)) := Lib.hid (by unfold maxV; rw [if_pos hk, if_neg hz])
      rw [show lastV s.ws s.ks.length s.ks.length = ((((slotsL s).getD ((allP s).length - 1) 0 : Nat) : Int), 0) by unfold lastV; rw [if_pos (ask_ok hcs (upB_iff.2 ⟨by omega, by omega⟩))]; unfold endV; rw [allP_length] at hz ⊢; rw [if_neg (by simpa [slotsL] using hz)]; simp [slotsL]] at HX
      generalize maxV s = V at *
      generalize (slotsL s).getD ((allP s).length - 1) 0 = at0 at *
      generalize (allP s).getD ((allP s).length - 1) (0, 0) = P at *
      obtain ⟨x, y⟩ := P
      have hV := HV.out
      subst hV
      clear HV hk hz R hT W hok hcs
      unfold sval at *
      go_enter Tryd.func21, Tryd.ntmps21
      go_wp2_with fail
      rw [allocS_fold, allocP_fold, show allocP (allocS w s h) 0 0 = inP w s h 0 0 from rfl]
      generalize inP w s h 0 0 = w0 at *
      obtain ⟨-, ⟨⟨bs_0, bs_1, bs_2, bs_3, bs_4, bs_5, -⟩, bs_l⟩, -, -, -⟩ := E0.out.now
      go_wp2_with fail
      clear bs_0 bs_1 bs_2 bs_3 bs_4 bs_5 bs_l
      refine (HC.out _ E0.out.now.2.2.2.1).mono ?_
      rintro e w1 ⟨rfl, hb⟩
      have E1 := Lib.hid (E0.out.next hb)
      clear hb
      obtain ⟨-, ⟨⟨bs_0, bs_1, bs_2, bs_3, bs_4, bs_5, -⟩, bs_l⟩, -, -, -⟩ := E1.out.now
      go_wp2_with fail
      clear bs_0 bs_1 bs_2 bs_3 bs_4 bs_5 bs_l
      refine (HX.out _ E1.out.now.2.2.1 E1.out.now.2.2.2.1).mono ?_
      rintro e w2 ⟨rfl, hb⟩
      have E2 := Lib.hid (E1.out.next hb)
      clear hb
      obtain ⟨-, ⟨⟨bs_0, bs_1, bs_2, bs_3, bs_4, bs_5, -⟩, bs_l⟩, -, -, -⟩ := E2.out.now
      go_wp2_with fail
      clear bs_0 bs_1 bs_2 bs_3 bs_4 bs_5 bs_l
      refine (HT1.out _ E2.out.now.2.2.2.1).mono ?_
      rintro e w3 ⟨rfl, hb⟩
      have E3 := Lib.hid (E2.out.next hb)
      clear hb
      obtain ⟨⟨⟨bp_0, bp_1, -⟩, bp_l⟩, -, -, -, -⟩ := E3.out.now
      have g := E3.out.now.1.box.f
      have g0 := g 0; have g1 := g 1
      clear g
      go_wp2
      (rw [stP_fold]; obtain ⟨q0, q1⟩ := stP_bp (x := x) (y := y) E3.out.now.1; refine bodyPost_ret (v := .tuple #[.agg #[.int .i64 x, .int .i64 y], .int .i64 0]) (by simp [results, Tryd.results21, go_sem, q0, q1]) rfl ⟨rfl, stP_below E3.out.now.2.2.2.2 (by omega)⟩)
  · have HV : Hid (maxV s = ((0, 0), chkK s)) := Lib.hid (if_neg hk)
    have hne : (chkK s != 0) = true := by rw [bne_iff_ne]; exact hk
    generalize maxV s = V at *
    have hV := HV.out
    subst hV
    generalize chkK s = c at *
    clear HV hk R hT W
    unfold sval at *
    go_enter Tryd.func21, Tryd.ntmps21
    go_wp2_with fail
    rw [allocS_fold, allocP_fold, show allocP (allocS w s h) 0 0 = inP w s h 0 0 from rfl]
    generalize inP w s h 0 0 = w0 at *
    obtain ⟨-, ⟨⟨bs_0, bs_1, bs_2, bs_3, bs_4, bs_5, -⟩, bs_l⟩, -, -, -⟩ := E0.out.now
    go_wp2_with fail
    clear bs_0 bs_1 bs_2 bs_3 bs_4 bs_5 bs_l
    refine (HC.out _ E0.out.now.2.2.2.1).mono ?_
    rintro e w1 ⟨rfl, hb⟩
    have E1 := Lib.hid (E0.out.next hb)
    clear hb
    obtain ⟨⟨⟨bp_0, bp_1, -⟩, bp_l⟩, -, -, -, -⟩ := E1.out.now
    have g := E1.out.now.1.box.f
    have g0 := g 0; have g1 := g 1
    clear g
    go_wp2
    first
    | (rw [stP_fold]; obtain ⟨q0, q1⟩ := stP_bp (x := 0) (y := 0) E1.out.now.1; refine bodyPost_ret (v := .tuple #[.agg #[.int .i64 0, .int .i64 0], .int .i64 c]) (by simp [results, Tryd.results21, go_sem, q0, q1]) rfl ⟨rfl, stP_below E1.out.now.2.2.2.2 (by omega)⟩)
    | refine bodyPost_ret (v := .tuple #[.agg #[.int .i64 0, .int .i64 0], .int .i64 c]) (by simp [results, Tryd.results21, go_sem, bp_0, bp_1]) rfl ⟨rfl, E1.out.now.2.2.2.2⟩

set_option maxRecDepth 100000 in
set_option maxHeartbeats 4000000 in
theorem Select_any (s : Sl) (h : Hd) (key : Int) (hk9 : key ≤ 9223372036854775807) (w : World) (hT : Tab w) (W : s.Wf) (R : SRd w s h) :
    Calls Tryd.prog 23 #[sval s h, .int .i64 key] w fun e w' => AnsP1 (selV s key) w e w' := by
  have E0 := Lib.hid ((((((St.below' (inP_below w s h 0 0))).and (St.rd (R.next (inP_below w s h 0 0)))).and ((St.tab hT).next (inP_below w s h 0 0))).and (St.bs (inP_bs w s h 0 0))).and (St.bp (inP_bp w s h 0 0)))
  have HC := Lib.hid (fun w1 (R : SRd w1 s h) => kCheck_any s h w1 W R)
  by_cases hk : chkK s = 0
  · have hok := (chkK_ok hk).1
    have hcs := chk_slots hok
    rw [hk] at HC
    have HX := Lib.hid (fun w1 (T : Tab w1) (R : SRd w1 s h) => Nth_any h.aw h.cw s.ws s.ks.length key w1 T W.u R.fw W.lw hk9)
    by_cases hb : 0 ≤ key ∧ key < ((allP s).length : Int)
    · obtain ⟨k, rfl⟩ := Int.eq_ofNat_of_zero_le hb.1
      have hkl : k < (allP s).length := by omega
      have HT1 := Lib.hid (fun w1 (R : SRd w1 s h) => tell_num hok hkl w1 R)
      have HV : Hid (selV s (k : Int) = ((allP s).getD k (0, 0), 0)) := Lib.hid (by unfold selV; rw [if_pos hk, if_pos hb]; simp)
      rw [show nthV s.ws s.ks.length (k : Int) = ((((slotsL s).getD k 0 : Nat) : Int), 0) by unfold nthV; rw [if_pos hcs, if_pos (by rw [allP_length] at hb; simpa [slotsL] using hb)]; simp [slotsL]] at HX
      generalize selV s (k : Int) = V at *
      generalize (slotsL s).getD k 0 = at0 at *
      generalize (allP s).getD k (0, 0) = P at *
      obtain ⟨x, y⟩ := P
      have hV := HV.out
      subst hV
      clear HV hk hb R hT W hok hcs hkl
      unfold sval at *
      go_enter Tryd.func23, Tryd.ntmps23
      go_wp2_with fail
      rw [allocS_fold, allocP_fold, show allocP (allocS w s h) 0 0 = inP w s h 0 0 from rfl]
      generalize inP w s h 0 0 = w0 at *
      obtain ⟨-, ⟨⟨bs_0, bs_1, bs_2, bs_3, bs_4, bs_5, -⟩, bs_l⟩, -, -, -⟩ := E0.out.now
      go_wp2_with fail
      clear bs_0 bs_1 bs_2 bs_3 bs_4 bs_5 bs_l
      refine (HC.out _ E0.out.now.2.2.2.1).mono ?_
      rintro e w1 ⟨rfl, hb⟩
      have E1 := Lib.hid (E0.out.next hb)
      clear hb
      obtain ⟨-, ⟨⟨bs_0, bs_1, bs_2, bs_3, bs_4, bs_5, -⟩, bs_l⟩, -, -, -⟩ := E1.out.now
      go_wp2_with fail
      clear bs_0 bs_1 bs_2 bs_3 bs_4 bs_5 bs_l
      refine (HX.out _ E1.out.now.2.2.1 E1.out.now.2.2.2.1).mono ?_
      rintro e w2 ⟨rfl, hb⟩
      have E2 := Lib.hid (E1.out.next hb)
      clear hb
      obtain ⟨-, ⟨⟨bs_0, bs_1, bs_2, bs_3, bs_4, bs_5, -⟩, bs_l⟩, -, -, -⟩ := E2.out.now
      go_wp2_with fail
      clear bs_0 bs_1 bs_2 bs_3 bs_4 bs_5 bs_l
      refine (HT1.out _ E2.out.now.2.2.2.1).mono ?_
      rintro e w3 ⟨rfl, hb⟩
      have E3 := Lib.hid (E2.out.next hb)
      clear hb
      obtain ⟨⟨⟨bp_0, bp_1, -⟩, bp_l⟩, -, -, -, -⟩ := E3.out.now
      have g := E3.out.now.1.box.f
      have g0 := g 0; have g1 := g 1
      clear g
      go_wp2
      (rw [stP_fold]; obtain ⟨q0, q1⟩ := stP_bp (x := x) (y := y) E3.out.now.1; refine bodyPost_ret (v := .tuple #[.agg #[.int .i64 x, .int .i64 y], .int .i64 0]) (by simp [results, Tryd.results23, go_sem, q0, q1]) rfl ⟨rfl, stP_below E3.out.now.2.2.2.2 (by omega)⟩)
    · have HV : Hid (selV s key = ((0, 0), 290)) := Lib.hid (by unfold selV; rw [if_pos hk, if_neg hb])
      rw [show nthV s.ws s.ks.length key = (0, 6) by unfold nthV; rw [if_pos hcs, if_neg (by rw [allP_length] at hb; simpa [slotsL] using hb)]] at HX
      generalize selV s key = V at *
      have hV := HV.out
      subst hV
      clear HV hk hb R hT W hok hcs
      unfold sval at *
      go_enter Tryd.func23, Tryd.ntmps23
      go_wp2_with fail
      rw [allocS_fold, allocP_fold, show allocP (allocS w s h) 0 0 = inP w s h 0 0 from rfl]
      generalize inP w s h 0 0 = w0 at *
      obtain ⟨-, ⟨⟨bs_0, bs_1, bs_2, bs_3, bs_4, bs_5, -⟩, bs_l⟩, -, -, -⟩ := E0.out.now
      go_wp2_with fail
      clear bs_0 bs_1 bs_2 bs_3 bs_4 bs_5 bs_l
      refine (HC.out _ E0.out.now.2.2.2.1).mono ?_
      rintro e w1 ⟨rfl, hb⟩
      have E1 := Lib.hid (E0.out.next hb)
      clear hb
      obtain ⟨-, ⟨⟨bs_0, bs_1, bs_2, bs_3, bs_4, bs_5, -⟩, bs_l⟩, -, -, -⟩ := E1.out.now
      go_wp2_with fail
      clear bs_0 bs_1 bs_2 bs_3 bs_4 bs_5 bs_l
      refine (HX.out _ E1.out.now.2.2.1 E1.out.now.2.2.2.1).mono ?_
      rintro e w2 ⟨rfl, hb⟩
      have E2 := Lib.hid (E1.out.next hb)
      clear hb
      obtain ⟨⟨⟨bp_0, bp_1, -⟩, bp_l⟩, -, -, -, -⟩ := E2.out.now
      have g := E2.out.now.1.box.f
      have g0 := g 0; have g1 := g 1
      clear g
      go_wp2
      first
      | (rw [stP_fold]; obtain ⟨q0, q1⟩ := stP_bp (x := 0) (y := 0) E2.out.now.1; refine bodyPost_ret (v := .tuple #[.agg #[.int .i64 0, .int .i64 0], .int .i64 290]) (by simp [results, Tryd.results23, go_sem, q0, q1]) rfl ⟨rfl, stP_below E2.out.now.2.2.2.2 (by omega)⟩)
      | refine bodyPost_ret (v := .tuple #[.agg #[.int .i64 0, .int .i64 0], .int .i64 290]) (by simp [results, Tryd.results23, go_sem, bp_0, bp_1]) rfl ⟨rfl, E2.out.now.2.2.2.2⟩
  · have HV : Hid (selV s key = ((0, 0), chkK s)) := Lib.hid (if_neg hk)
    have hne : (chkK s != 0) = true := by rw [bne_iff_ne]; exact hk
    generalize selV s key = V at *
    have hV := HV.out
    subst hV
    generalize chkK s = c at *
    clear HV hk R hT W
    unfold sval at *
    go_enter Tryd.func23, Tryd.ntmps23
    go_wp2_with fail
    rw [allocS_fold, allocP_fold, show allocP (allocS w s h) 0 0 = inP w s h 0 0 from rfl]
    generalize inP w s h 0 0 = w0 at *
    obtain ⟨-, ⟨⟨bs_0, bs_1, bs_2, bs_3, bs_4, bs_5, -⟩, bs_l⟩, -, -, -⟩ := E0.out.now
    go_wp2_with fail
    clear bs_0 bs_1 bs_2 bs_3 bs_4 bs_5 bs_l
    refine (HC.out _ E0.out.now.2.2.2.1).mono ?_
    rintro e w1 ⟨rfl, hb⟩
    have E1 := Lib.hid (E0.out.next hb)
    clear hb
    obtain ⟨⟨⟨bp_0, bp_1, -⟩, bp_l⟩, -, -, -, -⟩ := E1.out.now
    have g := E1.out.now.1.box.f
    have g0 := g 0; have g1 := g 1
    clear g
    go_wp2
    first
    | (rw [stP_fold]; obtain ⟨q0, q1⟩ := stP_bp (x := 0) (y := 0) E1.out.now.1; refine bodyPost_ret (v := .tuple #[.agg #[.int .i64 0, .int .i64 0], .int .i64 c]) (by simp [results, Tryd.results23, go_sem, q0, q1]) rfl ⟨rfl, stP_below E1.out.now.2.2.2.2 (by omega)⟩)
    | refine bodyPost_ret (v := .tuple #[.agg #[.int .i64 0, .int .i64 0], .int .i64 c]) (by simp [results, Tryd.results23, go_sem, bp_0, bp_1]) rfl ⟨rfl, E1.out.now.2.2.2.2⟩

set_option maxRecDepth 100000 in
set_option maxHeartbeats 4000000 in
theorem Floor_any (s : Sl) (h : Hd) (key : Int) (w : World) (hT : Tab w) (W : s.Wf) (R : SRd w s h) :
    Calls Tryd.prog 15 #[sval s h, .int .i64 key] w fun e w' => AnsP1 (floorV s key) w e w' := by
  have E0 := Lib.hid ((((((St.below' (inP_below w s h 0 0))).and (St.rd (R.next (inP_below w s h 0 0)))).and ((St.tab hT).next (inP_below w s h 0 0))).and (St.bs (inP_bs w s h 0 0))).and (St.bp (inP_bp w s h 0 0)))
  have HF := Lib.hid (fun w1 (T : Tab w1) (R : SRd w1 s h) => Find_any s h key w1 T W R)
  have HL := Lib.hid (fun w1 (T : Tab w1) (R : SRd w1 s h) => kLast_any s h key w1 T W R)
  by_cases hk : chkK s = 0
  · have hok := (chkK_ok hk).1
    have hbl := bel_le (allP s) key
    have hnx : nxtV s key = if bel (allP s) key < (allP s).length then ((((slotsL s).getD (bel (allP s) key) 0 : Nat) : Int), 0) else (0, 6) := by unfold nxtV; rw [if_pos hk, allP_length]
    by_cases he : bel (allP s) key < (allP s).length ∧ ((allP s).getD (bel (allP s) key) (0, 0)).1 = key
    · have hke : s.ks.getD ((slotsL s).getD (bel (allP s) key) 0) 0 = key := (show s.ks.getD ((slotsL s).getD (bel (allP s) key) 0) 0 = ((allP s).getD (bel (allP s) key) (0, 0)).1 from congrArg Prod.fst (pair_num s he.1)).trans he.2
      rw [if_pos he.1] at hnx
      rw [show findV s key = ((((slotsL s).getD (bel (allP s) key) 0 : Nat) : Int), 0) by unfold findV; rw [hnx, if_pos rfl, if_pos (by simpa using hke)]] at HF
      have HT1 := Lib.hid (fun w1 (R : SRd w1 s h) => tell_num hok he.1 w1 R)
      have HV : Hid (floorV s key = ((allP s).getD (bel (allP s) key) (0, 0), 0)) := Lib.hid (by unfold floorV floorL; rw [if_pos hk, if_pos he])
      generalize floorV s key = V at *
      generalize (slotsL s).getD (bel (allP s) key) 0 = at0 at *
      generalize (allP s).getD (bel (allP s) key) (0, 0) = P at *
      obtain ⟨x, y⟩ := P
      have hV := HV.out
      subst hV
      clear HV hk he R hT W hok hnx hke hbl HL
      unfold sval at *
      go_enter Tryd.func15, Tryd.ntmps15
      go_wp2_with fail
      rw [allocS_fold, allocP_fold, show allocP (allocS w s h) 0 0 = inP w s h 0 0 from rfl]
      generalize inP w s h 0 0 = w0 at *
      obtain ⟨-, ⟨⟨bs_0, bs_1, bs_2, bs_3, bs_4, bs_5, -⟩, bs_l⟩, -, -, -⟩ := E0.out.now
      go_wp2_with fail
      clear bs_0 bs_1 bs_2 bs_3 bs_4 bs_5 bs_l
      refine (HF.out _ E0.out.now.2.2.1 E0.out.now.2.2.2.1).mono ?_
      rintro e w1 ⟨rfl, hb⟩
      have E1 := Lib.hid (E0.out.next hb)
      clear hb
      obtain ⟨-, ⟨⟨bs_0, bs_1, bs_2, bs_3, bs_4, bs_5, -⟩, bs_l⟩, -, -, -⟩ := E1.out.now
      go_wp2_with fail
      clear bs_0 bs_1 bs_2 bs_3 bs_4 bs_5 bs_l
      refine (HT1.out _ E1.out.now.2.2.2.1).mono ?_
      rintro e w2 ⟨rfl, hb⟩
      have E2 := Lib.hid (E1.out.next hb)
      clear hb
      obtain ⟨⟨⟨bp_0, bp_1, -⟩, bp_l⟩, -, -, -, -⟩ := E2.out.now
      have g := E2.out.now.1.box.f
      have g0 := g 0; have g1 := g 1
      clear g
      go_wp2
      (rw [stP_fold]; obtain ⟨q0, q1⟩ := stP_bp (x := x) (y := y) E2.out.now.1; refine bodyPost_ret (v := .tuple #[.agg #[.int .i64 x, .int .i64 y], .int .i64 0]) (by simp [results, Tryd.results15, go_sem, q0, q1]) rfl ⟨rfl, stP_below E2.out.now.2.2.2.2 (by omega)⟩)
    · have hfv : findV s key = (0, 6) := by
        unfold findV
        by_cases hb : bel (allP s) key < (allP s).length
        · rw [if_pos hb] at hnx
          have hke : ¬ s.ks.getD ((slotsL s).getD (bel (allP s) key) 0) 0 = key := fun g => he ⟨hb, (show s.ks.getD ((slotsL s).getD (bel (allP s) key) 0) 0 = ((allP s).getD (bel (allP s) key) (0, 0)).1 from congrArg Prod.fst (pair_num s hb)).symm.trans g⟩
          rw [hnx, if_pos rfl, if_neg (by simpa using hke)]
        · rw [if_neg hb] at hnx
          rw [hnx, if_neg (by decide)]
      rw [hfv] at HF
      by_cases hz : bel (allP s) key = 0
      · rw [show lasV s key = (0, 6) by unfold lasV; rw [if_pos hk, if_pos hz]] at HL
        have HT1 := Lib.hid (fun w1 => tell_no s h 0 6 w1 (by decide))
        have HV : Hid (floorV s key = ((0, 0), 6)) := Lib.hid (by unfold floorV floorL; rw [if_pos hk, if_neg he, if_pos hz])
        generalize floorV s key = V at *
        have hV := HV.out
        subst hV
        clear HV hk he R hT W hok hnx hfv hbl hz
        unfold sval at *
        go_enter Tryd.func15, Tryd.ntmps15
        go_wp2_with fail
        rw [allocS_fold, allocP_fold, show allocP (allocS w s h) 0 0 = inP w s h 0 0 from rfl]
        generalize inP w s h 0 0 = w0 at *
        obtain ⟨-, ⟨⟨bs_0, bs_1, bs_2, bs_3, bs_4, bs_5, -⟩, bs_l⟩, -, -, -⟩ := E0.out.now
        go_wp2_with fail
        clear bs_0 bs_1 bs_2 bs_3 bs_4 bs_5 bs_l
        refine (HF.out _ E0.out.now.2.2.1 E0.out.now.2.2.2.1).mono ?_
        rintro e w1 ⟨rfl, hb⟩
        have E1 := Lib.hid (E0.out.next hb)
        clear hb
        obtain ⟨-, ⟨⟨bs_0, bs_1, bs_2, bs_3, bs_4, bs_5, -⟩, bs_l⟩, -, -, -⟩ := E1.out.now
        go_wp2_with fail
        clear bs_0 bs_1 bs_2 bs_3 bs_4 bs_5 bs_l
        refine (HL.out _ E1.out.now.2.2.1 E1.out.now.2.2.2.1).mono ?_
        rintro e w2 ⟨rfl, hb⟩
        have E2 := Lib.hid (E1.out.next hb)
        clear hb
        obtain ⟨-, ⟨⟨bs_0, bs_1, bs_2, bs_3, bs_4, bs_5, -⟩, bs_l⟩, -, -, -⟩ := E2.out.now
        go_wp2_with fail
        clear bs_0 bs_1 bs_2 bs_3 bs_4 bs_5 bs_l
        refine (HT1.out _).mono ?_
        rintro e w3 ⟨rfl, hb⟩
        have E3 := Lib.hid (E2.out.next hb)
        clear hb
        obtain ⟨⟨⟨bp_0, bp_1, -⟩, bp_l⟩, -, -, -, -⟩ := E3.out.now
        have g := E3.out.now.1.box.f
        have g0 := g 0; have g1 := g 1
        clear g
        go_wp2
        first
        | (rw [stP_fold]; obtain ⟨q0, q1⟩ := stP_bp (x := 0) (y := 0) E3.out.now.1; refine bodyPost_ret (v := .tuple #[.agg #[.int .i64 0, .int .i64 0], .int .i64 6]) (by simp [results, Tryd.results15, go_sem, q0, q1]) rfl ⟨rfl, stP_below E3.out.now.2.2.2.2 (by omega)⟩)
        | refine bodyPost_ret (v := .tuple #[.agg #[.int .i64 0, .int .i64 0], .int .i64 6]) (by simp [results, Tryd.results15, go_sem, bp_0, bp_1]) rfl ⟨rfl, E3.out.now.2.2.2.2⟩
      · rw [show lasV s key = ((((slotsL s).getD (bel (allP s) key - 1) 0 : Nat) : Int), 0) by unfold lasV; rw [if_pos hk, if_neg hz]] at HL
        have HT1 := Lib.hid (fun w1 (R : SRd w1 s h) => tell_num hok (show bel (allP s) key - 1 < (allP s).length by omega) w1 R)
        have HV : Hid (floorV s key = ((allP s).getD (bel (allP s) key - 1) (0, 0), 0)) := Lib.hid (by unfold floorV floorL; rw [if_pos hk, if_neg he, if_neg hz])
        generalize floorV s key = V at *
        generalize (slotsL s).getD (bel (allP s) key - 1) 0 = at0 at *
        generalize (allP s).getD (bel (allP s) key - 1) (0, 0) = P at *
        obtain ⟨x, y⟩ := P
        have hV := HV.out
        subst hV
        clear HV hk he R hT W hok hnx hfv hbl hz
        unfold sval at *
        go_enter Tryd.func15, Tryd.ntmps15
        go_wp2_with fail
        rw [allocS_fold, allocP_fold, show allocP (allocS w s h) 0 0 = inP w s h 0 0 from rfl]
        generalize inP w s h 0 0 = w0 at *
        obtain ⟨-, ⟨⟨bs_0, bs_1, bs_2, bs_3, bs_4, bs_5, -⟩, bs_l⟩, -, -, -⟩ := E0.out.now
        go_wp2_with fail
        clear bs_0 bs_1 bs_2 bs_3 bs_4 bs_5 bs_l
        refine (HF.out _ E0.out.now.2.2.1 E0.out.now.2.2.2.1).mono ?_
        rintro e w1 ⟨rfl, hb⟩
        have E1 := Lib.hid (E0.out.next hb)
        clear hb
        obtain ⟨-, ⟨⟨bs_0, bs_1, bs_2, bs_3, bs_4, bs_5, -⟩, bs_l⟩, -, -, -⟩ := E1.out.now
        go_wp2_with fail
        clear bs_0 bs_1 bs_2 bs_3 bs_4 bs_5 bs_l
        refine (HL.out _ E1.out.now.2.2.1 E1.out.now.2.2.2.1).mono ?_
        rintro e w2 ⟨rfl, hb⟩
        have E2 := Lib.hid (E1.out.next hb)
        clear hb
        obtain ⟨-, ⟨⟨bs_0, bs_1, bs_2, bs_3, bs_4, bs_5, -⟩, bs_l⟩, -, -, -⟩ := E2.out.now
        go_wp2_with fail
        clear bs_0 bs_1 bs_2 bs_3 bs_4 bs_5 bs_l
        refine (HT1.out _ E2.out.now.2.2.2.1).mono ?_
        rintro e w3 ⟨rfl, hb⟩
        have E3 := Lib.hid (E2.out.next hb)
        clear hb
        obtain ⟨⟨⟨bp_0, bp_1, -⟩, bp_l⟩, -, -, -, -⟩ := E3.out.now
        have g := E3.out.now.1.box.f
        have g0 := g 0; have g1 := g 1
        clear g
        go_wp2
        (rw [stP_fold]; obtain ⟨q0, q1⟩ := stP_bp (x := x) (y := y) E3.out.now.1; refine bodyPost_ret (v := .tuple #[.agg #[.int .i64 x, .int .i64 y], .int .i64 0]) (by simp [results, Tryd.results15, go_sem, q0, q1]) rfl ⟨rfl, stP_below E3.out.now.2.2.2.2 (by omega)⟩)
  · have HV : Hid (floorV s key = ((0, 0), chkK s)) := Lib.hid (if_neg hk)
    have hnx : nxtV s key = (0, chkK s) := if_neg hk
    rw [show findV s key = (0, chkK s) by unfold findV; rw [hnx, if_neg hk]] at HF
    have HT1 := Lib.hid (fun w1 => tell_no s h 0 (chkK s) w1 hk)
    have h6 : (chkK s == 6) = false := by unfold chkK; by_cases g1 : okS s = true <;> by_cases g2 : riseB (allP s) = true <;> simp [g1, g2]
    generalize floorV s key = V at *
    have hV := HV.out
    subst hV
    generalize chkK s = c at *
    clear HV hk R hT W hnx HL
    unfold sval at *
    go_enter Tryd.func15, Tryd.ntmps15
    go_wp2_with fail
    rw [allocS_fold, allocP_fold, show allocP (allocS w s h) 0 0 = inP w s h 0 0 from rfl]
    generalize inP w s h 0 0 = w0 at *
    obtain ⟨-, ⟨⟨bs_0, bs_1, bs_2, bs_3, bs_4, bs_5, -⟩, bs_l⟩, -, -, -⟩ := E0.out.now
    go_wp2_with fail
    clear bs_0 bs_1 bs_2 bs_3 bs_4 bs_5 bs_l
    refine (HF.out _ E0.out.now.2.2.1 E0.out.now.2.2.2.1).mono ?_
    rintro e w1 ⟨rfl, hb⟩
    have E1 := Lib.hid (E0.out.next hb)
    clear hb
    obtain ⟨-, ⟨⟨bs_0, bs_1, bs_2, bs_3, bs_4, bs_5, -⟩, bs_l⟩, -, -, -⟩ := E1.out.now
    go_wp2_with fail
    clear bs_0 bs_1 bs_2 bs_3 bs_4 bs_5 bs_l
    refine (HT1.out _).mono ?_
    rintro e w2 ⟨rfl, hb⟩
    have E2 := Lib.hid (E1.out.next hb)
    clear hb
    obtain ⟨⟨⟨bp_0, bp_1, -⟩, bp_l⟩, -, -, -, -⟩ := E2.out.now
    have g := E2.out.now.1.box.f
    have g0 := g 0; have g1 := g 1
    clear g
    go_wp2
    first
    | (rw [stP_fold]; obtain ⟨q0, q1⟩ := stP_bp (x := 0) (y := 0) E2.out.now.1; refine bodyPost_ret (v := .tuple #[.agg #[.int .i64 0, .int .i64 0], .int .i64 c]) (by simp [results, Tryd.results15, go_sem, q0, q1]) rfl ⟨rfl, stP_below E2.out.now.2.2.2.2 (by omega)⟩)
    | refine bodyPost_ret (v := .tuple #[.agg #[.int .i64 0, .int .i64 0], .int .i64 c]) (by simp [results, Tryd.results15, go_sem, bp_0, bp_1]) rfl ⟨rfl, E2.out.now.2.2.2.2⟩
end Go.Proofs.YthkhideonceibaaDoor.Span

namespace Go.Proofs.YthkhideonceibaaDoor.Span
open Go.RowKit Go.Shelf Go.Sort Go.Proofs.YthkhideonceibaaDoor Go.Proofs.YthkhideonceibaaDoor.Occ Go.Proofs.YthkhideonceibaaDoor.Slo Go.Proofs.YthkhideonceibaaDoor.Seek
attribute [local go_sem] sval Oper.semAt_some

def askL (s : Sl) : List (Int × Int) × Int := if chkK s = 0 then (allP s, 0) else ([], chkK s)
def ceilL (l : List (Int × Int)) (key : Int) : (Int × Int) × Int := if bel l key < l.length then (l.getD (bel l key) (0, 0), 0) else ((0, 0), 6)
/-- What answers a pair and whether there is one. -/
def AnsB (V : (Int × Int) × Int) (w : World) (e : Ending) (w' : World) : Prop :=
  e = .returned (.tuple #[.agg #[.int .i64 V.1.1, .int .i64 V.1.2], .bool (decide (V.2 = 0))]) ∧ Below w.heap.size w w'

set_option maxRecDepth 100000 in
set_option maxHeartbeats 4000000 in
theorem asked12_any (s : Sl) (h : Hd) (w : World) (W : s.Wf) (R : SRd w s h) :
    Calls Tryd.prog 32 #[sval s h] w fun e w' => AnsPr (askL s) w e w' := by
  have E0 := Lib.hid ((((St.below' (allocS_below w s h))).and (St.rd (R.next (allocS_below w s h)))).and (St.bs (allocS_bs w s h)))
  have HC := Lib.hid (fun w1 (R : SRd w1 s h) => refCheckK_any s h w1 W R)
  by_cases hk : chkK s = 0
  · obtain ⟨hok, hri⟩ := chkK_ok hk
    obtain ⟨g, q, o⟩ := okS_iff.1 hok
    have HOF := Lib.hid (fun w1 (R : SRd w1 s h) => refOf_any s h 0 s.ks.length g q w1 W R o (Nat.zero_le _) (Nat.le_refl _))
    rw [show prs s 0 (s.ks.length - 0) = allP s from rfl] at HOF
    have HV : Hid (askL s = (allP s, 0)) := Lib.hid (if_pos hk)
    rw [hk] at HC
    generalize askL s = V at *
    generalize allP s = L at *
    have hV := HV.out
    subst hV
    have HSZ := Lib.hid (Nat.le_refl w.heap.size)
    clear HV hk hok hri R W o
    unfold sval at *
    go_enter Tryd.func32, Tryd.ntmps32
    go_wp2_with fail
    rw [allocS_fold]
    generalize allocS w s h = w0 at *
    refine (HC.out _ E0.out.now.2.1).mono ?_
    rintro e w1 ⟨rfl, hb⟩
    have E1 := Lib.hid (E0.out.next hb)
    clear hb
    obtain ⟨⟨⟨bs_0, bs_1, bs_2, bs_3, bs_4, bs_5, -⟩, bs_l⟩, -, -⟩ := E1.out.now
    go_wp2_with fail
    clear bs_0 bs_1 bs_2 bs_3 bs_4 bs_5 bs_l
    refine (HOF.out _ E1.out.now.2.1).mono ?_
    rintro e w2 ⟨v, rfl, ho, hb⟩
    have E2 := Lib.hid ((E1.out.next hb).and (St.row ho))
    clear hb
    have hsz : w.heap.size ≤ w1.heap.size := (E1.out.now.2.2).size
    go_wp2
    go_ret2
    exact ⟨v, rfl, World.ownsRow.mono (E2.out.now.1) hsz, E2.out.now.2.2.2⟩
  · have HV : Hid (askL s = ([], chkK s)) := Lib.hid (if_neg hk)
    have hne : (chkK s != 0) = true := by rw [bne_iff_ne]; exact hk
    generalize askL s = V at *
    have hV := HV.out
    subst hV
    generalize chkK s = c at *
    clear HV hk R W
    unfold sval at *
    go_enter Tryd.func32, Tryd.ntmps32
    go_wp2_with fail
    rw [allocS_fold]
    generalize allocS w s h = w0 at *
    refine (HC.out _ E0.out.now.2.1).mono ?_
    rintro e w1 ⟨rfl, hb⟩
    have E1 := Lib.hid (E0.out.next hb)
    clear hb
    go_wp2
    go_ret2
    exact ⟨_, rfl, World.ownsRow_nil _ _ _ _, E1.out.now.2.2⟩

set_option maxRecDepth 100000 in
set_option maxHeartbeats 4000000 in
theorem told_any (x y : Int) (b : Bool) (w : World) :
    Calls Tryd.prog 43 #[.agg #[.int .i64 x, .int .i64 y], .bool b] w fun e w' => AnsP1 (if b = true then ((x, y), 0) else ((0, 0), 6)) w e w' := by
  have HB2 : Hid (Below w.heap.size w (allocP (allocP w x y) 0 0)) := Lib.hid ((allocP_below w x y).trans ((allocP_below _ 0 0).mono (by rw [allocP_size]; omega)))
  have HBX : Hid (BP (allocP (allocP w x y) 0 0) w.heap.size x y) := Lib.hid ((allocP_bp w x y).next (allocP_below _ 0 0))
  have HBR : Hid (BP (allocP (allocP w x y) 0 0) (w.heap.size + 1) 0 0) := Lib.hid (by have := allocP_bp (allocP w x y) 0 0; rwa [allocP_size] at this)
  have E0 := Lib.hid ((((St.below' HB2.out)).and (St.bp HBX.out)).and (St.bp HBR.out))
  clear HB2 HBX HBR
  cases b with
  | false =>
    go_enter Tryd.func43, Tryd.ntmps43
    obtain ⟨⟨⟨bp_0, bp_1, -⟩, bp_l⟩, ⟨⟨bx_0, bx_1, -⟩, bx_l⟩, -⟩ := E0.out.now
    have g := E0.out.now.1.box.f
    have g0 := g 0; have g1 := g 1
    clear g
    go_wp2
    rw [allocP_fold, allocP_fold]
    have hr0 := allocP_bp (allocP w x y) 0 0
    rw [allocP_size] at hr0
    have q0 := hr0.box.a0
    have q1 := hr0.box.a1
    exact bodyPost_ret (v := .tuple #[.agg #[.int .i64 0, .int .i64 0], .int .i64 6]) (by simp [results, Tryd.results43, go_sem, q0, q1]) rfl ⟨rfl, (allocP_below w x y).trans ((allocP_below _ 0 0).mono (by rw [allocP_size]; omega))⟩
  | true =>
    go_enter Tryd.func43, Tryd.ntmps43
    obtain ⟨⟨⟨bp_0, bp_1, -⟩, bp_l⟩, ⟨⟨bx_0, bx_1, -⟩, bx_l⟩, -⟩ := E0.out.now
    have g := E0.out.now.1.box.f
    have g0 := g 0; have g1 := g 1
    clear g
    go_wp2
    rw [allocP_fold, allocP_fold]
    have hr0 := allocP_bp (allocP w x y) x y
    rw [allocP_size] at hr0
    have q0 := hr0.box.a0
    have q1 := hr0.box.a1
    exact bodyPost_ret (v := .tuple #[.agg #[.int .i64 x, .int .i64 y], .int .i64 0]) (by simp [results, Tryd.results43, go_sem, q0, q1]) rfl ⟨rfl, (allocP_below w x y).trans ((allocP_below _ x y).mono (by rw [allocP_size]; omega))⟩

set_option maxRecDepth 100000 in
set_option maxHeartbeats 4000000 in
theorem FloorOf_any (al : Option Addr) (cl : Nat) (L : List (Int × Int)) (key : Int) (w : World) (hr : Rd2 w al L) (hri : riseB L = true) (hl : L.length ≤ 1000000) :
    Calls Tryd.prog 42 #[.slice al L.length cl, .int .i64 key] w fun e w' => AnsB (floorL L key) w e w' := by
  have E0 := Lib.hid ((((St.below' (allocP_below w 0 0))).and (St.rd2 (hr.mono (allocP_below w 0 0) (Nat.le_refl _)))).and (St.bp (allocP_bp w 0 0)))
  have HFA := Lib.hid (fun i hi h1 h2 => floor_at hri key (i := i) hi h1 h2)
  have HFN := Lib.hid (fun h => floor_none hri key h)
  have e0 : IntKind.i64.wrap ((L.length : Int) - 1) = (L.length : Int) - 1 := by rw [IntKind.wrap_i64]; omega
  generalize floorL L key = V at *
  clear hr hri
  go_enter Tryd.func42, Tryd.ntmps42
  go_wp2_with fail
  rw [allocP_fold]
  generalize allocP w 0 0 = w0 at *
  go_loop [6] (fun i => ∃ k : Nat, k ≤ L.length ∧ i = .int .i64 ((k : Int) - 1) ∧ ∀ j, k ≤ j → j < L.length → key < (L.getD j (0, 0)).1) (fun i => (intOf i + 1).toNat)
  case atStart => exact ⟨L.length, Nat.le_refl _, rfl, fun j h1 h2 => absurd h2 (by omega)⟩
  case round =>
    obtain ⟨k, hk, rfl, hall⟩ := hrel
    have HA := Lib.hid hall
    clear hall e0
    cases k with
    | zero =>
      have hV := HFN.out (fun j h => HA.out j (Nat.zero_le _) h)
      subst hV
      obtain ⟨⟨⟨bp_0, bp_1, -⟩, bp_l⟩, -, -⟩ := E0.out.now
      have g := E0.out.now.1.box.f
      have g0 := g 0; have g1 := g 1
      clear g
      go_wp2
      first
      | (rw [stP_fold]; obtain ⟨q0, q1⟩ := stP_bp (x := 0) (y := 0) E0.out.now.1; refine bodyPost_ret (v := .tuple #[.agg #[.int .i64 0, .int .i64 0], .bool false]) (by simp [results, Tryd.results42, go_sem, q0, q1]) rfl ⟨by simp, stP_below E0.out.now.2.2 (by omega)⟩)
      | refine bodyPost_ret (v := .tuple #[.agg #[.int .i64 0, .int .i64 0], .bool false]) (by simp [results, Tryd.results42, go_sem, bp_0, bp_1]) rfl ⟨by simp, E0.out.now.2.2⟩
    | succ m =>
      have hm : m < L.length := by omega
      obtain ⟨bl, ol, rfl, ca, cb⟩ := Rd2.at E0.out.now.2.1 (Below.refl _ _) (Nat.le_refl _) hm
      rw [show ((m + 1 : Nat) : Int) - 1 = (m : Int) by omega]
      have HF1 := Lib.hid (fun h1 => HFA.out m hm h1 (fun j h2 h3 => HA.out j h2 h3))
      have HN1 : Hid (key < (L.getD m (0, 0)).1 → ∀ j, m ≤ j → j < L.length → key < (L.getD j (0, 0)).1) := Lib.hid (fun h j h2 h3 => by
        by_cases hj : j = m
        · rw [hj]; exact h
        · exact HA.out j (by omega) h3)
      have e1 : IntKind.i64.wrap ((m : Int) - 1) = (m : Int) - 1 := by rw [IntKind.wrap_i64]; omega
      generalize L.getD m (0, 0) = xm at *
      obtain ⟨x, y⟩ := xm
      dsimp only at ca cb HF1 HN1
      by_cases hx : x ≤ key
      · have hV := HF1.out hx
        subst hV
        obtain ⟨⟨⟨bp_0, bp_1, -⟩, bp_l⟩, -, -⟩ := E0.out.now
        have g := E0.out.now.1.box.f
        have g0 := g 0; have g1 := g 1
        clear g
        go_wp2
        (rw [stP_fold]; obtain ⟨q0, q1⟩ := stP_bp (x := x) (y := y) E0.out.now.1; refine bodyPost_ret (v := .tuple #[.agg #[.int .i64 x, .int .i64 y], .bool true]) (by simp [results, Tryd.results42, go_sem, q0, q1]) rfl ⟨by simp, stP_below E0.out.now.2.2 (by omega)⟩)
      · have HN2 := Lib.hid (HN1.out (by omega))
        clear HF1 HN1
        go_wp2
        go_round
        case rel => exact ⟨m, by omega, by go_num, HN2.out⟩
        case measure => simp [intOf] <;> omega

set_option maxRecDepth 100000 in
set_option maxHeartbeats 4000000 in
theorem CeilingOf_any (al : Option Addr) (cl : Nat) (L : List (Int × Int)) (key : Int) (w : World) (hr : Rd2 w al L) (hri : riseB L = true) (hl : L.length ≤ 1000000) :
    Calls Tryd.prog 44 #[.slice al L.length cl, .int .i64 key] w fun e w' => AnsB (ceilL L key) w e w' := by
  have E0 := Lib.hid ((((St.below' (allocP_below w 0 0))).and (St.rd2 (hr.mono (allocP_below w 0 0) (Nat.le_refl _)))).and (St.bp (allocP_bp w 0 0)))
  have HB := Lib.hid (fun i hi => bel_iff hri key (i := i) hi)
  have hble := bel_le L key
  have HV : Hid (ceilL L key = if bel L key < L.length then (L.getD (bel L key) (0, 0), 0) else ((0, 0), 6)) := Lib.hid rfl
  generalize ceilL L key = V at *
  generalize bel L key = n at *
  clear hr hri
  go_enter Tryd.func44, Tryd.ntmps44
  go_wp2_with fail
  rw [allocP_fold]
  generalize allocP w 0 0 = w0 at *
  go_loop [6] (fun i => ∃ k : Nat, k ≤ L.length ∧ k ≤ n ∧ i = .int .i64 k) (fun i => L.length - (intOf i).toNat)
  case atStart => exact ⟨0, Nat.zero_le _, Nat.zero_le _, rfl⟩
  case round =>
    obtain ⟨k, hk, hkn, rfl⟩ := hrel
    by_cases hlt : k < L.length
    · obtain ⟨bl, ol, rfl, ca, cb⟩ := Rd2.at E0.out.now.2.1 (Below.refl _ _) (Nat.le_refl _) hlt
      have HBK := Lib.hid (HB.out k hlt)
      have HVK : Hid (k = n → V = (L.getD k (0, 0), 0)) := Lib.hid (fun e => by rw [HV.out, if_pos (by omega), ← e])
      generalize L.getD k (0, 0) = xm at *
      obtain ⟨x, y⟩ := xm
      dsimp only at ca cb HBK
      by_cases hx : x < key
      · have hkn1 : k + 1 ≤ n := HBK.out.1 hx
        clear HBK HVK
        have hx2 : ¬ key ≤ x := by omega
        go_wp2
        go_round
        case rel => exact ⟨k + 1, by omega, hkn1, by go_num⟩
        case measure => simp [intOf]; omega
      · have hV := HVK.out (by have := mt HBK.out.2 hx; omega)
        subst hV
        have hx2 : key ≤ x := by omega
        clear HBK HVK HV HB
        obtain ⟨⟨⟨bp_0, bp_1, -⟩, bp_l⟩, -, -⟩ := E0.out.now
        have g := E0.out.now.1.box.f
        have g0 := g 0; have g1 := g 1
        clear g
        go_wp2
        (rw [stP_fold]; obtain ⟨q0, q1⟩ := stP_bp (x := x) (y := y) E0.out.now.1; refine bodyPost_ret (v := .tuple #[.agg #[.int .i64 x, .int .i64 y], .bool true]) (by simp [results, Tryd.results44, go_sem, q0, q1]) rfl ⟨by simp, stP_below E0.out.now.2.2 (by omega)⟩)
    · have hV : V = ((0, 0), 6) := by rw [HV.out, if_neg (by omega)]
      subst hV
      clear HV HB
      obtain ⟨⟨⟨bp_0, bp_1, -⟩, bp_l⟩, -, -⟩ := E0.out.now
      have g := E0.out.now.1.box.f
      have g0 := g 0; have g1 := g 1
      clear g
      go_wp2
      first
      | (rw [stP_fold]; obtain ⟨q0, q1⟩ := stP_bp (x := 0) (y := 0) E0.out.now.1; refine bodyPost_ret (v := .tuple #[.agg #[.int .i64 0, .int .i64 0], .bool false]) (by simp [results, Tryd.results44, go_sem, q0, q1]) rfl ⟨by simp, stP_below E0.out.now.2.2 (by omega)⟩)
      | refine bodyPost_ret (v := .tuple #[.agg #[.int .i64 0, .int .i64 0], .bool false]) (by simp [results, Tryd.results44, go_sem, bp_0, bp_1]) rfl ⟨by simp, E0.out.now.2.2⟩
end Go.Proofs.YthkhideonceibaaDoor.Span
