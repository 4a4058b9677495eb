/- Contracts of package slots and of the document's answer: the document's Check; Same. Contracts of package slots: Twin. A gapped array of one's own, behind a pointer: what a store leaves. Contracts of package slots: a slot is taken, or laid. -/
import Derived.Test.YtljfbhkoppahaaaDoorMaf
import Derived.Deep.Onto
set_option linter.unusedSimpArgs false
set_option linter.unusedVariables false
namespace Go.Proofs.YtljfbhkoppahaaaDoor.Slo
open Go.RowKit Go.Proofs.YtljfbhkoppahaaaDoor Go.Proofs.YtljfbhkoppahaaaDoor.Occ Go.Proofs.YtljfbhkoppahaaaDoor.Frac
attribute [local go_sem] sval

/-- The cells of two structs of six. -/
theorem box66 {w wr : World} {v0 v1 v2 v3 v4 v5 u0 u1 u2 u3 u4 u5 : Value} {t : TypeId} (h : Below (w.heap.size + 1 + 1) ((w.alloc (.cells #[v0, v1, v2, v3, v4, v5] t)).alloc (.cells #[u0, u1, u2, u3, u4, u5] t)) wr) :
    (wr.cell? ⟨w.heap.size, 0, Option.none⟩ = some v0 ∧ wr.cell? ⟨w.heap.size, 1, Option.none⟩ = some v1 ∧ wr.cell? ⟨w.heap.size, 2, Option.none⟩ = some v2 ∧
    wr.cell? ⟨w.heap.size, 3, Option.none⟩ = some v3 ∧ wr.cell? ⟨w.heap.size, 4, Option.none⟩ = some v4 ∧ wr.cell? ⟨w.heap.size, 5, Option.none⟩ = some v5) ∧
    wr.cell? ⟨w.heap.size + 1, 0, Option.none⟩ = some u0 ∧ wr.cell? ⟨w.heap.size + 1, 1, Option.none⟩ = some u1 ∧ wr.cell? ⟨w.heap.size + 1, 2, Option.none⟩ = some u2 ∧
    wr.cell? ⟨w.heap.size + 1, 3, Option.none⟩ = some u3 ∧ wr.cell? ⟨w.heap.size + 1, 4, Option.none⟩ = some u4 ∧ wr.cell? ⟨w.heap.size + 1, 5, Option.none⟩ = some u5 := by
  have a1 : Below (w.heap.size + 1) (w.alloc (.cells #[v0, v1, v2, v3, v4, v5] t)) wr := ((Below.refl _ _).alloc (by simp) _).trans (h.mono (by omega))
  have a2 : Below ((w.alloc (.cells #[v0, v1, v2, v3, v4, v5] t)).heap.size + 1) ((w.alloc (.cells #[v0, v1, v2, v3, v4, v5] t)).alloc (.cells #[u0, u1, u2, u3, u4, u5] t)) wr := by simpa using h
  have b2 := box6 a2
  simp only [World.size_alloc] at b2
  exact ⟨box6 a1, b2⟩

set_option maxRecDepth 100000 in
set_option maxHeartbeats 4000000 in
theorem sRefSame_any (s o : Sl) (h i : Hd) (w : World) (Rs : SRd w s h) (Ro : SRd w o i) (ls : s.ws.length ≤ 1000000000 ∧ s.ks.length ≤ 1000000000 ∧ s.vs.length ≤ 1000000000 ∧ s.cs.length ≤ 1000000000) (lo : o.ws.length ≤ 9223372036854775807 ∧ o.ks.length ≤ 9223372036854775807 ∧ o.vs.length ≤ 9223372036854775807 ∧ o.cs.length ≤ 9223372036854775807) :
    Calls Tryd.prog 19 #[sval s h, sval o i] w fun e w' => e = .returned (.bool (sameB s o)) ∧ Below w.heap.size w w' := by
  have HR : Hid (∀ w1, Below w.heap.size w w1 → SRd w1 s h ∧ SRd w1 o i) := Lib.hid fun w1 hb => ⟨Rs.mono hb (Nat.le_refl _), Ro.mono hb (Nat.le_refl _)⟩
  have HB : Hid (∀ x y, Below w.heap.size w ((w.alloc x).alloc y)) := Lib.hid fun x y => ((Below.refl _ w).alloc (Nat.le_refl _) _).alloc (by simp) _
  clear Rs Ro
  obtain ⟨l1, l2, l3, l4⟩ := ls
  obtain ⟨m1, m2, m3, m4⟩ := lo
  have HB0 : Hid (∀ x y, Below (w.heap.size + 2) ((w.alloc x).alloc y) ((w.alloc x).alloc y)) := Lib.hid fun x y => Below.refl _ _
  by_cases h1 : ¬ s.seg = o.seg
  · have HV : Hid (sameB s o = false) := Lib.hid (by unfold sameB; simp [h1])
    have e1 : (s.seg == o.seg) = false := by rw [beq_eq_false_iff_ne]; exact h1
    rw [HV.out]
    clear h1
    go_enter Tryd.func19, Tryd.ntmps19
    go_wp2
    go_ret
    exact ⟨rfl, HB.out _ _⟩
  have h1 := Classical.not_not.1 h1
  by_cases h2 : ¬ s.laid = o.laid
  · have HV : Hid (sameB s o = false) := Lib.hid (by unfold sameB; simp [h2])
    have e1 : (s.seg == o.seg) = true := by rw [beq_iff_eq]; exact h1
    have e2 : (s.laid == o.laid) = false := by rw [beq_eq_false_iff_ne]; exact h2
    rw [HV.out]
    clear h1 h2
    go_enter Tryd.func19, Tryd.ntmps19
    go_wp2
    go_ret
    exact ⟨rfl, HB.out _ _⟩
  have h2 := Classical.not_not.1 h2
  have HV : Hid (sameB s o = (decide (s.ws = o.ws) && (decide (s.ks = o.ks) && (decide (s.vs = o.vs) && decide (s.cs = o.cs))))) := Lib.hid (by unfold sameB; simp [h1, h2])
  have e1 : (s.seg == o.seg) = true := by rw [beq_iff_eq]; exact h1
  have e2 : (s.laid == o.laid) = true := by rw [beq_iff_eq]; exact h2
  rw [HV.out]
  clear h1 h2 HV
  unfold sval
  have HC1 := Lib.hid (fun w1 (hb : Below w.heap.size w w1) => sameWords_any h.aw i.aw h.cw i.cw s.ws o.ws w1 (HR.out w1 hb).1.fw (HR.out w1 hb).2.fw (by omega) (by omega))
  have HC2 := Lib.hid (fun w1 (hb : Below w.heap.size w w1) => sameKeys_any h.ak i.ak h.ck i.ck s.ks o.ks w1 (HR.out w1 hb).1.fk (HR.out w1 hb).2.fk (by omega) (by omega))
  have HC3 := Lib.hid (fun w1 (hb : Below w.heap.size w w1) => sameKeys_any h.av i.av h.cv i.cv s.vs o.vs w1 (HR.out w1 hb).1.fv (HR.out w1 hb).2.fv (by omega) (by omega))
  have HC4 := Lib.hid (fun w1 (hb : Below w.heap.size w w1) => sameInts_any h.ac i.ac h.cc i.cc s.cs o.cs w1 (HR.out w1 hb).1.fc (HR.out w1 hb).2.fc (by omega) (by omega))
  generalize decide (s.ws = o.ws) = b1 at *
  generalize decide (s.ks = o.ks) = b2 at *
  generalize decide (s.vs = o.vs) = b3 at *
  generalize decide (s.cs = o.cs) = b4 at *
  generalize s.ws.length = n1 at *
  generalize o.ws.length = p1 at *
  generalize s.ks.length = n2 at *
  generalize o.ks.length = p2 at *
  generalize s.vs.length = n3 at *
  generalize o.vs.length = p3 at *
  generalize s.cs.length = n4 at *
  generalize o.cs.length = p4 at *
  go_enter Tryd.func19, Tryd.ntmps19
  go_wp2_with fail
  refine (HC1.out _ (HB.out _ _)).mono ?_
  rintro e w1 ⟨rfl, hb⟩
  have HA1 := Lib.hid ((HB.out _ _).trans (hb.mono (HB.out _ _).size))
  obtain ⟨⟨c0, c1, c2, c3, c4, c5⟩, d0, d1, d2, d3, d4, d5⟩ := box66 (by simpa using hb)
  have HX1 := Lib.hid hb
  clear hb c0 c1 c5 d0 d1 d5
  cases b1
  · go_wp2
    go_ret
    exact ⟨rfl, HA1.out⟩
  go_wp2_with fail
  refine (HC2.out _ HA1.out).mono ?_
  rintro e w2 ⟨rfl, hb⟩
  have HA2 := Lib.hid (HA1.out.trans (hb.mono HA1.out.size))
  clear c2 c3 c4 d2 d3 d4
  have HX2 := Lib.hid (HX1.out.trans (hb.mono HX1.out.size))
  obtain ⟨⟨c0, c1, c2, c3, c4, c5⟩, d0, d1, d2, d3, d4, d5⟩ := box66 (by simpa using HX2.out)
  clear hb c0 c1 c2 c5 d0 d1 d2 d5
  cases b2
  · go_wp2
    go_ret
    exact ⟨rfl, HA2.out⟩
  go_wp2_with fail
  refine (HC3.out _ HA2.out).mono ?_
  rintro e w3 ⟨rfl, hb⟩
  have HA3 := Lib.hid (HA2.out.trans (hb.mono HA2.out.size))
  clear c3 c4 d3 d4
  have HX3 := Lib.hid (HX2.out.trans (hb.mono HX2.out.size))
  obtain ⟨⟨c0, c1, c2, c3, c4, c5⟩, d0, d1, d2, d3, d4, d5⟩ := box66 (by simpa using HX3.out)
  clear hb c0 c1 c2 c3 c5 d0 d1 d2 d3 d5
  cases b3
  · go_wp2
    go_ret
    exact ⟨rfl, HA3.out⟩
  go_wp2_with fail
  refine (HC4.out _ HA3.out).mono ?_
  rintro e w4 ⟨rfl, hb⟩
  have HA4 := Lib.hid (HA3.out.trans (hb.mono HA3.out.size))
  clear hb
  go_wp2
  go_ret
  exact ⟨rfl, HA4.out⟩

end Go.Proofs.YtljfbhkoppahaaaDoor.Slo

namespace Go.Proofs.YtljfbhkoppahaaaDoor.Slo
open Go.RowKit Go.Sort Go.Proofs.YtljfbhkoppahaaaDoor Go.Proofs.YtljfbhkoppahaaaDoor.Occ Go.Proofs.YtljfbhkoppahaaaDoor.Frac
attribute [local go_sem] sval

theorem below_eq {n : Nat} {a b : World} (h : a = b) : RowKit.Below n a b := by subst h; exact RowKit.Below.refl _ _
def bl (a : Option Addr) : Option Nat := a.map (·.block)
theorem ownBlock_slice (a : Option Addr) (n c : Nat) : (Value.slice a n c).ownBlock = bl a := by cases a <;> rfl
/-- Two slices that share no block. -/
def Ap (a b : Option Addr) : Prop := ∀ k, bl a = some k → bl b ≠ some k
theorem Ap.symm {a b : Option Addr} (h : Ap a b) : Ap b a := fun k h1 h2 => h k h2 h1
theorem Ap.of {a b : Option Addr} {n : Nat} (h1 : ∀ k, bl a = some k → k < n) (h2 : ∀ k, bl b = some k → n ≤ k) : Ap a b := fun k e1 e2 => by have := h1 k e1; have := h2 k e2; omega
/-- A gapped array whose slices are the holder's own: four rows apart, in blocks from lo on, ahead of hi. -/
structure SOwn (w : World) (lo hi : Nat) (s : Sl) (h : Hd) : Prop where
  ow : w.ownsRow lo 25 1 (.slice h.aw s.ws.length h.cw) s.ws.length (numsK .u64 s.ws)
  ok : w.ownsRow lo 2 1 (.slice h.ak s.ks.length h.ck) s.ks.length (numsK .i64 s.ks)
  ov : w.ownsRow lo 2 1 (.slice h.av s.vs.length h.cv) s.vs.length (numsK .i64 s.vs)
  oc : w.ownsRow lo 3 1 (.slice h.ac s.cs.length h.cc) s.cs.length (numsK .i64 s.cs)
  hw : ∀ k, bl h.aw = some k → k < hi
  hk : ∀ k, bl h.ak = some k → k < hi
  hv : ∀ k, bl h.av = some k → k < hi
  hc : ∀ k, bl h.ac = some k → k < hi
  wk : Ap h.aw h.ak
  wv : Ap h.aw h.av
  wc : Ap h.aw h.ac
  kv : Ap h.ak h.av
  kc : Ap h.ak h.ac
  vc : Ap h.av h.ac
theorem own_lt {w : World} {lo n m c : Nat} {e : TypeId} {a : Option Addr} {xs : List Value} (h : w.ownsRow lo e 1 (.slice a n c) m xs) : ∀ k, bl a = some k → lo ≤ k ∧ k < w.heap.size := fun k hk => h.lt k (by rw [ownBlock_slice]; exact hk)
theorem SOwn.below {w w' : World} {lo hi : Nat} {s : Sl} {h : Hd} (o : SOwn w lo hi s h) (hb : RowKit.Below w.heap.size w w') : SOwn w' lo hi s h :=
  ⟨owns_below o.ow hb, owns_below o.ok hb, owns_below o.ov hb, owns_below o.oc hb, o.hw, o.hk, o.hv, o.hc, o.wk, o.wv, o.wc, o.kv, o.kc, o.vc⟩
theorem rd_owns {k : IntKind} {w : World} {lo n c : Nat} {e : TypeId} {a : Option Addr} {zs : List Int} (h : w.ownsRow lo e 1 (.slice a zs.length c) n (numsK k zs)) : Rd k w a zs := by
  obtain ⟨a2, c2, e2, _, hr, _⟩ := owns_arg (k := k) h
  cases e2
  exact hr
theorem SOwn.rd {w : World} {lo hi : Nat} {s : Sl} {h : Hd} (o : SOwn w lo hi s h) : SRd w s h := ⟨rd_owns o.ow, rd_owns o.ok, rd_owns o.ov, rd_owns o.oc⟩
/-- Its slices' addresses are rows' beginnings, or none. -/
structure HPl (h : Hd) : Prop where
  w : Plain h.aw
  k : Plain h.ak
  v : Plain h.av
  c : Plain h.ac
theorem SOwn.pl {w : World} {lo hi : Nat} {s : Sl} {h : Hd} (o : SOwn w lo hi s h) : HPl h := ⟨Plain.of_owns o.ow, Plain.of_owns o.ok, Plain.of_owns o.ov, Plain.of_owns o.oc⟩

theorem own_slice {w : World} {lo n : Nat} {e : TypeId} {v : Value} {xs : List Value} (h : w.ownsRow lo e 1 v n xs) : ∃ a c, v = .slice a n c := by
  rcases h.2 with ⟨h1, h2⟩ | ⟨g, cap, cur, h1, _⟩
  · exact ⟨Option.none, 0, by rw [h1, h2]⟩
  · exact ⟨_, _, h1⟩
theorem grown_setCell (w : World) (p : Addr) (u : Value) : w.grownBy (w.setCell p u) (some p.block) :=
  ⟨rfl, rfl, rfl, by simp, fun k _ hk => heap_setCell_other w p k u (fun e => hk (by simp [e]))⟩
/-- A store ahead of a row's blocks. -/
theorem own_set {w : World} {lo n m : Nat} {e : TypeId} {v : Value} {xs : List Value} (h : w.ownsRow lo e m v n xs) (p : Addr) (u : Value) (hp : p.block < lo) : (w.setCell p u).ownsRow lo e m v n xs :=
  h.kept (grown_setCell w p u) (by
    cases hv : v.ownBlock with
    | none => exact .inl rfl
    | some k => right; intro h2; have := h.lt k hv; cases h2; omega)
theorem frozen_new (w : World) (cs : Array Value) (t : TypeId) (j : Nat) : (w.alloc (.cells cs t)).frozen? ⟨w.heap.size, j, Option.none⟩ = false := by
  exact frozen_of_row _ _ _ _ _ (heap_alloc_new w _)
theorem box_frozen {w wr : World} {cs : Array Value} {t : TypeId} (h : RowKit.Below (w.heap.size + 1) (w.alloc (.cells cs t)) wr) (j : Nat) : wr.frozen? ⟨w.heap.size, j, Option.none⟩ = false := by
  rw [h.frozen (p := ⟨w.heap.size, j, Option.none⟩) (by show w.heap.size < w.heap.size + 1; omega)]
  exact frozen_new w cs t j
theorem box66_frozen {w wr : World} {cs ds : Array Value} {t u : TypeId} (h : RowKit.Below (w.heap.size + 1 + 1) ((w.alloc (.cells cs t)).alloc (.cells ds u)) wr) (j : Nat) : wr.frozen? ⟨w.heap.size, j, Option.none⟩ = false ∧ wr.frozen? ⟨w.heap.size + 1, j, Option.none⟩ = false := by
  have a1 : RowKit.Below (w.heap.size + 1) (w.alloc (.cells cs t)) wr := ((RowKit.Below.refl _ _).alloc (by simp) _).trans (h.mono (by omega))
  have a2 : RowKit.Below ((w.alloc (.cells cs t)).heap.size + 1) ((w.alloc (.cells cs t)).alloc (.cells ds u)) wr := by simpa using h
  have b2 := box_frozen a2 j
  simp only [World.size_alloc] at b2
  exact ⟨box_frozen a1 j, b2⟩

set_option maxRecDepth 100000 in
set_option maxHeartbeats 4000000 in
theorem sTwin_any (s : Sl) (h : Hd) (w : World) (W : s.Wf) (R : SRd w s h) (Pl : HPl h) :
    Calls Tryd.prog 39 #[sval s h] w fun e w' => ∃ h', e = .returned (sval s h') ∧ SOwn w' w.heap.size w'.heap.size s h' ∧ RowKit.Below w.heap.size w w' := by
  have HC1 := Lib.hid (fun w1 (hb : RowKit.Below w.heap.size w w1) => cloneU_any h.aw h.cw s.ws w1 (R.fw.mono hb (Nat.le_refl _)) Pl.w W.lw)
  have HC2 := Lib.hid (fun w1 (hb : RowKit.Below w.heap.size w w1) => cloneK_any h.ak h.ck s.ks w1 (R.fk.mono hb (Nat.le_refl _)) Pl.k W.lk)
  have HC3 := Lib.hid (fun w1 (hb : RowKit.Below w.heap.size w w1) => cloneK_any h.av h.cv s.vs w1 (R.fv.mono hb (Nat.le_refl _)) Pl.v W.lv)
  have HC4 := Lib.hid (fun w1 (hb : RowKit.Below w.heap.size w w1) => cloneI_any h.ac h.cc s.cs w1 (R.fc.mono hb (Nat.le_refl _)) Pl.c W.lc)
  have HB : Hid (∀ x y, RowKit.Below w.heap.size w ((w.alloc x).alloc y)) := Lib.hid fun x y => ((RowKit.Below.refl _ w).alloc (Nat.le_refl _) _).alloc (by simp) _
  clear W R Pl
  unfold sval
  generalize hsw : s.ws.length = nw at *
  generalize hsk : s.ks.length = nk at *
  generalize hsv : s.vs.length = nv at *
  generalize hsc : s.cs.length = nc at *
  have HSW := Lib.hid hsw; have HSK := Lib.hid hsk; have HSV := Lib.hid hsv; have HSC := Lib.hid hsc
  clear hsw hsk hsv hsc
  go_enter Tryd.func39, Tryd.ntmps39
  go_wp2
  generalize hw0 : (World.alloc (World.alloc w _) _) = w0
  have HB0 : Hid (RowKit.Below (w.heap.size + 1 + 1) _ w0) := Lib.hid (below_eq hw0)
  have hsz : w0.heap.size = w.heap.size + 2 := by rw [← hw0]; simp
  have HBw : Hid (RowKit.Below w.heap.size w w0) := Lib.hid (by rw [← hw0]; exact HB.out _ _)
  clear hw0
  obtain ⟨⟨c0, c1, c2, c3, c4, c5⟩, -⟩ := box66 HB0.out
  have k1 := cell_regrown c1; have k2 := cell_regrown c2; have k3 := cell_regrown c3; have k4 := cell_regrown c4
  refine Mix.wp_region_plan (fun w' => ∃ p : Regrown, w' = grow (redrawn w0 p.d) p.os) [11] [.free [true, false, false, true, false, false, true, false, false, true], .dep [false, true, false, false, true, false, false, true, false, false, true], .run [false, false, true], .free [false, false, false, false, false, false, false, false, false, false, false, false, true], .run [false, false, false, false, false, true, false, false, true]]
    #[true, true, true, true, true, true, true, true, true, true, true, false, true, false, false, false, false, false, false, false] 8 mixed' (by kernel_rfl) (by kernel_rfl) (by kernel_rfl) (fun _ _ _ _ _ h => h) ⟨⟨w0.drawn + 1, #[]⟩, by rw [grow_empty]; rfl⟩ ?_
  simp only [Mix.wpPlan, Mix.maskL]
  repeat (go_big_quiet_step (fail))
  refine wpQuiet_nil ?_
  repeat (go_big_quiet_step (fail))
  refine wpQuiet_nil ?_
  unfold Mix.wpListS
  go_wp2_with fail
  refine (HC1.out _ (HBw.out.drew)).mono ?_
  rintro e w1 ⟨v1, rfl, ho1, hb1⟩
  obtain ⟨a1, p1, rfl⟩ := own_slice ho1
  have HO1 := Lib.hid ho1
  have HB1 : Hid (RowKit.Below w0.heap.size w0 w1) := Lib.hid ((RowKit.Below.refl _ w0).drew.trans hb1)
  clear ho1 hb1
  go_wp2_with fail
  refine ⟨regrown_of_below HB1.out, ?_⟩
  unfold Mix.wpListS
  repeat (go_big_quiet_step (fail))
  refine wpQuiet_nil ?_
  unfold Mix.wpListS
  go_wp2_with fail
  refine (HC2.out _ (HBw.out.trans (HB1.out.mono HBw.out.size))).mono ?_
  rintro e w2 ⟨v2, rfl, ho2, hb2⟩
  obtain ⟨a2, p2, rfl⟩ := own_slice ho2
  have HO2 := Lib.hid (And.intro (owns_below HO1.out hb2) ho2)
  have HB2 : Hid (RowKit.Below w0.heap.size w0 w2) := Lib.hid (HB1.out.trans (hb2.mono HB1.out.size))
  have HZ2 := Lib.hid hb2.size
  clear ho2 hb2
  go_wp2_with fail
  refine ⟨regrown_of_below HB2.out, ?_⟩
  unfold Mix.wpListS
  go_wp2_with fail
  refine (HC3.out _ (HBw.out.trans (HB2.out.mono HBw.out.size))).mono ?_
  rintro e w3 ⟨v3, rfl, ho3, hb3⟩
  obtain ⟨a3, p3, rfl⟩ := own_slice ho3
  have HO3 := Lib.hid (And.intro (owns_below HO2.out.1 hb3) (And.intro (owns_below HO2.out.2 hb3) ho3))
  have HB3 : Hid (RowKit.Below w0.heap.size w0 w3) := Lib.hid (HB2.out.trans (hb3.mono HB2.out.size))
  have HZ3 := Lib.hid hb3.size
  clear ho3 hb3
  go_wp2_with fail
  refine ⟨regrown_of_below HB3.out, ?_⟩
  unfold Mix.wpListS
  refine Mix.wpAny_tail [false, false, false, false, false, false, false, false, false, false, false, true, false, true, true, true, true, true, true, true] (Array.replicate 20 true) (by kernel_rfl) (by kernel_rfl) ?_
  simp only [Mix.maskL]
  go_wp2_with fail
  refine (HC4.out _ (HBw.out.trans (HB3.out.mono HBw.out.size))).mono ?_
  rintro e w4 ⟨v4, rfl, ho4, hb4⟩
  obtain ⟨a4, p4, rfl⟩ := own_slice ho4
  have HO4 := Lib.hid (And.intro (owns_below HO3.out.1 hb4) (And.intro (owns_below HO3.out.2.1 hb4) (And.intro (owns_below HO3.out.2.2 hb4) ho4)))
  have HB4 : Hid (RowKit.Below w0.heap.size w0 w4) := Lib.hid (HB3.out.trans (hb4.mono HB3.out.size))
  have HZ4 := Lib.hid hb4.size
  clear ho4 hb4 c0 c1 c2 c3 c4 c5 k1 k2 k3 k4 HC1 HC2 HC3 HC4
  have HBX := Lib.hid (HB0.out.trans (HB4.out.mono (show w.heap.size + 1 + 1 ≤ w0.heap.size by omega)))
  obtain ⟨⟨c0, c1, c2, c3, c4, c5⟩, d0, d1, d2, d3, d4, d5⟩ := box66 HBX.out
  have f1 := (box66_frozen HBX.out 1).1; have f2 := (box66_frozen HBX.out 2).1; have f3 := (box66_frozen HBX.out 3).1; have f4 := (box66_frozen HBX.out 4).1
  have f10 := (box66_frozen HBX.out 0).2; have f11 := (box66_frozen HBX.out 1).2; have f12 := (box66_frozen HBX.out 2).2; have f13 := (box66_frozen HBX.out 3).2; have f14 := (box66_frozen HBX.out 4).2; have f15 := (box66_frozen HBX.out 5).2
  go_wp2
  refine bodyPost_ret (v := sval s ⟨a1, p1, a2, p2, a3, p3, a4, p4⟩) (by unfold sval; rw [HSW.out, HSK.out, HSV.out, HSC.out]; simp [results, Tryd.results39, go_sem, *]) rfl ⟨⟨a1, p1, a2, p2, a3, p3, a4, p4⟩, by unfold sval; rw [HSW.out, HSK.out, HSV.out, HSC.out], ?_, ?_⟩
  · have e1 : w0.drew.heap.size = w.heap.size + 2 := hsz
    obtain ⟨o1, o2, o3, o4⟩ := HO4.out
    have z1 := HB1.out.size
    have l1 := own_lt HO1.out
    have l2 := own_lt HO2.out.2
    have l3 := own_lt HO3.out.2.2
    have l4 := own_lt o4
    have z2 := HZ2.out
    have z3 := HZ3.out
    have z4 := HZ4.out
    have low : w.heap.size + 2 ≤ w1.heap.size := by omega
    have S1 : ∀ {b n : Nat} {e : TypeId} {v : Value} {xs : List Value}, w.heap.size + 2 ≤ b → w4.ownsRow b e 1 v n xs → (((((((((((w4.setCell ⟨w.heap.size, 1, Option.none⟩ (.slice a1 nw p1)).setCell ⟨w.heap.size, 2, Option.none⟩ (.slice a2 nk p2)).setCell ⟨w.heap.size, 3, Option.none⟩ (.slice a3 nv p3)).setCell ⟨w.heap.size, 4, Option.none⟩ (.slice a4 nc p4)).setCell ⟨w.heap.size + 1, 0, Option.none⟩ (.int .i64 s.seg)).setCell ⟨w.heap.size + 1, 1, Option.none⟩ (.slice a1 nw p1)).setCell ⟨w.heap.size + 1, 2, Option.none⟩ (.slice a2 nk p2)).setCell ⟨w.heap.size + 1, 3, Option.none⟩ (.slice a3 nv p3)).setCell ⟨w.heap.size + 1, 4, Option.none⟩ (.slice a4 nc p4)).setCell ⟨w.heap.size + 1, 5, Option.none⟩ (.int .u64 s.laid))).ownsRow w.heap.size e 1 v n xs := fun {b n e v xs} hb h => by
      have : ∀ (w9 : World) (p : Addr) (u : Value), p.block ≤ w.heap.size + 1 → w9.ownsRow b e 1 v n xs → (w9.setCell p u).ownsRow b e 1 v n xs := fun w9 p u hp h => own_set h p u (by omega)
      exact World.ownsRow.mono (this _ _ _ (by simp) (this _ _ _ (by simp) (this _ _ _ (by simp) (this _ _ _ (by simp) (this _ _ _ (by simp) (this _ _ _ (by simp) (this _ _ _ (by simp) (this _ _ _ (by simp) (this _ _ _ (by simp) (this _ _ _ (by simp) h)))))))))) (by omega)
    refine ⟨by rw [HSW.out]; exact S1 (by omega) o1, by rw [HSK.out]; exact S1 (by omega) o2, by rw [HSV.out]; exact S1 (by omega) o3, by rw [HSC.out]; exact S1 (by omega) o4, ?_, ?_, ?_, ?_, ?_, ?_, ?_, ?_, ?_, ?_⟩
    · intro k hk; have := l1 k hk; simp; omega
    · intro k hk; have := l2 k hk; simp; omega
    · intro k hk; have := l3 k hk; simp; omega
    · intro k hk; have := l4 k hk; simp; omega
    · exact Ap.of (n := w1.heap.size) (fun k hk => (l1 k hk).2) (fun k hk => (l2 k hk).1)
    · exact Ap.of (n := w1.heap.size) (fun k hk => (l1 k hk).2) (fun k hk => Nat.le_trans z2 (l3 k hk).1)
    · exact Ap.of (n := w1.heap.size) (fun k hk => (l1 k hk).2) (fun k hk => Nat.le_trans z2 (Nat.le_trans z3 (l4 k hk).1))
    · exact Ap.of (n := w2.heap.size) (fun k hk => (l2 k hk).2) (fun k hk => (l3 k hk).1)
    · exact Ap.of (n := w2.heap.size) (fun k hk => (l2 k hk).2) (fun k hk => Nat.le_trans z3 (l4 k hk).1)
    · exact Ap.of (n := w3.heap.size) (fun k hk => (l3 k hk).2) (fun k hk => (l4 k hk).1)
  · have hb := HBw.out.trans (HB4.out.mono HBw.out.size)
    exact (((((((((hb.setCell (by simp) _).setCell (by simp) _).setCell (by simp) _).setCell (by simp) _).setCell (by simp) _).setCell (by simp) _).setCell (by simp) _).setCell (by simp) _).setCell (by simp) _).setCell (by simp) _
end Go.Proofs.YtljfbhkoppahaaaDoor.Slo

namespace Go.Proofs.YtljfbhkoppahaaaDoor.Slo
open Go.RowKit Go.Proofs.YtljfbhkoppahaaaDoor Go.Proofs.YtljfbhkoppahaaaDoor.Occ Go.Proofs.YtljfbhkoppahaaaDoor.Frac

/-- The four rows lie in blocks of their own; the struct lies in block p, behind them. -/
structure Arr (w : World) (lo hi p : Nat) (s : Sl) (h : Hd) : Prop where
  own : SOwn w lo hi s h
  low : lo ≤ hi
  pb : hi ≤ p
  pl : p < w.heap.size
  b0 : w.cell? ⟨p, 0, Option.none⟩ = some (.int .i64 s.seg)
  b1 : w.cell? ⟨p, 1, Option.none⟩ = some (.slice h.aw s.ws.length h.cw)
  b2 : w.cell? ⟨p, 2, Option.none⟩ = some (.slice h.ak s.ks.length h.ck)
  b3 : w.cell? ⟨p, 3, Option.none⟩ = some (.slice h.av s.vs.length h.cv)
  b4 : w.cell? ⟨p, 4, Option.none⟩ = some (.slice h.ac s.cs.length h.cc)
  b5 : w.cell? ⟨p, 5, Option.none⟩ = some (.int .u64 s.laid)
  fz : ∀ j, w.frozen? ⟨p, j, Option.none⟩ = false

theorem bl_some (g : Nat) : bl (some ⟨g, 0, Option.none⟩) = some g := rfl
theorem numsK_at {k : IntKind} {zs : List Int} {i : Nat} (h : i < zs.length) : (numsK k zs)[i]? = some (.int k (zs.getD i 0)) := numsK_get h

theorem Arr.below {w w' : World} {lo hi p : Nat} {s : Sl} {h : Hd} (A : Arr w lo hi p s h) (hb : Below w.heap.size w w') : Arr w' lo hi p s h := by
  have hp := A.pl
  exact ⟨A.own.below hb, A.low, A.pb, Nat.lt_of_lt_of_le hp hb.size, (hb.cell (p := ⟨p, 0, Option.none⟩) hp).trans A.b0, (hb.cell (p := ⟨p, 1, Option.none⟩) hp).trans A.b1, (hb.cell (p := ⟨p, 2, Option.none⟩) hp).trans A.b2,
    (hb.cell (p := ⟨p, 3, Option.none⟩) hp).trans A.b3, (hb.cell (p := ⟨p, 4, Option.none⟩) hp).trans A.b4, (hb.cell (p := ⟨p, 5, Option.none⟩) hp).trans A.b5, fun j => (hb.frozen (p := ⟨p, j, Option.none⟩) hp).trans (A.fz j)⟩
theorem Arr.drew {w : World} {lo hi p : Nat} {s : Sl} {h : Hd} (A : Arr w lo hi p s h) : Arr w.drew lo hi p s h := A.below (Below.refl _ w).drew
/-- A store into another block than any of them. -/
theorem own_other {w : World} {lo n m c : Nat} {e : TypeId} {a : Option Addr} {xs : List Value} (h : w.ownsRow lo e 1 (.slice a n c) m xs) (q : Addr) (u : Value) (hq : bl a ≠ some q.block) : (w.setCell q u).ownsRow lo e 1 (.slice a n c) m xs :=
  h.kept (grown_setCell w q u) (by rw [ownBlock_slice]; exact .inr hq)
section
variable {w : World} {lo hi p : Nat} {s : Sl} {h : Hd} (A : Arr w lo hi p s h)
include A
theorem Arr.box {q : Addr} {u : Value} (hq : q.block < hi) : (w.setCell q u).cell? ⟨p, 0, Option.none⟩ = some (.int .i64 s.seg) ∧ (w.setCell q u).cell? ⟨p, 1, Option.none⟩ = some (.slice h.aw s.ws.length h.cw) ∧
    (w.setCell q u).cell? ⟨p, 2, Option.none⟩ = some (.slice h.ak s.ks.length h.ck) ∧ (w.setCell q u).cell? ⟨p, 3, Option.none⟩ = some (.slice h.av s.vs.length h.cv) ∧ (w.setCell q u).cell? ⟨p, 4, Option.none⟩ = some (.slice h.ac s.cs.length h.cc) ∧
    (w.setCell q u).cell? ⟨p, 5, Option.none⟩ = some (.int .u64 s.laid) ∧ ∀ j, (w.setCell q u).frozen? ⟨p, j, Option.none⟩ = false := by
  have hne : ∀ j, q ≠ ⟨p, j, Option.none⟩ := fun j e => by have := A.pb; rw [e] at hq; have : p < hi := hq; omega
  refine ⟨(World.cell?_setCell_other _ _ _ _ (hne 0)).trans A.b0, (World.cell?_setCell_other _ _ _ _ (hne 1)).trans A.b1, (World.cell?_setCell_other _ _ _ _ (hne 2)).trans A.b2, (World.cell?_setCell_other _ _ _ _ (hne 3)).trans A.b3, (World.cell?_setCell_other _ _ _ _ (hne 4)).trans A.b4, (World.cell?_setCell_other _ _ _ _ (hne 5)).trans A.b5, fun j => ?_⟩
  rw [World.frozen?_setCell]; exact A.fz j
theorem Arr.set_w {g j : Nat} (x : Int) (hg : h.aw = some ⟨g, 0, Option.none⟩) : Arr (w.setCell ⟨g, j, Option.none⟩ (.int .u64 x)) lo hi p { s with ws := s.ws.set j x } h := by
  have o := A.own
  have hgh := o.hw g (by rw [hg]; rfl)
  obtain ⟨c0, c1, c2, c3, c4, c5, cf⟩ := A.box (q := ⟨g, j, Option.none⟩) (u := .int .u64 x) hgh
  have hn : ∀ a, Ap h.aw a → bl a ≠ some g := fun a ha => ha g (by rw [hg]; rfl)
  have ow := o.ow
  rw [hg] at ow
  refine ⟨⟨?_, own_other o.ok _ _ (hn _ o.wk), own_other o.ov _ _ (hn _ o.wv), own_other o.oc _ _ (hn _ o.wc), o.hw, o.hk, o.hv, o.hc, o.wk, o.wv, o.wc, o.kv, o.kc, o.vc⟩, A.low, A.pb, by simpa using A.pl, c0, ?_, c2, c3, c4, c5, cf⟩
  · show World.ownsRow _ _ _ _ (.slice h.aw (s.ws.set j x).length h.cw) (s.ws.set j x).length (numsK .u64 (s.ws.set j x))
    rw [hg, List.length_set, numsK_set]; exact (ow.stored j _).1
  · show _ = some (Value.slice h.aw (s.ws.set j x).length h.cw); rw [List.length_set]; exact c1
theorem Arr.set_k {g j : Nat} (x : Int) (hg : h.ak = some ⟨g, 0, Option.none⟩) : Arr (w.setCell ⟨g, j, Option.none⟩ (.int .i64 x)) lo hi p { s with ks := s.ks.set j x } h := by
  have o := A.own
  have hgh := o.hk g (by rw [hg]; rfl)
  obtain ⟨c0, c1, c2, c3, c4, c5, cf⟩ := A.box (q := ⟨g, j, Option.none⟩) (u := .int .i64 x) hgh
  have hn : ∀ a, Ap h.ak a → bl a ≠ some g := fun a ha => ha g (by rw [hg]; rfl)
  have ow := o.ok
  rw [hg] at ow
  refine ⟨⟨own_other o.ow _ _ (hn _ o.wk.symm), ?_, own_other o.ov _ _ (hn _ o.kv), own_other o.oc _ _ (hn _ o.kc), o.hw, o.hk, o.hv, o.hc, o.wk, o.wv, o.wc, o.kv, o.kc, o.vc⟩, A.low, A.pb, by simpa using A.pl, c0, c1, ?_, c3, c4, c5, cf⟩
  · show World.ownsRow _ _ _ _ (.slice h.ak (s.ks.set j x).length h.ck) (s.ks.set j x).length (numsK .i64 (s.ks.set j x))
    rw [hg, List.length_set, numsK_set]; exact (ow.stored j _).1
  · show _ = some (Value.slice h.ak (s.ks.set j x).length h.ck); rw [List.length_set]; exact c2
theorem Arr.set_v {g j : Nat} (x : Int) (hg : h.av = some ⟨g, 0, Option.none⟩) : Arr (w.setCell ⟨g, j, Option.none⟩ (.int .i64 x)) lo hi p { s with vs := s.vs.set j x } h := by
  have o := A.own
  have hgh := o.hv g (by rw [hg]; rfl)
  obtain ⟨c0, c1, c2, c3, c4, c5, cf⟩ := A.box (q := ⟨g, j, Option.none⟩) (u := .int .i64 x) hgh
  have hn : ∀ a, Ap h.av a → bl a ≠ some g := fun a ha => ha g (by rw [hg]; rfl)
  have ow := o.ov
  rw [hg] at ow
  refine ⟨⟨own_other o.ow _ _ (hn _ o.wv.symm), own_other o.ok _ _ (hn _ o.kv.symm), ?_, own_other o.oc _ _ (hn _ o.vc), o.hw, o.hk, o.hv, o.hc, o.wk, o.wv, o.wc, o.kv, o.kc, o.vc⟩, A.low, A.pb, by simpa using A.pl, c0, c1, c2, ?_, c4, c5, cf⟩
  · show World.ownsRow _ _ _ _ (.slice h.av (s.vs.set j x).length h.cv) (s.vs.set j x).length (numsK .i64 (s.vs.set j x))
    rw [hg, List.length_set, numsK_set]; exact (ow.stored j _).1
  · show _ = some (Value.slice h.av (s.vs.set j x).length h.cv); rw [List.length_set]; exact c3
theorem Arr.set_c {g j : Nat} (x : Int) (hg : h.ac = some ⟨g, 0, Option.none⟩) : Arr (w.setCell ⟨g, j, Option.none⟩ (.int .i64 x)) lo hi p { s with cs := s.cs.set j x } h := by
  have o := A.own
  have hgh := o.hc g (by rw [hg]; rfl)
  obtain ⟨c0, c1, c2, c3, c4, c5, cf⟩ := A.box (q := ⟨g, j, Option.none⟩) (u := .int .i64 x) hgh
  have hn : ∀ a, Ap h.ac a → bl a ≠ some g := fun a ha => ha g (by rw [hg]; rfl)
  have ow := o.oc
  rw [hg] at ow
  refine ⟨⟨own_other o.ow _ _ (hn _ o.wc.symm), own_other o.ok _ _ (hn _ o.kc.symm), own_other o.ov _ _ (hn _ o.vc.symm), ?_, o.hw, o.hk, o.hv, o.hc, o.wk, o.wv, o.wc, o.kv, o.kc, o.vc⟩, A.low, A.pb, by simpa using A.pl, c0, c1, c2, c3, ?_, c5, cf⟩
  · show World.ownsRow _ _ _ _ (.slice h.ac (s.cs.set j x).length h.cc) (s.cs.set j x).length (numsK .i64 (s.cs.set j x))
    rw [hg, List.length_set, numsK_set]; exact (ow.stored j _).1
  · show _ = some (Value.slice h.ac (s.cs.set j x).length h.cc); rw [List.length_set]; exact c4
/-- A store behind them all. -/
theorem Arr.set_other {q : Addr} {u : Value} (hq : p < q.block) : Arr (w.setCell q u) lo hi p s h := by
  have o := A.own
  have hpb := A.pb
  have hn : ∀ a, (∀ k, bl a = some k → k < hi) → bl a ≠ some q.block := fun a ha e => by have := ha _ e; omega
  have hne : ∀ j : Nat, q ≠ ⟨p, j, Option.none⟩ := fun j e => by rw [e] at hq; exact Nat.lt_irrefl _ hq
  exact ⟨⟨own_other o.ow _ _ (hn _ o.hw), own_other o.ok _ _ (hn _ o.hk), own_other o.ov _ _ (hn _ o.hv), own_other o.oc _ _ (hn _ o.hc), o.hw, o.hk, o.hv, o.hc, o.wk, o.wv, o.wc, o.kv, o.kc, o.vc⟩, A.low, A.pb, by simpa using A.pl,
    (World.cell?_setCell_other _ _ _ _ (hne 0)).trans A.b0, (World.cell?_setCell_other _ _ _ _ (hne 1)).trans A.b1, (World.cell?_setCell_other _ _ _ _ (hne 2)).trans A.b2, (World.cell?_setCell_other _ _ _ _ (hne 3)).trans A.b3, (World.cell?_setCell_other _ _ _ _ (hne 4)).trans A.b4, (World.cell?_setCell_other _ _ _ _ (hne 5)).trans A.b5, fun j => by rw [World.frozen?_setCell]; exact A.fz j⟩
theorem Arr.set_laid (x : Int) : Arr (w.setCell ⟨p, 5, Option.none⟩ (.int .u64 x)) lo hi p { s with laid := x } h := by
  have o := A.own
  have hpb := A.pb
  have hn : ∀ a, (∀ k, bl a = some k → k < hi) → bl a ≠ some p := fun a ha e => by have := ha p e; omega
  have hne : ∀ j : Nat, j ≠ 5 → (⟨p, 5, Option.none⟩ : Addr) ≠ ⟨p, j, Option.none⟩ := fun j hj e => by simp only [Addr.mk.injEq, true_and, and_true] at e; omega
  refine ⟨⟨own_other o.ow _ _ (hn _ o.hw), own_other o.ok _ _ (hn _ o.hk), own_other o.ov _ _ (hn _ o.hv), own_other o.oc _ _ (hn _ o.hc), o.hw, o.hk, o.hv, o.hc, o.wk, o.wv, o.wc, o.kv, o.kc, o.vc⟩, A.low, A.pb, by simpa using A.pl,
    (World.cell?_setCell_other _ _ _ _ (hne 0 (by decide))).trans A.b0, (World.cell?_setCell_other _ _ _ _ (hne 1 (by decide))).trans A.b1, (World.cell?_setCell_other _ _ _ _ (hne 2 (by decide))).trans A.b2, (World.cell?_setCell_other _ _ _ _ (hne 3 (by decide))).trans A.b3, (World.cell?_setCell_other _ _ _ _ (hne 4 (by decide))).trans A.b4, ?_, ?_⟩
  · exact World.cell?_setCell_same _ _ _ A.b5
  · intro j
    rw [World.frozen?_setCell]; exact A.fz j
end
end Go.Proofs.YtljfbhkoppahaaaDoor.Slo

namespace Go.Proofs.YtljfbhkoppahaaaDoor.Slo
open Go.RowKit Go.Proofs.YtljfbhkoppahaaaDoor Go.Proofs.YtljfbhkoppahaaaDoor.Occ Go.Proofs.YtljfbhkoppahaaaDoor.Frac

/-- What a walk is told of one slot. -/
theorem Arr.open {w : World} {lo hi p : Nat} {s : Sl} {h : Hd} (A : Arr w lo hi p s h) {a i j : Nat} (h1 : i < s.ws.length) (h2 : a < s.ks.length) (h3 : a < s.vs.length) (h4 : j < s.cs.length) :
    ∃ gw gk gv gc, (h.aw = some ⟨gw, 0, Option.none⟩ ∧ h.ak = some ⟨gk, 0, Option.none⟩ ∧ h.av = some ⟨gv, 0, Option.none⟩ ∧ h.ac = some ⟨gc, 0, Option.none⟩) ∧
      (w.cell? ⟨gw, i, Option.none⟩ = some (.int .u64 (s.ws.getD i 0)) ∧ w.cell? ⟨gk, a, Option.none⟩ = some (.int .i64 (s.ks.getD a 0)) ∧ w.cell? ⟨gv, a, Option.none⟩ = some (.int .i64 (s.vs.getD a 0)) ∧ w.cell? ⟨gc, j, Option.none⟩ = some (.int .i64 (s.cs.getD j 0))) ∧
      (w.frozen? ⟨gw, i, Option.none⟩ = false ∧ w.frozen? ⟨gk, a, Option.none⟩ = false ∧ w.frozen? ⟨gv, a, Option.none⟩ = false ∧ w.frozen? ⟨gc, j, Option.none⟩ = false) ∧
      (lo ≤ gw ∧ lo ≤ gk ∧ lo ≤ gv ∧ lo ≤ gc) ∧ (gw < hi ∧ gk < hi ∧ gv < hi ∧ gc < hi) := by
  have o := A.own
  obtain ⟨gw, c1, e1, l1, _⟩ := owns_form o.ow (by omega)
  obtain ⟨gk, c2, e2, l2, _⟩ := owns_form o.ok (by omega)
  obtain ⟨gv, c3, e3, l3, _⟩ := owns_form o.ov (by omega)
  obtain ⟨gc, c4, e4, l4, _⟩ := owns_form o.oc (by omega)
  simp only [Value.slice.injEq] at e1 e2 e3 e4
  have ow := o.ow
  have ok := o.ok
  have ov := o.ov
  have oc := o.oc
  rw [e1.1] at ow
  rw [e2.1] at ok
  rw [e3.1] at ov
  rw [e4.1] at oc
  refine ⟨gw, gk, gv, gc, ⟨e1.1, e2.1, e3.1, e4.1⟩, ⟨?_, ?_, ?_, ?_⟩, ⟨ow.frozenAt i, ok.frozenAt a, ov.frozenAt a, oc.frozenAt j⟩, ⟨l1, l2, l3, l4⟩, o.hw _ (by rw [e1.1]; rfl), o.hk _ (by rw [e2.1]; rfl), o.hv _ (by rw [e3.1]; rfl), o.hc _ (by rw [e4.1]; rfl)⟩
  · rw [ow.cellAt i (by omega), numsK_at h1]
  · rw [ok.cellAt a (by omega), numsK_at h2]
  · rw [ov.cellAt a (by omega), numsK_at h3]
  · rw [oc.cellAt j (by omega), numsK_at h4]

/-- .. its addresses being written out. -/
theorem Arr.at {w : World} {lo hi p gw gk gv gc cw ck cv cc : Nat} {s : Sl} (A : Arr w lo hi p s ⟨some ⟨gw, 0, Option.none⟩, cw, some ⟨gk, 0, Option.none⟩, ck, some ⟨gv, 0, Option.none⟩, cv, some ⟨gc, 0, Option.none⟩, cc⟩) {a i j nw nk nv nc : Nat}
    (n1 : s.ws.length = nw) (n2 : s.ks.length = nk) (n3 : s.vs.length = nv) (n4 : s.cs.length = nc) (h1 : i < nw) (h2 : a < nk) (h3 : a < nv) (h4 : j < nc) :
    (w.cell? ⟨gw, i, Option.none⟩ = some (.int .u64 (s.ws.getD i 0)) ∧ w.cell? ⟨gk, a, Option.none⟩ = some (.int .i64 (s.ks.getD a 0)) ∧ w.cell? ⟨gv, a, Option.none⟩ = some (.int .i64 (s.vs.getD a 0)) ∧ w.cell? ⟨gc, j, Option.none⟩ = some (.int .i64 (s.cs.getD j 0))) ∧
      (w.frozen? ⟨gw, i, Option.none⟩ = false ∧ w.frozen? ⟨gk, a, Option.none⟩ = false ∧ w.frozen? ⟨gv, a, Option.none⟩ = false ∧ w.frozen? ⟨gc, j, Option.none⟩ = false) ∧
      (w.cell? ⟨p, 0, Option.none⟩ = some (.int .i64 s.seg) ∧ w.cell? ⟨p, 1, Option.none⟩ = some (.slice (some ⟨gw, 0, Option.none⟩) nw cw) ∧ w.cell? ⟨p, 2, Option.none⟩ = some (.slice (some ⟨gk, 0, Option.none⟩) nk ck) ∧
        w.cell? ⟨p, 3, Option.none⟩ = some (.slice (some ⟨gv, 0, Option.none⟩) nv cv) ∧ w.cell? ⟨p, 4, Option.none⟩ = some (.slice (some ⟨gc, 0, Option.none⟩) nc cc)) := by
  subst n1 n2 n3 n4
  obtain ⟨gw', gk', gv', gc', ⟨e1, e2, e3, e4⟩, h5, h6, _⟩ := A.open h1 h2 h3 h4
  cases e1; cases e2; cases e3; cases e4
  exact ⟨h5, h6, A.b0, A.b1, A.b2, A.b3, A.b4⟩

/-- A pair in a block of its own. -/
structure Res (w : World) (r : Nat) (x y : Int) : Prop where
  a0 : w.cell? ⟨r, 0, Option.none⟩ = some (.int .i64 x)
  a1 : w.cell? ⟨r, 1, Option.none⟩ = some (.int .i64 y)
  f : ∀ j, w.frozen? ⟨r, j, Option.none⟩ = false
theorem Res.new (w : World) (x y : Int) (t : TypeId) : Res (w.alloc (.cells #[.int .i64 x, .int .i64 y] t)) w.heap.size x y := by
  have H : ∀ j u, [Value.int .i64 x, Value.int .i64 y][j]? = some u → (w.alloc (.cells #[.int .i64 x, .int .i64 y] t)).cell? ⟨w.heap.size, j, Option.none⟩ = some u := fun j u hj => by
    have := new_cells w t #[.int .i64 x, .int .i64 y] j u (by simpa using hj)
    rwa [Addr.add_lit, Nat.zero_add] at this
  exact ⟨H 0 _ rfl, H 1 _ rfl, fun j => frozen_new _ _ _ _⟩
theorem Res.set {w : World} {r : Nat} {x y : Int} (R : Res w r x y) (q : Addr) (u : Value) (hq : q.block ≠ r) : Res (w.setCell q u) r x y := by
  have hne : ∀ j, q ≠ ⟨r, j, Option.none⟩ := fun j e => hq (by rw [e])
  exact ⟨(World.cell?_setCell_other _ _ _ _ (hne 0)).trans R.a0, (World.cell?_setCell_other _ _ _ _ (hne 1)).trans R.a1, fun j => by rw [World.frozen?_setCell]; exact R.f j⟩
theorem Res.drew {w : World} {r : Nat} {x y : Int} (R : Res w r x y) : Res w.drew r x y := ⟨R.a0, R.a1, R.f⟩
theorem Res.below {w w' : World} {r : Nat} {x y : Int} (R : Res w r x y) {n : Nat} (hb : Below n w w') (hr : r < n) : Res w' r x y := ⟨(hb.cell (p := ⟨r, 0, Option.none⟩) hr).trans R.a0, (hb.cell (p := ⟨r, 1, Option.none⟩) hr).trans R.a1, fun j => (hb.frozen (p := ⟨r, j, Option.none⟩) hr).trans (R.f j)⟩

theorem keeps_drew {n0 lo hi : Nat} {W W' : World} (h : Keeps n0 lo hi W W') : Keeps n0 lo hi W W'.drew := ⟨h.below.drew, h.kept⟩
set_option maxRecDepth 100000 in
set_option maxHeartbeats 2000000 in
theorem is_any (gw cw nw p x i m : Nat) (a : Nat) (w : World) (b1 : w.cell? ⟨p, 1, Option.none⟩ = some (.slice (some ⟨gw, 0, Option.none⟩) nw cw)) (c1 : w.cell? ⟨gw, i, Option.none⟩ = some (.int .u64 (x : Int)))
    (hx : x < 18446744073709551616) (hi : i < nw) (hia : a / 64 = i) (hma : a % 64 = m) (ha : a ≤ 65536) :
    Calls Tryd.prog 61 #[.pointer (some ⟨p, 0, Option.none⟩), .int .i64 a] w fun e w' => e = .returned (.bool (x.testBit m)) ∧ w = w' := by
  have hb1 := and_one x m hx
  have hd : (a : Int) / 64 = ((a / 64 : Nat) : Int) := rfl
  have hmm : (a : Int) % 64 = ((a % 64 : Nat) : Int) := rfl
  rw [hia] at hd
  rw [hma] at hmm
  have hm64 : m < 64 := by omega
  have HO : Hid (decide (0 < x / 2 ^ m % 2) = x.testBit m) := Lib.hid (by rw [testBit_is, Bool.eq_iff_iff, decide_eq_true_eq, decide_eq_true_eq]; omega)
  clear hia hma
  generalize x / 2 ^ m % 2 = d at *
  go_enter Tryd.func61, Tryd.ntmps61
  go_wp2
  go_ret
  exact ⟨ret_b (by rw [← HO.out]), rfl⟩

set_option maxRecDepth 100000 in
set_option maxHeartbeats 4000000 in
theorem take_any (lo hi p : Nat) (s : Sl) (h : Hd) (g q a : Nat) (w : World) (A : Arr w lo hi p s h) (o : Ok s g q) (hu : U64 s.ws) (ha : a < s.ks.length) :
    Calls Tryd.prog 58 #[.pointer (some ⟨p, 0, Option.none⟩), .int .i64 a] w fun e w' => e = .returned (.agg #[.int .i64 (s.ks.getD a 0), .int .i64 (s.vs.getD a 0)]) ∧ Arr w' lo hi p (takeV s a) h ∧ Keeps lo hi w.heap.size w w' := by
  have hi64 : a / 64 < s.ws.length := by have := o.w; omega
  have hav : a < s.vs.length := by rw [o.v]; exact ha
  have hj := (seg_of o.g4 o.n ha).1
  have hjc : a / g < s.cs.length := by rw [o.c]; exact hj
  obtain ⟨aw, cw, ak, ck, av, cv, ac, cc⟩ := h
  obtain ⟨gw, gk, gv, gc, ⟨rfl, rfl, rfl, rfl⟩, -, -, ⟨l1, l2, l3, l4⟩, ⟨u1, u2, u3, u4⟩⟩ := A.open hi64 ha hav hjc
  have hx := wd_of hu (a / 64)
  have hwd := wd_int hu (a / 64)
  have hcnt := o.count ha
  have hn1 := o.n1
  have hsg : s.seg.toNat = g := by rw [o.seg]; simp
  have hsgi := o.seg
  have hg4 := o.g4
  have hg64 := o.g64
  have hm64 : a % 64 < 64 := Nat.mod_lt _ (by decide)
  have h2k : 2 ^ (a % 64) < 18446744073709551616 := Nat.pow_lt_pow_right (n := 64) (by decide) hm64
  have e1 : bits .andNot .u64 ((wd s.ws (a / 64) : Nat) : Int) ((2 : Int) ^ (a % 64)) = ((turn (wd s.ws (a / 64)) (a % 64) false : Nat) : Int) := by
    have := bits_andNot_u64_nat (wd s.ws (a / 64)) (2 ^ (a % 64)) hx h2k
    rw [turn_off _ _ hx hm64, show clr (wd s.ws (a / 64)) (a % 64) = wd s.ws (a / 64) &&& (18446744073709551615 - 2 ^ (a % 64)) from rfl, ← this]; congr 1
  have e4 : IntKind.u64.wrap ((2 : Int) ^ (a % 64)) = (2 : Int) ^ (a % 64) := by
    rw [show (2 : Int) ^ (a % 64) = ((2 ^ (a % 64) : Nat) : Int) by simp]
    generalize 2 ^ (a % 64) = pp at *
    rw [IntKind.wrap_u64]; omega
  have hd : (a : Int) / 64 = ((a / 64 : Nat) : Int) := rfl
  have hmm : (a : Int) % 64 = ((a % 64 : Nat) : Int) := rfl
  have ht : (a : Int).tdiv (g : Int) = ((a / g : Nat) : Int) := by rw [Int.tdiv_eq_ediv_of_nonneg (by omega)]; simp
  have wj : IntKind.i64.wrap ((a / g : Nat) : Int) = ((a / g : Nat) : Int) := by
    have hdl := Nat.div_le_self a g
    generalize a / g = jj at *
    rw [IntKind.wrap_i64]; omega
  have g0 : ((g : Int) == 0) = false := by rw [beq_eq_false_iff_ne]; omega
  have g1 : (g : Int) ≠ 0 := by omega
  have g2 : g ≠ 0 := by omega
  have HIS := Lib.hid (fun w1 b1 c1 => is_any gw cw s.ws.length p (wd s.ws (a / 64)) (a / 64) (a % 64) a w1 b1 c1 hx hi64 rfl rfl (by omega))
  have HV : Hid (takeV s a = { s with ws := s.ws.set (a / 64) ((turn (wd s.ws (a / 64)) (a % 64) false : Nat) : Int), ks := s.ks.set a 0, vs := s.vs.set a 0, cs := if (wd s.ws (a / 64)).testBit (a % 64) = true then s.cs.set (a / g) (s.cs.getD (a / g) 0 - 1) else s.cs }) := Lib.hid (by unfold takeV putV; rw [hsg]; rfl)
  have HCN : Hid ((wd s.ws (a / 64)).testBit (a % 64) = true → 1 ≤ s.cs.getD (a / g) 0) := Lib.hid hcnt.2.2
  have hc0 := hcnt.1
  have hc64 := hcnt.2.1
  have hpl := A.pl
  have hpb := A.pb
  have HB1 : Hid (Below w.heap.size w (w.alloc (.cells #[.int .i64 0, .int .i64 0] 43))) := Lib.hid ((Below.refl _ w).alloc (Nat.le_refl _) _)
  have HA1 := Lib.hid (A.below HB1.out)
  have HR1 : Hid (Res (w.alloc (.cells #[.int .i64 (s.ks.getD a 0), .int .i64 (s.vs.getD a 0)] 43)).drew w.heap.size (s.ks.getD a 0) (s.vs.getD a 0)) := Lib.hid (Res.new _ _ _ _).drew
  have HA2 : Hid (Arr (w.alloc (.cells #[.int .i64 (s.ks.getD a 0), .int .i64 (s.vs.getD a 0)] 43)).drew lo hi p s _) := Lib.hid (A.below ((Below.refl _ w).alloc (Nat.le_refl _) _).drew)
  have HB2 : Hid (Below w.heap.size w (w.alloc (.cells #[.int .i64 (s.ks.getD a 0), .int .i64 (s.vs.getD a 0)] 43)).drew) := Lib.hid ((Below.refl _ w).alloc (Nat.le_refl _) _).drew
  have hlo : lo ≤ w.heap.size := by have := A.low; omega
  clear A o hu hcnt hsg hj
  generalize hnw : s.ws.length = nw at *
  generalize hnk : s.ks.length = nk at *
  generalize hnv : s.vs.length = nv at *
  generalize hnc : s.cs.length = nc at *
  have HN := Lib.hid (And.intro hnw (And.intro hnk (And.intro hnv hnc)))
  clear hnw hnk hnv hnc
  generalize hxx : wd s.ws (a / 64) = x at *
  generalize hii : a / 64 = i at *
  generalize hmm2 : a % 64 = m at *
  generalize hjj : a / g = j at *
  clear hxx hii hmm2 hjj
  generalize hz : turn x m false = z at *
  clear hz
  obtain ⟨⟨x1, x2, x3, x4⟩, ⟨f1, f2, f3, f4⟩, b0, b1, b2, b3, b4⟩ := HA1.out.at HN.out.1 HN.out.2.1 HN.out.2.2.1 HN.out.2.2.2 hi64 ha hav hjc
  rw [hwd] at x1
  rw [hsgi] at b0
  have HWD := Lib.hid hwd
  have HSG := Lib.hid hsgi
  clear hwd hsgi
  generalize hkk : s.ks.getD a 0 = kx at *
  generalize hvv : s.vs.getD a 0 = vx at *
  generalize hcc : s.cs.getD j 0 = cx at *
  have HKV := Lib.hid (And.intro hkk (And.intro hvv hcc))
  clear hkk hvv hcc
  go_enter Tryd.func58, Tryd.ntmps58
  go_wp2
  refine Mix.wp_region_plan (fun w' => w' = World.drew _) [17] [.dep (List.replicate 17 true)] (Array.replicate 17 true ++ #[false]) 1 mixed' (by kernel_rfl) (by kernel_rfl) (by kernel_rfl) (fun _ _ _ _ _ h => h) rfl ?_
  simp only [Mix.wpPlan, Mix.maskL, List.replicate]
  repeat (go_big_quiet_step (fail))
  refine wpQuiet_nil ?_
  refine Mix.wpAny_tail (List.replicate 17 false ++ [true]) (Array.replicate 18 true) (by kernel_rfl) (by kernel_rfl) ?_
  simp only [Mix.maskL, List.replicate, List.cons_append, List.nil_append]
  go_wp2_with fail
  clear x1 x2 x3 x4 f1 f2 f3 f4 b0 b1 b2 b3 b4 HA1 HB1
  generalize (w.alloc (.cells #[.int .i64 kx, .int .i64 vx] 43)).drew = w2 at *
  obtain ⟨⟨x1, x2, x3, x4⟩, ⟨f1, f2, f3, f4⟩, b0, b1, b2, b3, b4⟩ := HA2.out.at HN.out.1 HN.out.2.1 HN.out.2.2.1 HN.out.2.2.2 hi64 ha hav hjc
  rw [HWD.out] at x1
  rw [HSG.out] at b0
  rw [HKV.out.2.2] at x4
  refine (HIS.out w2 b1 x1).mono ?_
  rintro e w' ⟨rfl, rfl⟩
  have HB2' : Hid (Keeps lo hi w.heap.size w w2) := Lib.hid (Keeps.of_below HB2.out hlo (Nat.le_refl _))
  clear HB2 HIS x2 x3
  cases htb : x.testBit m
  · obtain ⟨w3, hw3⟩ : ∃ w3 : World, w3 = w2 := ⟨_, rfl⟩
    clear HCN
    have HTB := Lib.hid htb
    clear htb
    have HA3 := HA2
    have HR3 := HR1
    have HB3 := HB2'
    rw [← hw3] at HA3 HR3 HB3
    rw [← hw3]
    clear HA2 HR1 HB2' hw3
    clear x1 x4 f1 f2 f3 f4 b0 b1 b2 b3 b4
    obtain ⟨⟨x1, x2, x3, x4⟩, ⟨f1, f2, f3, f4⟩, b0, b1, b2, b3, b4⟩ := HA3.out.at (i := i) (a := a) (j := j) (nw := nw) (nk := nk) (nv := nv) (nc := nc) (by first | exact HN.out.1 | (show (List.set _ _ _).length = _; rw [List.length_set]; exact HN.out.1)) HN.out.2.1 HN.out.2.2.1 (by first | exact HN.out.2.2.2 | (show (List.set _ _ _).length = _; rw [List.length_set]; exact HN.out.2.2.2)) hi64 ha hav hjc
    have x1' : w3.cell? ⟨gw, i, Option.none⟩ = some (.int .u64 (x : Int)) := by rw [← HWD.out]; exact x1
    have b0' : w3.cell? ⟨p, 0, Option.none⟩ = some (.int .i64 (g : Int)) := by rw [← HSG.out]; exact b0
    clear x1 b0 x2 x3 x4 f2 f3 f4
    go_wp2_with fail
    refine Mix.wp_region_plan (fun w' => w' = World.drew _) [14] [.dep (List.replicate 14 true)] (Array.replicate 14 true ++ Array.replicate 1 false) 1 mixed' (by kernel_rfl) (by kernel_rfl) (by kernel_rfl) (fun _ _ _ _ _ h => h) rfl ?_
    simp only [Mix.wpPlan, Mix.maskL, List.replicate]
    repeat (go_big_quiet_step (fail))
    refine wpQuiet_nil ?_
    refine Mix.wpAny_tail (List.replicate 14 false ++ List.replicate 1 true) (Array.replicate 15 true) (by kernel_rfl) (by kernel_rfl) ?_
    simp only [Mix.maskL, List.replicate, List.cons_append, List.nil_append]
    go_wp2_with fail
    have HA4 := Lib.hid ((HA3.out.set_w (j := i) (z : Int) rfl).drew)
    have HR4 := Lib.hid ((HR3.out.set ⟨gw, i, Option.none⟩ (.int .u64 (z : Int)) (by show gw ≠ w.heap.size; omega)).drew)
    have HB4 := Lib.hid (keeps_drew (HB3.out.setCell ⟨gw, i, Option.none⟩ l1 (.inl u1) (.int .u64 (z : Int))))
    clear x1' b0' f1 b1 b2 b3 b4 HA3 HR3 HB3
    generalize (w3.setCell ⟨gw, i, Option.none⟩ (.int .u64 (z : Int))).drew = w4 at *
    obtain ⟨⟨x1, x2, x3, x4⟩, ⟨f1, f2, f3, f4⟩, b0, b1, b2, b3, b4⟩ := HA4.out.at (i := i) (a := a) (j := j) (nw := nw) (nk := nk) (nv := nv) (nc := nc) (by show (List.set _ _ _).length = _; rw [List.length_set]; exact HN.out.1) HN.out.2.1 HN.out.2.2.1 (by first | exact HN.out.2.2.2 | (show (List.set _ _ _).length = _; rw [List.length_set]; exact HN.out.2.2.2)) hi64 ha hav hjc
    have x2' : w4.cell? ⟨gk, a, Option.none⟩ = some (.int .i64 kx) := by rw [← HKV.out.1]; exact x2
    have x3' : w4.cell? ⟨gv, a, Option.none⟩ = some (.int .i64 vx) := by rw [← HKV.out.2.1]; exact x3
    have hne : gk ≠ gv := fun e => HA4.out.own.kv gk rfl (by rw [e]; rfl)
    have hne2 : gv ≠ gk := fun e => hne e.symm
    clear x1 x2 x3 x4 f1 f4 b0 b1 b4
    have r0 := HR4.out.a0
    have r1 := HR4.out.a1
    have rf0 := HR4.out.f 0
    have rf1 := HR4.out.f 1
    have hr1 : gk ≠ w.heap.size := by omega
    have hr2 : gv ≠ w.heap.size := by omega
    refine Mix.wp_region_plan (fun w' => w' = World.drew _) [12] [.free (List.replicate 11 false ++ [true]), .dep (List.replicate 11 true)] (Array.replicate 12 true ++ Array.replicate 4 false) 4 mixed' (by kernel_rfl) (by kernel_rfl) (by kernel_rfl) (fun _ _ _ _ _ h => h) rfl ?_
    simp only [Mix.wpPlan, Mix.maskL, List.replicate, List.cons_append, List.nil_append]
    repeat (go_big_quiet_step (fail))
    refine wpQuiet_nil ?_
    repeat (go_big_quiet_step (fail))
    refine wpQuiet_nil ?_
    refine Mix.wpAny_tail (List.replicate 12 false ++ List.replicate 4 true) (Array.replicate 16 true) (by kernel_rfl) (by kernel_rfl) ?_
    simp only [Mix.maskL, List.replicate, List.cons_append, List.nil_append]
    go_wp2
    refine bodyPost_ret (v := .agg #[.int .i64 kx, .int .i64 vx]) (by simp [results, Tryd.results58, go_sem, *]) rfl ⟨rfl, ?_, ?_⟩
    · have := ((((HA4.out.set_k (j := a) 0 rfl).set_v (j := a) 0 rfl).set_other (q := ⟨w.heap.size, 0, Option.none⟩) (u := .int .i64 kx) hpl).set_other (q := ⟨w.heap.size, 1, Option.none⟩) (u := .int .i64 vx) hpl).drew
      rw [HV.out, HTB.out]
      exact this
    · exact keeps_drew ((((HB4.out.setCell ⟨gk, a, Option.none⟩ l2 (.inl u2) (.int .i64 0)).setCell ⟨gv, a, Option.none⟩ l3 (.inl u3) (.int .i64 0)).setCell _ (by show lo ≤ w.heap.size; exact hlo) (.inr (Nat.le_refl _)) _).setCell _ (by show lo ≤ w.heap.size; exact hlo) (.inr (Nat.le_refl _)) _)
  · have hcx1 := HCN.out htb
    have HTB := Lib.hid htb
    clear htb
    clear HCN
    have w1 : IntKind.i64.wrap (cx - 1) = cx - 1 := by rw [IntKind.wrap_i64]; omega
    go_wp2_with fail
    refine Mix.wp_region_plan (fun w' => w' = World.drew _) [16] [.dep (List.replicate 16 true)] (Array.replicate 16 true ++ Array.replicate 1 false) 1 mixed' (by kernel_rfl) (by kernel_rfl) (by kernel_rfl) (fun _ _ _ _ _ h => h) rfl ?_
    simp only [Mix.wpPlan, Mix.maskL, List.replicate]
    repeat (go_big_quiet_step (fail))
    refine wpQuiet_nil ?_
    refine Mix.wpAny_tail (List.replicate 16 false ++ List.replicate 1 true) (Array.replicate 17 true) (by kernel_rfl) (by kernel_rfl) ?_
    simp only [Mix.maskL, List.replicate, List.cons_append, List.nil_append]
    go_wp2_with fail
    have HA3 := Lib.hid ((HA2.out.set_c (j := j) (cx - 1) rfl).drew)
    have HR3 := Lib.hid ((HR1.out.set ⟨gc, j, Option.none⟩ (.int .i64 (cx - 1)) (by show gc ≠ w.heap.size; omega)).drew)
    have HB3 := Lib.hid (keeps_drew (HB2'.out.setCell ⟨gc, j, Option.none⟩ l4 (.inl u4) (.int .i64 (cx - 1))))
    clear x1 x4 f1 f2 f3 f4 b0 b1 b2 b3 b4 HA2 HR1 HB2'
    generalize (w2.setCell ⟨gc, j, Option.none⟩ (.int .i64 (cx - 1))).drew = w3 at *
    obtain ⟨⟨x1, x2, x3, x4⟩, ⟨f1, f2, f3, f4⟩, b0, b1, b2, b3, b4⟩ := HA3.out.at (i := i) (a := a) (j := j) (nw := nw) (nk := nk) (nv := nv) (nc := nc) (by first | exact HN.out.1 | (show (List.set _ _ _).length = _; rw [List.length_set]; exact HN.out.1)) HN.out.2.1 HN.out.2.2.1 (by first | exact HN.out.2.2.2 | (show (List.set _ _ _).length = _; rw [List.length_set]; exact HN.out.2.2.2)) hi64 ha hav hjc
    have x1' : w3.cell? ⟨gw, i, Option.none⟩ = some (.int .u64 (x : Int)) := by rw [← HWD.out]; exact x1
    have b0' : w3.cell? ⟨p, 0, Option.none⟩ = some (.int .i64 (g : Int)) := by rw [← HSG.out]; exact b0
    clear x1 b0 x2 x3 x4 f2 f3 f4
    go_wp2_with fail
    refine Mix.wp_region_plan (fun w' => w' = World.drew _) [14] [.dep (List.replicate 14 true)] (Array.replicate 14 true ++ Array.replicate 1 false) 1 mixed' (by kernel_rfl) (by kernel_rfl) (by kernel_rfl) (fun _ _ _ _ _ h => h) rfl ?_
    simp only [Mix.wpPlan, Mix.maskL, List.replicate]
    repeat (go_big_quiet_step (fail))
    refine wpQuiet_nil ?_
    refine Mix.wpAny_tail (List.replicate 14 false ++ List.replicate 1 true) (Array.replicate 15 true) (by kernel_rfl) (by kernel_rfl) ?_
    simp only [Mix.maskL, List.replicate, List.cons_append, List.nil_append]
    go_wp2_with fail
    have HA4 := Lib.hid ((HA3.out.set_w (j := i) (z : Int) rfl).drew)
    have HR4 := Lib.hid ((HR3.out.set ⟨gw, i, Option.none⟩ (.int .u64 (z : Int)) (by show gw ≠ w.heap.size; omega)).drew)
    have HB4 := Lib.hid (keeps_drew (HB3.out.setCell ⟨gw, i, Option.none⟩ l1 (.inl u1) (.int .u64 (z : Int))))
    clear x1' b0' f1 b1 b2 b3 b4 HA3 HR3 HB3
    generalize (w3.setCell ⟨gw, i, Option.none⟩ (.int .u64 (z : Int))).drew = w4 at *
    obtain ⟨⟨x1, x2, x3, x4⟩, ⟨f1, f2, f3, f4⟩, b0, b1, b2, b3, b4⟩ := HA4.out.at (i := i) (a := a) (j := j) (nw := nw) (nk := nk) (nv := nv) (nc := nc) (by show (List.set _ _ _).length = _; rw [List.length_set]; exact HN.out.1) HN.out.2.1 HN.out.2.2.1 (by first | exact HN.out.2.2.2 | (show (List.set _ _ _).length = _; rw [List.length_set]; exact HN.out.2.2.2)) hi64 ha hav hjc
    have x2' : w4.cell? ⟨gk, a, Option.none⟩ = some (.int .i64 kx) := by rw [← HKV.out.1]; exact x2
    have x3' : w4.cell? ⟨gv, a, Option.none⟩ = some (.int .i64 vx) := by rw [← HKV.out.2.1]; exact x3
    have hne : gk ≠ gv := fun e => HA4.out.own.kv gk rfl (by rw [e]; rfl)
    have hne2 : gv ≠ gk := fun e => hne e.symm
    clear x1 x2 x3 x4 f1 f4 b0 b1 b4
    have r0 := HR4.out.a0
    have r1 := HR4.out.a1
    have rf0 := HR4.out.f 0
    have rf1 := HR4.out.f 1
    have hr1 : gk ≠ w.heap.size := by omega
    have hr2 : gv ≠ w.heap.size := by omega
    refine Mix.wp_region_plan (fun w' => w' = World.drew _) [12] [.free (List.replicate 11 false ++ [true]), .dep (List.replicate 11 true)] (Array.replicate 12 true ++ Array.replicate 4 false) 4 mixed' (by kernel_rfl) (by kernel_rfl) (by kernel_rfl) (fun _ _ _ _ _ h => h) rfl ?_
    simp only [Mix.wpPlan, Mix.maskL, List.replicate, List.cons_append, List.nil_append]
    repeat (go_big_quiet_step (fail))
    refine wpQuiet_nil ?_
    repeat (go_big_quiet_step (fail))
    refine wpQuiet_nil ?_
    refine Mix.wpAny_tail (List.replicate 12 false ++ List.replicate 4 true) (Array.replicate 16 true) (by kernel_rfl) (by kernel_rfl) ?_
    simp only [Mix.maskL, List.replicate, List.cons_append, List.nil_append]
    go_wp2
    refine bodyPost_ret (v := .agg #[.int .i64 kx, .int .i64 vx]) (by simp [results, Tryd.results58, go_sem, *]) rfl ⟨rfl, ?_, ?_⟩
    · have := ((((HA4.out.set_k (j := a) 0 rfl).set_v (j := a) 0 rfl).set_other (q := ⟨w.heap.size, 0, Option.none⟩) (u := .int .i64 kx) hpl).set_other (q := ⟨w.heap.size, 1, Option.none⟩) (u := .int .i64 vx) hpl).drew
      rw [HV.out, HTB.out]
      exact this
    · exact keeps_drew ((((HB4.out.setCell ⟨gk, a, Option.none⟩ l2 (.inl u2) (.int .i64 0)).setCell ⟨gv, a, Option.none⟩ l3 (.inl u3) (.int .i64 0)).setCell _ (by show lo ≤ w.heap.size; exact hlo) (.inr (Nat.le_refl _)) _).setCell _ (by show lo ≤ w.heap.size; exact hlo) (.inr (Nat.le_refl _)) _)
end Go.Proofs.YtljfbhkoppahaaaDoor.Slo
