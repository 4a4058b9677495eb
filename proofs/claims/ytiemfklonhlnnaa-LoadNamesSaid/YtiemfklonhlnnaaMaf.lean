/- Contracts of package slots: a slot is taken, or laid. Contracts of package slots: a pair is laid into a slot. Contracts of package slots: asked, part; Lay. Contracts of package slots: Lay. Lists of pairs of numbers in memory: each pair two cells. Operations whose guards say no: inside the wide fence. A range over an iterator whose loop variable lies in a box. -/
import Derived.Test.YtiemfklonhlnnaaMae
import Derived.Laws.StructEq
set_option linter.unusedSimpArgs false
set_option linter.unusedVariables false
namespace Go.Proofs.Ytiemfklonhlnnaa.Slo
open Go.RowKit Go.Proofs.Ytiemfklonhlnnaa Go.Proofs.Ytiemfklonhlnnaa.Occ Go.Proofs.Ytiemfklonhlnnaa.Frac

/-- What a walk is told of one slot. -/
theorem Arr.open {w : World} {lo hi p : Nat} {s : Sl} {h : Hd} (A : Arr w lo hi p s h) {a i j : Nat} (h1 : i < s.ws.length) (h2 : a < s.ks.length) (h3 : a < s.vs.length) (h4 : j < s.cs.length) :
    ∃ gw gk gv gc, (h.aw = some ⟨gw, 0, Option.none⟩ ∧ h.ak = some ⟨gk, 0, Option.none⟩ ∧ h.av = some ⟨gv, 0, Option.none⟩ ∧ h.ac = some ⟨gc, 0, Option.none⟩) ∧
      (w.cell? ⟨gw, i, Option.none⟩ = some (.int .u64 (s.ws.getD i 0)) ∧ w.cell? ⟨gk, a, Option.none⟩ = some (.int .i64 (s.ks.getD a 0)) ∧ w.cell? ⟨gv, a, Option.none⟩ = some (.int .i64 (s.vs.getD a 0)) ∧ w.cell? ⟨gc, j, Option.none⟩ = some (.int .i64 (s.cs.getD j 0))) ∧
      (w.frozen? ⟨gw, i, Option.none⟩ = false ∧ w.frozen? ⟨gk, a, Option.none⟩ = false ∧ w.frozen? ⟨gv, a, Option.none⟩ = false ∧ w.frozen? ⟨gc, j, Option.none⟩ = false) ∧
      (lo ≤ gw ∧ lo ≤ gk ∧ lo ≤ gv ∧ lo ≤ gc) ∧ (gw < hi ∧ gk < hi ∧ gv < hi ∧ gc < hi) := by
  have o := A.own
  obtain ⟨gw, c1, e1, l1, _⟩ := owns_form o.ow (by omega)
  obtain ⟨gk, c2, e2, l2, _⟩ := owns_form o.ok (by omega)
  obtain ⟨gv, c3, e3, l3, _⟩ := owns_form o.ov (by omega)
  obtain ⟨gc, c4, e4, l4, _⟩ := owns_form o.oc (by omega)
  simp only [Value.slice.injEq] at e1 e2 e3 e4
  have ow := o.ow
  have ok := o.ok
  have ov := o.ov
  have oc := o.oc
  rw [e1.1] at ow
  rw [e2.1] at ok
  rw [e3.1] at ov
  rw [e4.1] at oc
  refine ⟨gw, gk, gv, gc, ⟨e1.1, e2.1, e3.1, e4.1⟩, ⟨?_, ?_, ?_, ?_⟩, ⟨ow.frozenAt i, ok.frozenAt a, ov.frozenAt a, oc.frozenAt j⟩, ⟨l1, l2, l3, l4⟩, o.hw _ (by rw [e1.1]; rfl), o.hk _ (by rw [e2.1]; rfl), o.hv _ (by rw [e3.1]; rfl), o.hc _ (by rw [e4.1]; rfl)⟩
  · rw [ow.cellAt i (by omega), numsK_at h1]
  · rw [ok.cellAt a (by omega), numsK_at h2]
  · rw [ov.cellAt a (by omega), numsK_at h3]
  · rw [oc.cellAt j (by omega), numsK_at h4]

/-- .. its addresses being written out. -/
theorem Arr.at {w : World} {lo hi p gw gk gv gc cw ck cv cc : Nat} {s : Sl} (A : Arr w lo hi p s ⟨some ⟨gw, 0, Option.none⟩, cw, some ⟨gk, 0, Option.none⟩, ck, some ⟨gv, 0, Option.none⟩, cv, some ⟨gc, 0, Option.none⟩, cc⟩) {a i j nw nk nv nc : Nat}
    (n1 : s.ws.length = nw) (n2 : s.ks.length = nk) (n3 : s.vs.length = nv) (n4 : s.cs.length = nc) (h1 : i < nw) (h2 : a < nk) (h3 : a < nv) (h4 : j < nc) :
    (w.cell? ⟨gw, i, Option.none⟩ = some (.int .u64 (s.ws.getD i 0)) ∧ w.cell? ⟨gk, a, Option.none⟩ = some (.int .i64 (s.ks.getD a 0)) ∧ w.cell? ⟨gv, a, Option.none⟩ = some (.int .i64 (s.vs.getD a 0)) ∧ w.cell? ⟨gc, j, Option.none⟩ = some (.int .i64 (s.cs.getD j 0))) ∧
      (w.frozen? ⟨gw, i, Option.none⟩ = false ∧ w.frozen? ⟨gk, a, Option.none⟩ = false ∧ w.frozen? ⟨gv, a, Option.none⟩ = false ∧ w.frozen? ⟨gc, j, Option.none⟩ = false) ∧
      (w.cell? ⟨p, 0, Option.none⟩ = some (.int .i64 s.seg) ∧ w.cell? ⟨p, 1, Option.none⟩ = some (.slice (some ⟨gw, 0, Option.none⟩) nw cw) ∧ w.cell? ⟨p, 2, Option.none⟩ = some (.slice (some ⟨gk, 0, Option.none⟩) nk ck) ∧
        w.cell? ⟨p, 3, Option.none⟩ = some (.slice (some ⟨gv, 0, Option.none⟩) nv cv) ∧ w.cell? ⟨p, 4, Option.none⟩ = some (.slice (some ⟨gc, 0, Option.none⟩) nc cc)) := by
  subst n1 n2 n3 n4
  obtain ⟨gw', gk', gv', gc', ⟨e1, e2, e3, e4⟩, h5, h6, _⟩ := A.open h1 h2 h3 h4
  cases e1; cases e2; cases e3; cases e4
  exact ⟨h5, h6, A.b0, A.b1, A.b2, A.b3, A.b4⟩

/-- A pair in a block of its own. -/
structure Res (w : World) (r : Nat) (x y : Int) : Prop where
  a0 : w.cell? ⟨r, 0, Option.none⟩ = some (.int .i64 x)
  a1 : w.cell? ⟨r, 1, Option.none⟩ = some (.int .i64 y)
  f : ∀ j, w.frozen? ⟨r, j, Option.none⟩ = false
theorem Res.new (w : World) (x y : Int) (t : TypeId) : Res (w.alloc (.cells #[.int .i64 x, .int .i64 y] t)) w.heap.size x y := by
  have H : ∀ j u, [Value.int .i64 x, Value.int .i64 y][j]? = some u → (w.alloc (.cells #[.int .i64 x, .int .i64 y] t)).cell? ⟨w.heap.size, j, Option.none⟩ = some u := fun j u hj => by
    have := new_cells w t #[.int .i64 x, .int .i64 y] j u (by simpa using hj)
    rwa [Addr.add_lit, Nat.zero_add] at this
  exact ⟨H 0 _ rfl, H 1 _ rfl, fun j => frozen_new _ _ _ _⟩
theorem Res.set {w : World} {r : Nat} {x y : Int} (R : Res w r x y) (q : Addr) (u : Value) (hq : q.block ≠ r) : Res (w.setCell q u) r x y := by
  have hne : ∀ j, q ≠ ⟨r, j, Option.none⟩ := fun j e => hq (by rw [e])
  exact ⟨(World.cell?_setCell_other _ _ _ _ (hne 0)).trans R.a0, (World.cell?_setCell_other _ _ _ _ (hne 1)).trans R.a1, fun j => by rw [World.frozen?_setCell]; exact R.f j⟩
theorem Res.drew {w : World} {r : Nat} {x y : Int} (R : Res w r x y) : Res w.drew r x y := ⟨R.a0, R.a1, R.f⟩
theorem Res.below {w w' : World} {r : Nat} {x y : Int} (R : Res w r x y) {n : Nat} (hb : Below n w w') (hr : r < n) : Res w' r x y := ⟨(hb.cell (p := ⟨r, 0, Option.none⟩) hr).trans R.a0, (hb.cell (p := ⟨r, 1, Option.none⟩) hr).trans R.a1, fun j => (hb.frozen (p := ⟨r, j, Option.none⟩) hr).trans (R.f j)⟩

theorem keeps_drew {n0 lo hi : Nat} {W W' : World} (h : Keeps n0 lo hi W W') : Keeps n0 lo hi W W'.drew := ⟨h.below.drew, h.kept⟩
set_option maxRecDepth 100000 in
set_option maxHeartbeats 2000000 in
theorem is_any (gw cw nw p x i m : Nat) (a : Nat) (w : World) (b1 : w.cell? ⟨p, 1, Option.none⟩ = some (.slice (some ⟨gw, 0, Option.none⟩) nw cw)) (c1 : w.cell? ⟨gw, i, Option.none⟩ = some (.int .u64 (x : Int)))
    (hx : x < 18446744073709551616) (hi : i < nw) (hia : a / 64 = i) (hma : a % 64 = m) (ha : a ≤ 65536) :
    Calls Try.prog 54 #[.pointer (some ⟨p, 0, Option.none⟩), .int .i64 a] w fun e w' => e = .returned (.bool (x.testBit m)) ∧ w = w' := by
  have hb1 := and_one x m hx
  have hd : (a : Int) / 64 = ((a / 64 : Nat) : Int) := rfl
  have hmm : (a : Int) % 64 = ((a % 64 : Nat) : Int) := rfl
  rw [hia] at hd
  rw [hma] at hmm
  have hm64 : m < 64 := by omega
  have HO : Hid (decide (0 < x / 2 ^ m % 2) = x.testBit m) := Lib.hid (by rw [testBit_is, Bool.eq_iff_iff, decide_eq_true_eq, decide_eq_true_eq]; omega)
  clear hia hma
  generalize x / 2 ^ m % 2 = d at *
  go_enter Try.func54, Try.ntmps54
  go_wp2
  go_ret
  exact ⟨ret_b (by rw [← HO.out]), rfl⟩

set_option maxRecDepth 100000 in
set_option maxHeartbeats 4000000 in
theorem take_any (lo hi p : Nat) (s : Sl) (h : Hd) (g q a : Nat) (w : World) (A : Arr w lo hi p s h) (o : Ok s g q) (hu : U64 s.ws) (ha : a < s.ks.length) :
    Calls Try.prog 72 #[.pointer (some ⟨p, 0, Option.none⟩), .int .i64 a] w fun e w' => e = .returned (.agg #[.int .i64 (s.ks.getD a 0), .int .i64 (s.vs.getD a 0)]) ∧ Arr w' lo hi p (takeV s a) h ∧ Keeps lo hi w.heap.size w w' := by
  have hi64 : a / 64 < s.ws.length := by have := o.w; omega
  have hav : a < s.vs.length := by rw [o.v]; exact ha
  have hj := (seg_of o.g4 o.n ha).1
  have hjc : a / g < s.cs.length := by rw [o.c]; exact hj
  obtain ⟨aw, cw, ak, ck, av, cv, ac, cc⟩ := h
  obtain ⟨gw, gk, gv, gc, ⟨rfl, rfl, rfl, rfl⟩, -, -, ⟨l1, l2, l3, l4⟩, ⟨u1, u2, u3, u4⟩⟩ := A.open hi64 ha hav hjc
  have hx := wd_of hu (a / 64)
  have hwd := wd_int hu (a / 64)
  have hcnt := o.count ha
  have hn1 := o.n1
  have hsg : s.seg.toNat = g := by rw [o.seg]; simp
  have hsgi := o.seg
  have hg4 := o.g4
  have hg64 := o.g64
  have hm64 : a % 64 < 64 := Nat.mod_lt _ (by decide)
  have h2k : 2 ^ (a % 64) < 18446744073709551616 := Nat.pow_lt_pow_right (n := 64) (by decide) hm64
  have e1 : bits .andNot .u64 ((wd s.ws (a / 64) : Nat) : Int) ((2 : Int) ^ (a % 64)) = ((turn (wd s.ws (a / 64)) (a % 64) false : Nat) : Int) := by
    have := bits_andNot_u64_nat (wd s.ws (a / 64)) (2 ^ (a % 64)) hx h2k
    rw [turn_off _ _ hx hm64, show clr (wd s.ws (a / 64)) (a % 64) = wd s.ws (a / 64) &&& (18446744073709551615 - 2 ^ (a % 64)) from rfl, ← this]; congr 1
  have e4 : IntKind.u64.wrap ((2 : Int) ^ (a % 64)) = (2 : Int) ^ (a % 64) := by
    rw [show (2 : Int) ^ (a % 64) = ((2 ^ (a % 64) : Nat) : Int) by simp]
    generalize 2 ^ (a % 64) = pp at *
    rw [IntKind.wrap_u64]; omega
  have hd : (a : Int) / 64 = ((a / 64 : Nat) : Int) := rfl
  have hmm : (a : Int) % 64 = ((a % 64 : Nat) : Int) := rfl
  have ht : (a : Int).tdiv (g : Int) = ((a / g : Nat) : Int) := by rw [Int.tdiv_eq_ediv_of_nonneg (by omega)]; simp
  have wj : IntKind.i64.wrap ((a / g : Nat) : Int) = ((a / g : Nat) : Int) := by
    have hdl := Nat.div_le_self a g
    generalize a / g = jj at *
    rw [IntKind.wrap_i64]; omega
  have g0 : ((g : Int) == 0) = false := by rw [beq_eq_false_iff_ne]; omega
  have g1 : (g : Int) ≠ 0 := by omega
  have g2 : g ≠ 0 := by omega
  have HIS := Lib.hid (fun w1 b1 c1 => is_any gw cw s.ws.length p (wd s.ws (a / 64)) (a / 64) (a % 64) a w1 b1 c1 hx hi64 rfl rfl (by omega))
  have HV : Hid (takeV s a = { s with ws := s.ws.set (a / 64) ((turn (wd s.ws (a / 64)) (a % 64) false : Nat) : Int), ks := s.ks.set a 0, vs := s.vs.set a 0, cs := if (wd s.ws (a / 64)).testBit (a % 64) = true then s.cs.set (a / g) (s.cs.getD (a / g) 0 - 1) else s.cs }) := Lib.hid (by unfold takeV putV; rw [hsg]; rfl)
  have HCN : Hid ((wd s.ws (a / 64)).testBit (a % 64) = true → 1 ≤ s.cs.getD (a / g) 0) := Lib.hid hcnt.2.2
  have hc0 := hcnt.1
  have hc64 := hcnt.2.1
  have hpl := A.pl
  have hpb := A.pb
  have HB1 : Hid (Below w.heap.size w (w.alloc (.cells #[.int .i64 0, .int .i64 0] 34))) := Lib.hid ((Below.refl _ w).alloc (Nat.le_refl _) _)
  have HA1 := Lib.hid (A.below HB1.out)
  have HR1 : Hid (Res (w.alloc (.cells #[.int .i64 (s.ks.getD a 0), .int .i64 (s.vs.getD a 0)] 34)).drew w.heap.size (s.ks.getD a 0) (s.vs.getD a 0)) := Lib.hid (Res.new _ _ _ _).drew
  have HA2 : Hid (Arr (w.alloc (.cells #[.int .i64 (s.ks.getD a 0), .int .i64 (s.vs.getD a 0)] 34)).drew lo hi p s _) := Lib.hid (A.below ((Below.refl _ w).alloc (Nat.le_refl _) _).drew)
  have HB2 : Hid (Below w.heap.size w (w.alloc (.cells #[.int .i64 (s.ks.getD a 0), .int .i64 (s.vs.getD a 0)] 34)).drew) := Lib.hid ((Below.refl _ w).alloc (Nat.le_refl _) _).drew
  have hlo : lo ≤ w.heap.size := by have := A.low; omega
  clear A o hu hcnt hsg hj
  generalize hnw : s.ws.length = nw at *
  generalize hnk : s.ks.length = nk at *
  generalize hnv : s.vs.length = nv at *
  generalize hnc : s.cs.length = nc at *
  have HN := Lib.hid (And.intro hnw (And.intro hnk (And.intro hnv hnc)))
  clear hnw hnk hnv hnc
  generalize hxx : wd s.ws (a / 64) = x at *
  generalize hii : a / 64 = i at *
  generalize hmm2 : a % 64 = m at *
  generalize hjj : a / g = j at *
  clear hxx hii hmm2 hjj
  generalize hz : turn x m false = z at *
  clear hz
  obtain ⟨⟨x1, x2, x3, x4⟩, ⟨f1, f2, f3, f4⟩, b0, b1, b2, b3, b4⟩ := HA1.out.at HN.out.1 HN.out.2.1 HN.out.2.2.1 HN.out.2.2.2 hi64 ha hav hjc
  rw [hwd] at x1
  rw [hsgi] at b0
  have HWD := Lib.hid hwd
  have HSG := Lib.hid hsgi
  clear hwd hsgi
  generalize hkk : s.ks.getD a 0 = kx at *
  generalize hvv : s.vs.getD a 0 = vx at *
  generalize hcc : s.cs.getD j 0 = cx at *
  have HKV := Lib.hid (And.intro hkk (And.intro hvv hcc))
  clear hkk hvv hcc
  go_enter Try.func72, Try.ntmps72
  go_wp2
  refine Mix.wp_region_plan (fun w' => w' = World.drew _) [17] [.dep (List.replicate 17 true)] (Array.replicate 17 true ++ #[false]) 1 mixed' (by kernel_rfl) (by kernel_rfl) (by kernel_rfl) (fun _ _ _ _ _ h => h) rfl ?_
  simp only [Mix.wpPlan, Mix.maskL, List.replicate]
  repeat (go_big_quiet_step (fail))
  refine wpQuiet_nil ?_
  refine Mix.wpAny_tail (List.replicate 17 false ++ [true]) (Array.replicate 18 true) (by kernel_rfl) (by kernel_rfl) ?_
  simp only [Mix.maskL, List.replicate, List.cons_append, List.nil_append]
  go_wp2_with fail
  clear x1 x2 x3 x4 f1 f2 f3 f4 b0 b1 b2 b3 b4 HA1 HB1
  generalize (w.alloc (.cells #[.int .i64 kx, .int .i64 vx] 34)).drew = w2 at *
  obtain ⟨⟨x1, x2, x3, x4⟩, ⟨f1, f2, f3, f4⟩, b0, b1, b2, b3, b4⟩ := HA2.out.at HN.out.1 HN.out.2.1 HN.out.2.2.1 HN.out.2.2.2 hi64 ha hav hjc
  rw [HWD.out] at x1
  rw [HSG.out] at b0
  rw [HKV.out.2.2] at x4
  refine (HIS.out w2 b1 x1).mono ?_
  rintro e w' ⟨rfl, rfl⟩
  have HB2' : Hid (Keeps lo hi w.heap.size w w2) := Lib.hid (Keeps.of_below HB2.out hlo (Nat.le_refl _))
  clear HB2 HIS x2 x3
  cases htb : x.testBit m
  · obtain ⟨w3, hw3⟩ : ∃ w3 : World, w3 = w2 := ⟨_, rfl⟩
    clear HCN
    have HTB := Lib.hid htb
    clear htb
    have HA3 := HA2
    have HR3 := HR1
    have HB3 := HB2'
    rw [← hw3] at HA3 HR3 HB3
    rw [← hw3]
    clear HA2 HR1 HB2' hw3
    clear x1 x4 f1 f2 f3 f4 b0 b1 b2 b3 b4
    obtain ⟨⟨x1, x2, x3, x4⟩, ⟨f1, f2, f3, f4⟩, b0, b1, b2, b3, b4⟩ := HA3.out.at (i := i) (a := a) (j := j) (nw := nw) (nk := nk) (nv := nv) (nc := nc) (by first | exact HN.out.1 | (show (List.set _ _ _).length = _; rw [List.length_set]; exact HN.out.1)) HN.out.2.1 HN.out.2.2.1 (by first | exact HN.out.2.2.2 | (show (List.set _ _ _).length = _; rw [List.length_set]; exact HN.out.2.2.2)) hi64 ha hav hjc
    have x1' : w3.cell? ⟨gw, i, Option.none⟩ = some (.int .u64 (x : Int)) := by rw [← HWD.out]; exact x1
    have b0' : w3.cell? ⟨p, 0, Option.none⟩ = some (.int .i64 (g : Int)) := by rw [← HSG.out]; exact b0
    clear x1 b0 x2 x3 x4 f2 f3 f4
    go_wp2_with fail
    refine Mix.wp_region_plan (fun w' => w' = World.drew _) [14] [.dep (List.replicate 14 true)] (Array.replicate 14 true ++ Array.replicate 1 false) 1 mixed' (by kernel_rfl) (by kernel_rfl) (by kernel_rfl) (fun _ _ _ _ _ h => h) rfl ?_
    simp only [Mix.wpPlan, Mix.maskL, List.replicate]
    repeat (go_big_quiet_step (fail))
    refine wpQuiet_nil ?_
    refine Mix.wpAny_tail (List.replicate 14 false ++ List.replicate 1 true) (Array.replicate 15 true) (by kernel_rfl) (by kernel_rfl) ?_
    simp only [Mix.maskL, List.replicate, List.cons_append, List.nil_append]
    go_wp2_with fail
    have HA4 := Lib.hid ((HA3.out.set_w (j := i) (z : Int) rfl).drew)
    have HR4 := Lib.hid ((HR3.out.set ⟨gw, i, Option.none⟩ (.int .u64 (z : Int)) (by show gw ≠ w.heap.size; omega)).drew)
    have HB4 := Lib.hid (keeps_drew (HB3.out.setCell ⟨gw, i, Option.none⟩ l1 (.inl u1) (.int .u64 (z : Int))))
    clear x1' b0' f1 b1 b2 b3 b4 HA3 HR3 HB3
    generalize (w3.setCell ⟨gw, i, Option.none⟩ (.int .u64 (z : Int))).drew = w4 at *
    obtain ⟨⟨x1, x2, x3, x4⟩, ⟨f1, f2, f3, f4⟩, b0, b1, b2, b3, b4⟩ := HA4.out.at (i := i) (a := a) (j := j) (nw := nw) (nk := nk) (nv := nv) (nc := nc) (by show (List.set _ _ _).length = _; rw [List.length_set]; exact HN.out.1) HN.out.2.1 HN.out.2.2.1 (by first | exact HN.out.2.2.2 | (show (List.set _ _ _).length = _; rw [List.length_set]; exact HN.out.2.2.2)) hi64 ha hav hjc
    have x2' : w4.cell? ⟨gk, a, Option.none⟩ = some (.int .i64 kx) := by rw [← HKV.out.1]; exact x2
    have x3' : w4.cell? ⟨gv, a, Option.none⟩ = some (.int .i64 vx) := by rw [← HKV.out.2.1]; exact x3
    have hne : gk ≠ gv := fun e => HA4.out.own.kv gk rfl (by rw [e]; rfl)
    have hne2 : gv ≠ gk := fun e => hne e.symm
    clear x1 x2 x3 x4 f1 f4 b0 b1 b4
    have r0 := HR4.out.a0
    have r1 := HR4.out.a1
    have rf0 := HR4.out.f 0
    have rf1 := HR4.out.f 1
    have hr1 : gk ≠ w.heap.size := by omega
    have hr2 : gv ≠ w.heap.size := by omega
    refine Mix.wp_region_plan (fun w' => w' = World.drew _) [12] [.free (List.replicate 11 false ++ [true]), .dep (List.replicate 11 true)] (Array.replicate 12 true ++ Array.replicate 4 false) 4 mixed' (by kernel_rfl) (by kernel_rfl) (by kernel_rfl) (fun _ _ _ _ _ h => h) rfl ?_
    simp only [Mix.wpPlan, Mix.maskL, List.replicate, List.cons_append, List.nil_append]
    repeat (go_big_quiet_step (fail))
    refine wpQuiet_nil ?_
    repeat (go_big_quiet_step (fail))
    refine wpQuiet_nil ?_
    refine Mix.wpAny_tail (List.replicate 12 false ++ List.replicate 4 true) (Array.replicate 16 true) (by kernel_rfl) (by kernel_rfl) ?_
    simp only [Mix.maskL, List.replicate, List.cons_append, List.nil_append]
    go_wp2
    refine bodyPost_ret (v := .agg #[.int .i64 kx, .int .i64 vx]) (by simp [results, Try.results72, go_sem, *]) rfl ⟨rfl, ?_, ?_⟩
    · have := ((((HA4.out.set_k (j := a) 0 rfl).set_v (j := a) 0 rfl).set_other (q := ⟨w.heap.size, 0, Option.none⟩) (u := .int .i64 kx) hpl).set_other (q := ⟨w.heap.size, 1, Option.none⟩) (u := .int .i64 vx) hpl).drew
      rw [HV.out, HTB.out]
      exact this
    · exact keeps_drew ((((HB4.out.setCell ⟨gk, a, Option.none⟩ l2 (.inl u2) (.int .i64 0)).setCell ⟨gv, a, Option.none⟩ l3 (.inl u3) (.int .i64 0)).setCell _ (by show lo ≤ w.heap.size; exact hlo) (.inr (Nat.le_refl _)) _).setCell _ (by show lo ≤ w.heap.size; exact hlo) (.inr (Nat.le_refl _)) _)
  · have hcx1 := HCN.out htb
    have HTB := Lib.hid htb
    clear htb
    clear HCN
    have w1 : IntKind.i64.wrap (cx - 1) = cx - 1 := by rw [IntKind.wrap_i64]; omega
    go_wp2_with fail
    refine Mix.wp_region_plan (fun w' => w' = World.drew _) [16] [.dep (List.replicate 16 true)] (Array.replicate 16 true ++ Array.replicate 1 false) 1 mixed' (by kernel_rfl) (by kernel_rfl) (by kernel_rfl) (fun _ _ _ _ _ h => h) rfl ?_
    simp only [Mix.wpPlan, Mix.maskL, List.replicate]
    repeat (go_big_quiet_step (fail))
    refine wpQuiet_nil ?_
    refine Mix.wpAny_tail (List.replicate 16 false ++ List.replicate 1 true) (Array.replicate 17 true) (by kernel_rfl) (by kernel_rfl) ?_
    simp only [Mix.maskL, List.replicate, List.cons_append, List.nil_append]
    go_wp2_with fail
    have HA3 := Lib.hid ((HA2.out.set_c (j := j) (cx - 1) rfl).drew)
    have HR3 := Lib.hid ((HR1.out.set ⟨gc, j, Option.none⟩ (.int .i64 (cx - 1)) (by show gc ≠ w.heap.size; omega)).drew)
    have HB3 := Lib.hid (keeps_drew (HB2'.out.setCell ⟨gc, j, Option.none⟩ l4 (.inl u4) (.int .i64 (cx - 1))))
    clear x1 x4 f1 f2 f3 f4 b0 b1 b2 b3 b4 HA2 HR1 HB2'
    generalize (w2.setCell ⟨gc, j, Option.none⟩ (.int .i64 (cx - 1))).drew = w3 at *
    obtain ⟨⟨x1, x2, x3, x4⟩, ⟨f1, f2, f3, f4⟩, b0, b1, b2, b3, b4⟩ := HA3.out.at (i := i) (a := a) (j := j) (nw := nw) (nk := nk) (nv := nv) (nc := nc) (by first | exact HN.out.1 | (show (List.set _ _ _).length = _; rw [List.length_set]; exact HN.out.1)) HN.out.2.1 HN.out.2.2.1 (by first | exact HN.out.2.2.2 | (show (List.set _ _ _).length = _; rw [List.length_set]; exact HN.out.2.2.2)) hi64 ha hav hjc
    have x1' : w3.cell? ⟨gw, i, Option.none⟩ = some (.int .u64 (x : Int)) := by rw [← HWD.out]; exact x1
    have b0' : w3.cell? ⟨p, 0, Option.none⟩ = some (.int .i64 (g : Int)) := by rw [← HSG.out]; exact b0
    clear x1 b0 x2 x3 x4 f2 f3 f4
    go_wp2_with fail
    refine Mix.wp_region_plan (fun w' => w' = World.drew _) [14] [.dep (List.replicate 14 true)] (Array.replicate 14 true ++ Array.replicate 1 false) 1 mixed' (by kernel_rfl) (by kernel_rfl) (by kernel_rfl) (fun _ _ _ _ _ h => h) rfl ?_
    simp only [Mix.wpPlan, Mix.maskL, List.replicate]
    repeat (go_big_quiet_step (fail))
    refine wpQuiet_nil ?_
    refine Mix.wpAny_tail (List.replicate 14 false ++ List.replicate 1 true) (Array.replicate 15 true) (by kernel_rfl) (by kernel_rfl) ?_
    simp only [Mix.maskL, List.replicate, List.cons_append, List.nil_append]
    go_wp2_with fail
    have HA4 := Lib.hid ((HA3.out.set_w (j := i) (z : Int) rfl).drew)
    have HR4 := Lib.hid ((HR3.out.set ⟨gw, i, Option.none⟩ (.int .u64 (z : Int)) (by show gw ≠ w.heap.size; omega)).drew)
    have HB4 := Lib.hid (keeps_drew (HB3.out.setCell ⟨gw, i, Option.none⟩ l1 (.inl u1) (.int .u64 (z : Int))))
    clear x1' b0' f1 b1 b2 b3 b4 HA3 HR3 HB3
    generalize (w3.setCell ⟨gw, i, Option.none⟩ (.int .u64 (z : Int))).drew = w4 at *
    obtain ⟨⟨x1, x2, x3, x4⟩, ⟨f1, f2, f3, f4⟩, b0, b1, b2, b3, b4⟩ := HA4.out.at (i := i) (a := a) (j := j) (nw := nw) (nk := nk) (nv := nv) (nc := nc) (by show (List.set _ _ _).length = _; rw [List.length_set]; exact HN.out.1) HN.out.2.1 HN.out.2.2.1 (by first | exact HN.out.2.2.2 | (show (List.set _ _ _).length = _; rw [List.length_set]; exact HN.out.2.2.2)) hi64 ha hav hjc
    have x2' : w4.cell? ⟨gk, a, Option.none⟩ = some (.int .i64 kx) := by rw [← HKV.out.1]; exact x2
    have x3' : w4.cell? ⟨gv, a, Option.none⟩ = some (.int .i64 vx) := by rw [← HKV.out.2.1]; exact x3
    have hne : gk ≠ gv := fun e => HA4.out.own.kv gk rfl (by rw [e]; rfl)
    have hne2 : gv ≠ gk := fun e => hne e.symm
    clear x1 x2 x3 x4 f1 f4 b0 b1 b4
    have r0 := HR4.out.a0
    have r1 := HR4.out.a1
    have rf0 := HR4.out.f 0
    have rf1 := HR4.out.f 1
    have hr1 : gk ≠ w.heap.size := by omega
    have hr2 : gv ≠ w.heap.size := by omega
    refine Mix.wp_region_plan (fun w' => w' = World.drew _) [12] [.free (List.replicate 11 false ++ [true]), .dep (List.replicate 11 true)] (Array.replicate 12 true ++ Array.replicate 4 false) 4 mixed' (by kernel_rfl) (by kernel_rfl) (by kernel_rfl) (fun _ _ _ _ _ h => h) rfl ?_
    simp only [Mix.wpPlan, Mix.maskL, List.replicate, List.cons_append, List.nil_append]
    repeat (go_big_quiet_step (fail))
    refine wpQuiet_nil ?_
    repeat (go_big_quiet_step (fail))
    refine wpQuiet_nil ?_
    refine Mix.wpAny_tail (List.replicate 12 false ++ List.replicate 4 true) (Array.replicate 16 true) (by kernel_rfl) (by kernel_rfl) ?_
    simp only [Mix.maskL, List.replicate, List.cons_append, List.nil_append]
    go_wp2
    refine bodyPost_ret (v := .agg #[.int .i64 kx, .int .i64 vx]) (by simp [results, Try.results72, go_sem, *]) rfl ⟨rfl, ?_, ?_⟩
    · have := ((((HA4.out.set_k (j := a) 0 rfl).set_v (j := a) 0 rfl).set_other (q := ⟨w.heap.size, 0, Option.none⟩) (u := .int .i64 kx) hpl).set_other (q := ⟨w.heap.size, 1, Option.none⟩) (u := .int .i64 vx) hpl).drew
      rw [HV.out, HTB.out]
      exact this
    · exact keeps_drew ((((HB4.out.setCell ⟨gk, a, Option.none⟩ l2 (.inl u2) (.int .i64 0)).setCell ⟨gv, a, Option.none⟩ l3 (.inl u3) (.int .i64 0)).setCell _ (by show lo ≤ w.heap.size; exact hlo) (.inr (Nat.le_refl _)) _).setCell _ (by show lo ≤ w.heap.size; exact hlo) (.inr (Nat.le_refl _)) _)
end Go.Proofs.Ytiemfklonhlnnaa.Slo

namespace Go.Proofs.Ytiemfklonhlnnaa.Slo
open Go.RowKit Go.Proofs.Ytiemfklonhlnnaa Go.Proofs.Ytiemfklonhlnnaa.Occ Go.Proofs.Ytiemfklonhlnnaa.Frac

theorem set_wd {s : Sl} {a g : Nat} {kx vx : Int} (hsg : s.seg.toNat = g) : setV s a kx vx = { s with ws := s.ws.set (a / 64) ((turn (wd s.ws (a / 64)) (a % 64) true : Nat) : Int), ks := s.ks.set a kx, vs := s.vs.set a vx, cs := s.cs.set (a / g) (s.cs.getD (a / g) 0 + 1), laid := IntKind.u64.wrap (s.laid + 1) } := by
  unfold setV putV; rw [hsg]

set_option maxRecDepth 100000 in
set_option maxHeartbeats 4000000 in
theorem lay_any (lo hi p : Nat) (s : Sl) (h : Hd) (g q a : Nat) (kx vx : Int) (w : World) (A : Arr w lo hi p s h) (o : Ok s g q) (hu : U64 s.ws) (hl : 0 ≤ s.laid ∧ s.laid < 18446744073709551616) (ha : a < s.ks.length) :
    Calls Try.prog 73 #[.pointer (some ⟨p, 0, Option.none⟩), .int .i64 a, .agg #[.int .i64 kx, .int .i64 vx]] w fun e w' => e = .returned (.tuple #[]) ∧ Arr w' lo hi p (layV s a kx vx) h ∧ Keeps lo (p + 1) w.heap.size w w' := by
  have HB1 : Hid (Below w.heap.size w (w.alloc (.cells #[.int .i64 kx, .int .i64 vx] 34))) := Lib.hid ((Below.refl _ w).alloc (Nat.le_refl _) _)
  have HA1 := Lib.hid (A.below HB1.out)
  have HR1 := Lib.hid (Res.new w kx vx 34)
  have HT := Lib.hid (take_any lo hi p s h g q a _ HA1.out o hu ha)
  have hlo : lo ≤ w.heap.size := by have := A.low; have := A.pb; have := A.pl; omega
  have hpl := A.pl
  have hpb := A.pb
  have HO := Lib.hid (o.take hu ha)
  have HU := Lib.hid (take_u hu a)
  have HTO : Hid (occB (takeV s a).ws a = false) := Lib.hid (by rw [take_occ o hu ha, if_pos rfl])
  have ha' : a < (takeV s a).ks.length := by rw [take_len]; exact ha
  have HL : Hid (0 ≤ (takeV s a).laid ∧ (takeV s a).laid < 18446744073709551616) := Lib.hid hl
  have HVL : Hid (layV s a kx vx = setV (takeV s a) a kx vx) := Lib.hid rfl
  clear A o hu hl ha
  generalize takeV s a = t at *
  obtain ⟨aw, cw, ak, ck, av, cv, ac, cc⟩ := h
  go_enter Try.func73, Try.ntmps73
  go_wp2_with fail
  refine HT.out.mono ?_
  rintro e w2 ⟨rfl, hA2, hk⟩
  have HR2 : Hid (Res w2 w.heap.size kx vx) := Lib.hid (by
    have e0 := hk.cell (b := w.heap.size) (o := 0) (by omega) (by simp)
    have e1 := hk.cell (b := w.heap.size) (o := 1) (by omega) (by simp)
    refine ⟨e0.trans HR1.out.a0, e1.trans HR1.out.a1, fun j => ?_⟩
    have : w2.frozen? ⟨w.heap.size, j, Option.none⟩ = (w.alloc (.cells #[.int .i64 kx, .int .i64 vx] 34)).frozen? ⟨w.heap.size, j, Option.none⟩ := World.frozen?_of_block (hk.kept w.heap.size (by omega) (by simp))
    rw [this]; exact HR1.out.f j)
  have HB2 : Hid (Keeps lo (p + 1) w.heap.size w w2) := Lib.hid ((Keeps.of_below HB1.out hlo (Nat.le_refl _)).t ⟨hk.below, fun k h1 h2 => hk.kept k (by omega) (by simp; omega)⟩)
  have hws : w.heap.size < w2.heap.size := by have := hk.below.size; simp at this; omega
  have HWS := Lib.hid hws
  clear hk HB1 HA1 HT HR1 hws
  have hi64 : a / 64 < t.ws.length := by have := HO.out.w; omega
  have hav : a < t.vs.length := by rw [HO.out.v]; exact ha'
  have hj := (seg_of HO.out.g4 HO.out.n ha').1
  have hjc : a / g < t.cs.length := by rw [HO.out.c]; exact hj
  obtain ⟨gw, gk, gv, gc, ⟨rfl, rfl, rfl, rfl⟩, -, -, ⟨l1, l2, l3, l4⟩, ⟨u1, u2, u3, u4⟩⟩ := hA2.open hi64 ha' hav hjc
  have HA2 := Lib.hid hA2
  clear hA2
  have hx := wd_of HU.out (a / 64)
  have hwd := wd_int HU.out (a / 64)
  have hcnt := HO.out.count ha'
  have hn1 := HO.out.n1
  have hsg : t.seg.toNat = g := by rw [HO.out.seg]; simp
  have hsgi := HO.out.seg
  have hg4 := HO.out.g4
  have hg64 := HO.out.g64
  have hm64 : a % 64 < 64 := Nat.mod_lt _ (by decide)
  have h2k : 2 ^ (a % 64) < 18446744073709551616 := Nat.pow_lt_pow_right (n := 64) (by decide) hm64
  have e1 : bits .or .u64 ((wd t.ws (a / 64) : Nat) : Int) ((2 : Int) ^ (a % 64)) = ((turn (wd t.ws (a / 64)) (a % 64) true : Nat) : Int) := by
    have := bits_or_u64_nat (wd t.ws (a / 64)) (2 ^ (a % 64)) hx h2k
    rw [turn_on _ _ hx hm64, clr_or _ _ hx hm64, ← this]; congr 1
  have e4 : IntKind.u64.wrap ((2 : Int) ^ (a % 64)) = (2 : Int) ^ (a % 64) := by
    rw [show (2 : Int) ^ (a % 64) = ((2 ^ (a % 64) : Nat) : Int) by simp]
    generalize 2 ^ (a % 64) = pp at *
    rw [IntKind.wrap_u64]; omega
  have hd : (a : Int) / 64 = ((a / 64 : Nat) : Int) := rfl
  have hmm : (a : Int) % 64 = ((a % 64 : Nat) : Int) := rfl
  have ht : (a : Int).tdiv (g : Int) = ((a / g : Nat) : Int) := by rw [Int.tdiv_eq_ediv_of_nonneg (by omega)]; simp
  have wj : IntKind.i64.wrap ((a / g : Nat) : Int) = ((a / g : Nat) : Int) := by
    have hdl := Nat.div_le_self a g
    generalize a / g = jj at *
    rw [IntKind.wrap_i64]; omega
  have g0 : ((g : Int) == 0) = false := by rw [beq_eq_false_iff_ne]; omega
  have g1 : (g : Int) ≠ 0 := by omega
  have g2 : g ≠ 0 := by omega
  have HV : Hid (setV t a kx vx = _) := Lib.hid (set_wd hsg)
  have hc0 := hcnt.1
  have hc64 := hcnt.2.1
  have w1 : IntKind.i64.wrap (t.cs.getD (a / g) 0 + 1) = t.cs.getD (a / g) 0 + 1 := by rw [IntKind.wrap_i64]; omega
  clear HO HU HTO hcnt hsg hj
  generalize hnw : t.ws.length = nw at *
  generalize hnk : t.ks.length = nk at *
  generalize hnv : t.vs.length = nv at *
  generalize hnc : t.cs.length = nc at *
  have HN := Lib.hid (And.intro hnw (And.intro hnk (And.intro hnv hnc)))
  clear hnw hnk hnv hnc
  generalize hxx : wd t.ws (a / 64) = x at *
  generalize hii : a / 64 = i at *
  generalize hmm2 : a % 64 = m at *
  generalize hjj : a / g = j at *
  clear hxx hii hmm2 hjj
  generalize hz : turn x m true = z at *
  clear hz
  have HWD := Lib.hid hwd
  have HSG := Lib.hid hsgi
  clear hwd hsgi
  generalize hcc : t.cs.getD j 0 = cx at *
  have HKV := Lib.hid hcc
  clear hcc
  obtain ⟨⟨x1, x2, x3, x4⟩, ⟨f1, f2, f3, f4⟩, b0, b1, b2, b3, b4⟩ := HA2.out.at HN.out.1 HN.out.2.1 HN.out.2.2.1 HN.out.2.2.2 hi64 ha' hav hjc
  rw [HSG.out] at b0
  rw [HKV.out] at x4
  clear x1 x2 x3 f1 f2 f3 b1 b2 b3
  go_wp2_with fail
  refine Mix.wp_region_plan (fun w' => w' = World.drew _) [16] [.dep [true, true, true, true, true, true, true, true, true, true, true, true, true, true, true, true]] (Array.replicate 16 true ++ Array.replicate 1 false) 1 mixed' (by kernel_rfl) (by kernel_rfl) (by kernel_rfl) (fun _ _ _ _ _ h => h) rfl ?_
  simp only [Mix.wpPlan, Mix.maskL]
  repeat (go_big_quiet_step (fail))
  refine wpQuiet_nil ?_
  refine Mix.wpAny_tail [false, false, false, false, false, false, false, false, false, false, false, false, false, false, false, false, true] (Array.replicate 17 true) (by kernel_rfl) (by kernel_rfl) ?_
  simp only [Mix.maskL]
  go_wp2_with fail
  have HA3 := Lib.hid ((HA2.out.set_c (j := j) (cx + 1) rfl).drew)
  have HR3 := Lib.hid ((HR2.out.set ⟨gc, j, Option.none⟩ (.int .i64 (cx + 1)) (by show gc ≠ w.heap.size; omega)).drew)
  have HB3 := Lib.hid (keeps_drew (HB2.out.setCell ⟨gc, j, Option.none⟩ l4 (.inl (by show gc < p + 1; omega)) (.int .i64 (cx + 1))))
  have HWS3 : Hid (w.heap.size < (w2.setCell ⟨gc, j, Option.none⟩ (.int .i64 (cx + 1))).drew.heap.size) := Lib.hid (by simpa using HWS.out)
  clear x4 f4 b0 b4 HA2 HR2 HB2 HWS
  generalize (w2.setCell ⟨gc, j, Option.none⟩ (.int .i64 (cx + 1))).drew = w3 at *
  obtain ⟨⟨x1, x2, x3, x4⟩, ⟨f1, f2, f3, f4⟩, b0, b1, b2, b3, b4⟩ := HA3.out.at (i := i) (a := a) (j := j) (nw := nw) (nk := nk) (nv := nv) (nc := nc) (by first | exact HN.out.1 | (show (List.set _ _ _).length = _; rw [List.length_set]; exact HN.out.1)) (by first | exact HN.out.2.1 | (show (List.set _ _ _).length = _; rw [List.length_set]; exact HN.out.2.1)) (by first | exact HN.out.2.2.1 | (show (List.set _ _ _).length = _; rw [List.length_set]; exact HN.out.2.2.1)) (by first | exact HN.out.2.2.2 | (show (List.set _ _ _).length = _; rw [List.length_set]; exact HN.out.2.2.2)) hi64 ha' hav hjc
  have x1' : w3.cell? ⟨gw, i, Option.none⟩ = some (.int .u64 (x : Int)) := by rw [← HWD.out]; exact x1
  clear x1 x2 x3 x4 f2 f3 f4 b0 b2 b3 b4
  refine Mix.wp_region_plan (fun w' => w' = World.drew _) [14] [.dep [true, true, true, true, true, true, true, true, true, true, true, true, true, true]] (Array.replicate 14 true ++ Array.replicate 1 false) 1 mixed' (by kernel_rfl) (by kernel_rfl) (by kernel_rfl) (fun _ _ _ _ _ h => h) rfl ?_
  simp only [Mix.wpPlan, Mix.maskL]
  repeat (go_big_quiet_step (fail))
  refine wpQuiet_nil ?_
  refine Mix.wpAny_tail [false, false, false, false, false, false, false, false, false, false, false, false, false, false, true] (Array.replicate 15 true) (by kernel_rfl) (by kernel_rfl) ?_
  simp only [Mix.maskL]
  go_wp2_with fail
  have HA4 := Lib.hid ((HA3.out.set_w (j := i) (z : Int) rfl).drew)
  have HR4 := Lib.hid ((HR3.out.set ⟨gw, i, Option.none⟩ (.int .u64 (z : Int)) (by show gw ≠ w.heap.size; omega)).drew)
  have HB4 := Lib.hid (keeps_drew (HB3.out.setCell ⟨gw, i, Option.none⟩ l1 (.inl (by show gw < p + 1; omega)) (.int .u64 (z : Int))))
  have HWS4 : Hid (w.heap.size < (w3.setCell ⟨gw, i, Option.none⟩ (.int .u64 (z : Int))).drew.heap.size) := Lib.hid (by simpa using HWS3.out)
  clear x1' f1 b1 HA3 HR3 HB3 HWS3
  generalize (w3.setCell ⟨gw, i, Option.none⟩ (.int .u64 (z : Int))).drew = w4 at *
  obtain ⟨⟨x1, x2, x3, x4⟩, ⟨f1, f2, f3, f4⟩, b0, b1, b2, b3, b4⟩ := HA4.out.at (i := i) (a := a) (j := j) (nw := nw) (nk := nk) (nv := nv) (nc := nc) (by first | exact HN.out.1 | (show (List.set _ _ _).length = _; rw [List.length_set]; exact HN.out.1)) (by first | exact HN.out.2.1 | (show (List.set _ _ _).length = _; rw [List.length_set]; exact HN.out.2.1)) (by first | exact HN.out.2.2.1 | (show (List.set _ _ _).length = _; rw [List.length_set]; exact HN.out.2.2.1)) (by first | exact HN.out.2.2.2 | (show (List.set _ _ _).length = _; rw [List.length_set]; exact HN.out.2.2.2)) hi64 ha' hav hjc
  have r0 := HR4.out.a0
  have r1 := HR4.out.a1
  have b5 := HA4.out.b5
  have fb5 := HA4.out.fz 5
  have hne : gk ≠ gv := fun e => HA4.out.own.kv gk rfl (by rw [e]; rfl)
  have hne2 : gv ≠ gk := fun e => hne e.symm
  have hp1 : gk ≠ p := by omega
  have hp2 : gv ≠ p := by omega
  have hr1 : gk ≠ w.heap.size := by omega
  have hr2 : gv ≠ w.heap.size := by omega
  generalize hla : IntKind.u64.wrap (t.laid + 1) = la at *
  clear x1 x4 f1 f4 b0 b1 b4
  have na : ∀ b o, gk ≠ b → (⟨gk, a, Option.none⟩ : Addr) ≠ ⟨b, o, Option.none⟩ := fun b o hb e => hb (by cases e; rfl)
  have HNA := Lib.hid na
  clear na
  have k2 := Mix.maySet_cell (w := w4.drew) (q := ⟨gk, a, Option.none⟩) b2 (HNA.out _ _ hp1)
  have k3 := Mix.maySet_cell (w := w4.drew) (q := ⟨gk, a, Option.none⟩) b3 (HNA.out _ _ hp1)
  have kr0 := Mix.maySet_cell (w := w4.drew) (q := ⟨gk, a, Option.none⟩) r0 (HNA.out _ _ hr1)
  have kr1 := Mix.maySet_cell (w := w4.drew) (q := ⟨gk, a, Option.none⟩) r1 (HNA.out _ _ hr1)
  refine Mix.wp_region_plan (fun w' => ∃ o, w' = Mix.maySet w4.drew ⟨gk, a, Option.none⟩ o) [18] [.dep (List.replicate 17 true), .run (List.replicate 17 false ++ [true])] (Array.replicate 18 true ++ Array.replicate 2 false) 2 mixed' (by kernel_rfl) (by kernel_rfl) (by kernel_rfl) (fun _ _ _ _ _ h => h) ⟨Option.none, rfl⟩ ?_
  simp only [Mix.wpPlan, Mix.maskL, List.replicate, List.cons_append, List.nil_append]
  repeat (go_big_quiet_step (fail))
  refine wpQuiet_nil ?_
  clear k2 k3 kr0 kr1
  unfold Mix.wpListS
  go_wp2_with fail
  refine ⟨⟨some (.int .i64 kx), rfl⟩, ?_⟩
  unfold Mix.wpListS
  refine Mix.wpAny_tail (List.replicate 18 false ++ List.replicate 2 true) (Array.replicate 20 true) (by kernel_rfl) (by kernel_rfl) ?_
  simp only [Mix.maskL, List.replicate, List.cons_append, List.nil_append]
  go_wp2
  go_end0
  refine ⟨rfl, ?_, ?_⟩
  · have := ((((HA4.out.set_k (j := a) kx rfl).set_v (j := a) vx rfl)).set_laid la).drew
    rw [HVL.out, HV.out]
    exact this
  · exact keeps_drew (((HB4.out.setCell ⟨gk, a, Option.none⟩ l2 (.inl (by show gk < p + 1; omega)) (.int .i64 kx)).setCell ⟨gv, a, Option.none⟩ l3 (.inl (by show gv < p + 1; omega)) (.int .i64 vx)).setCell ⟨p, 5, Option.none⟩ (by show lo ≤ p; omega) (.inl (Nat.lt_succ_self p)) (.int .u64 la))

end Go.Proofs.Ytiemfklonhlnnaa.Slo

namespace Go.Proofs.Ytiemfklonhlnnaa.Slo
open Go.RowKit Go.Proofs.Ytiemfklonhlnnaa Go.Proofs.Ytiemfklonhlnnaa.Occ Go.Proofs.Ytiemfklonhlnnaa.Frac
attribute [local go_sem] sval

def askS (s : Sl) (b : Bool) : Int := if okS s = true then (if b = true then 0 else 2) else 8
theorem askS_ok {s : Sl} {b : Bool} (h : askS s b = 0) : okS s = true ∧ b = true := by
  unfold askS at h
  by_cases h1 : okS s = true
  · rw [if_pos h1] at h
    cases b with
    | true => exact ⟨h1, rfl⟩
    | false => cases h
  · rw [if_neg h1] at h; cases h
theorem askS_yes {s : Sl} {b : Bool} (h1 : okS s = true) (h2 : b = true) : askS s b = 0 := by unfold askS; rw [if_pos h1, if_pos h2]
theorem askS_place {s : Sl} {b : Bool} (h1 : okS s = true) (h2 : b = false) : askS s b = 2 := by unfold askS; rw [if_pos h1, h2]; rfl
theorem askS_bad {s : Sl} {b : Bool} (h1 : okS s = false) : askS s b = 8 := by unfold askS; rw [h1]; rfl
theorem chkS_yes {s : Sl} (h : okS s = true) : chkS s = 0 := by unfold chkS; rw [if_pos h]
theorem chkS_no {s : Sl} (h : okS s = false) : chkS s = 8 := by unfold chkS; rw [h]; rfl

set_option maxRecDepth 100000 in
set_option maxHeartbeats 2000000 in
theorem sPart_any (s : Sl) (h : Hd) (f t : Int) (w : World) (W : s.Wf) (R : SRd w s h) :
    Calls Try.prog 37 #[sval s h, .int .i64 f, .int .i64 t] w fun e w' => e = .returned (.int .i64 (askS s (inB s.ks.length f t))) ∧ Below w.heap.size w w' := by
  have HC := Lib.hid (fun w1 (hb : Below w.heap.size w w1) => sCheck_any s h w1 W (R.mono hb (Nat.le_refl _)))
  have HB : Hid (∀ o, Below w.heap.size w (w.alloc o)) := Lib.hid fun o => (Below.refl _ w).alloc (Nat.le_refl _) _
  clear W R
  cases hk : okS s
  · rw [askS_bad hk]
    rw [chkS_no hk] at HC
    clear hk
    unfold sval at *
    go_enter Try.func37, Try.ntmps37
    go_wp2_with fail
    refine (HC.out _ (HB.out _)).mono ?_
    rintro e w' ⟨rfl, hb⟩
    have HB2 := Lib.hid ((HB.out _).trans (hb.mono (HB.out _).size))
    clear hb
    go_wp2
    go_ret
    exact ⟨rfl, HB2.out⟩
  · rw [chkS_yes hk] at HC
    by_cases h0 : f < 0
    · rw [askS_place hk (by rw [Bool.eq_false_iff]; intro g; have := (inB_iff.1 g).1; omega)]
      clear hk
      unfold sval at *
      go_enter Try.func37, Try.ntmps37
      go_wp2_with fail
      refine (HC.out _ (HB.out _)).mono ?_
      rintro e w' ⟨rfl, hb⟩
      have HB2 := Lib.hid ((HB.out _).trans (hb.mono (HB.out _).size))
      clear hb
      go_wp2
      go_ret
      exact ⟨rfl, HB2.out⟩
    · by_cases h1 : t < f
      · rw [askS_place hk (by rw [Bool.eq_false_iff]; intro g; have := (inB_iff.1 g).2; omega)]
        clear hk
        unfold sval at *
        go_enter Try.func37, Try.ntmps37
        go_wp2_with fail
        refine (HC.out _ (HB.out _)).mono ?_
        rintro e w' ⟨rfl, hb⟩
        have HB2 := Lib.hid ((HB.out _).trans (hb.mono (HB.out _).size))
        clear hb
        go_wp2
        go_ret
        exact ⟨rfl, HB2.out⟩
      · by_cases h2 : (s.ks.length : Int) < t
        · rw [askS_place hk (by rw [Bool.eq_false_iff]; intro g; have := (inB_iff.1 g).2; omega)]
          clear hk
          unfold sval at *
          generalize s.ks.length = n at *
          go_enter Try.func37, Try.ntmps37
          go_wp2_with fail
          refine (HC.out _ (HB.out _)).mono ?_
          rintro e w' ⟨rfl, hb⟩
          have HB2 := Lib.hid ((HB.out _).trans (hb.mono (HB.out _).size))
          obtain ⟨c0, c1, c2, c3, c4, c5⟩ := box6 (wr := w') (by simpa using hb)
          clear hb c0 c1 c3 c4 c5
          go_wp2
          go_ret
          exact ⟨rfl, HB2.out⟩
        · rw [askS_yes hk (inB_iff.2 ⟨by omega, by omega, by omega⟩)]
          clear hk
          unfold sval at *
          generalize s.ks.length = n at *
          go_enter Try.func37, Try.ntmps37
          go_wp2_with fail
          refine (HC.out _ (HB.out _)).mono ?_
          rintro e w' ⟨rfl, hb⟩
          have HB2 := Lib.hid ((HB.out _).trans (hb.mono (HB.out _).size))
          obtain ⟨c0, c1, c2, c3, c4, c5⟩ := box6 (wr := w') (by simpa using hb)
          clear hb c0 c1 c3 c4 c5
          go_wp2
          go_ret
          exact ⟨rfl, HB2.out⟩

/-- What answers a gapped array and an error: new memory. -/
def AnsS (V : Sl × Int) (w : World) (e : Ending) (w' : World) : Prop :=
  ∃ h', e = .returned (.tuple #[sval V.1 h', .int .i64 V.2]) ∧ SOwn w' w.heap.size w'.heap.size V.1 h' ∧ Below w.heap.size w w'
def noneS : Sl := ⟨0, [], [], [], [], 0⟩
def noneH : Hd := ⟨Option.none, 0, Option.none, 0, Option.none, 0, Option.none, 0⟩
theorem ap_none (a : Option Addr) : Ap Option.none a := fun k hk => by cases hk
theorem noneS_own (w : World) (lo hi : Nat) : SOwn w lo hi noneS noneH :=
  ⟨World.ownsRow_nil _ _ _ _, World.ownsRow_nil _ _ _ _, World.ownsRow_nil _ _ _ _, World.ownsRow_nil _ _ _ _, fun k hk => (by cases hk), fun k hk => (by cases hk), fun k hk => (by cases hk), fun k hk => (by cases hk), ap_none _, ap_none _, ap_none _, ap_none _, ap_none _, ap_none _⟩
def laySV (s : Sl) (a : Int) (x y : Int) : Sl × Int := if askS s (atB s.ks.length a) = 0 then (layV s a.toNat x y, 0) else (noneS, askS s (atB s.ks.length a))
end Go.Proofs.Ytiemfklonhlnnaa.Slo

namespace Go.Proofs.Ytiemfklonhlnnaa.Slo
open Go.RowKit Go.Proofs.Ytiemfklonhlnnaa Go.Proofs.Ytiemfklonhlnnaa.Occ Go.Proofs.Ytiemfklonhlnnaa.Frac
attribute [local go_sem] sval

theorem SOwn.set_low {w : World} {lo hi : Nat} {s : Sl} {h : Hd} (o : SOwn w lo hi s h) (p : Addr) (u : Value) (hp : p.block < lo) : SOwn (w.setCell p u) lo hi s h :=
  ⟨own_set o.ow p u hp, own_set o.ok p u hp, own_set o.ov p u hp, own_set o.oc p u hp, o.hw, o.hk, o.hv, o.hc, o.wk, o.wv, o.wc, o.kv, o.kc, o.vc⟩
theorem SOwn.mono {w : World} {lo hi lo' hi' : Nat} {s : Sl} {h : Hd} (o : SOwn w lo hi s h) (h1 : lo' ≤ lo) (h2 : hi ≤ hi') : SOwn w lo' hi' s h :=
  ⟨o.ow.mono h1, o.ok.mono h1, o.ov.mono h1, o.oc.mono h1, fun k hk => Nat.lt_of_lt_of_le (o.hw k hk) h2, fun k hk => Nat.lt_of_lt_of_le (o.hk k hk) h2, fun k hk => Nat.lt_of_lt_of_le (o.hv k hk) h2, fun k hk => Nat.lt_of_lt_of_le (o.hc k hk) h2, o.wk, o.wv, o.wc, o.kv, o.kc, o.vc⟩
theorem SOwn.drew {w : World} {lo hi : Nat} {s : Sl} {h : Hd} (o : SOwn w lo hi s h) : SOwn w.drew lo hi s h := o.below (Below.refl _ w).drew
/-- Of one that may be: its slices begin rows. -/
theorem Ok.pl {w : World} {s : Sl} {h : Hd} {g q : Nat} (o : Ok s g q) (R : SRd w s h) : HPl h := by
  have h1 := o.n; have h2 := o.q1; have h3 := o.g4; have h4 := o.v; have h5 := o.w; have h6 := o.c
  have h7 : 1 * g ≤ q * g := Nat.mul_le_mul_right _ h2
  have e : ∀ l : List Int, l.length ≠ 0 → l ≠ [] := fun l hl h => hl (by rw [h]; rfl)
  exact ⟨Plain.of_rd R.fw (e _ (by omega)), Plain.of_rd R.fk (e _ (by omega)), Plain.of_rd R.fv (e _ (by omega)), Plain.of_rd R.fc (e _ (by omega))⟩
/-- The struct in a new block of its own, behind the rows. -/
theorem arr_new {w : World} {lo : Nat} {s : Sl} {h : Hd} (o : SOwn w lo w.heap.size s h) (hlo : lo ≤ w.heap.size) (t : TypeId) :
    Arr (w.alloc (.cells #[.int .i64 s.seg, .slice h.aw s.ws.length h.cw, .slice h.ak s.ks.length h.ck, .slice h.av s.vs.length h.cv, .slice h.ac s.cs.length h.cc, .int .u64 s.laid] t)) lo w.heap.size w.heap.size s h := by
  obtain ⟨c0, c1, c2, c3, c4, c5⟩ := box6 (w := w) (Below.refl _ (w.alloc (.cells #[.int .i64 s.seg, .slice h.aw s.ws.length h.cw, .slice h.ak s.ks.length h.ck, .slice h.av s.vs.length h.cv, .slice h.ac s.cs.length h.cc, .int .u64 s.laid] t)))
  exact ⟨o.below ((Below.refl _ w).alloc (Nat.le_refl _) _), hlo, Nat.le_refl _, by simp, c0, c1, c2, c3, c4, c5, fun j => frozen_new _ _ _ _⟩
/-- The cells of three new blocks: a struct of six, a pair, a struct of six. -/
theorem box626 {w wr : World} {v0 v1 v2 v3 v4 v5 x0 x1 u0 u1 u2 u3 u4 u5 : Value} {t t2 : TypeId} (h : Below (w.heap.size + 1 + 1 + 1) (((w.alloc (.cells #[v0, v1, v2, v3, v4, v5] t)).alloc (.cells #[x0, x1] t2)).alloc (.cells #[u0, u1, u2, u3, u4, u5] t)) wr) :
    (wr.cell? ⟨w.heap.size, 0, Option.none⟩ = some v0 ∧ wr.cell? ⟨w.heap.size, 1, Option.none⟩ = some v1 ∧ wr.cell? ⟨w.heap.size, 2, Option.none⟩ = some v2 ∧
    wr.cell? ⟨w.heap.size, 3, Option.none⟩ = some v3 ∧ wr.cell? ⟨w.heap.size, 4, Option.none⟩ = some v4 ∧ wr.cell? ⟨w.heap.size, 5, Option.none⟩ = some v5) ∧
    (wr.cell? ⟨w.heap.size + 1, 0, Option.none⟩ = some x0 ∧ wr.cell? ⟨w.heap.size + 1, 1, Option.none⟩ = some x1) ∧
    (wr.cell? ⟨w.heap.size + 2, 0, Option.none⟩ = some u0 ∧ wr.cell? ⟨w.heap.size + 2, 1, Option.none⟩ = some u1 ∧ wr.cell? ⟨w.heap.size + 2, 2, Option.none⟩ = some u2 ∧
    wr.cell? ⟨w.heap.size + 2, 3, Option.none⟩ = some u3 ∧ wr.cell? ⟨w.heap.size + 2, 4, Option.none⟩ = some u4 ∧ wr.cell? ⟨w.heap.size + 2, 5, Option.none⟩ = some u5) ∧ ∀ j, wr.frozen? ⟨w.heap.size + 2, j, Option.none⟩ = false := by
  generalize ha : w.alloc (.cells #[v0, v1, v2, v3, v4, v5] t) = wa at *
  have sa : wa.heap.size = w.heap.size + 1 := by rw [← ha]; simp
  generalize hb : wa.alloc (.cells #[x0, x1] t2) = wb at *
  have sb : wb.heap.size = w.heap.size + 2 := by rw [← hb]; simp [sa]
  have a1 : Below (w.heap.size + 1) (w.alloc (.cells #[v0, v1, v2, v3, v4, v5] t)) wr := by
    rw [ha]
    have h1 : Below (w.heap.size + 1) wa wb := by rw [← hb]; exact (Below.refl _ _).alloc (by omega) _
    exact (h1.alloc (by omega) _).trans (h.mono (by omega))
  have a3 : Below (wb.heap.size + 1) (wb.alloc (.cells #[u0, u1, u2, u3, u4, u5] t)) wr := h.mono (by omega)
  have b3 := box6 a3
  have f3 := fun j => box_frozen a3 j
  rw [sb] at b3 f3
  have H : ∀ j u, [x0, x1][j]? = some u → wr.cell? ⟨w.heap.size + 1, j, Option.none⟩ = some u := fun j u hj => by
    have hn := new_cells wa t2 #[x0, x1] j u (by simpa using hj)
    rw [Addr.add_lit, Nat.zero_add, hb, sa] at hn
    rw [h.cell (p := ⟨w.heap.size + 1, j, Option.none⟩) (by show w.heap.size + 1 < _; omega)]
    exact (((Below.refl wb.heap.size wb).alloc (Nat.le_refl _) _).cell (p := ⟨w.heap.size + 1, j, Option.none⟩) (by show w.heap.size + 1 < _; omega)).trans hn
  exact ⟨box6 a1, ⟨H 0 _ rfl, H 1 _ rfl⟩, b3, f3⟩

end Go.Proofs.Ytiemfklonhlnnaa.Slo

namespace Go.Proofs.Ytiemfklonhlnnaa
open Go.RowKit Go.Shelf

def pcells (P : List (Int × Int)) : List Value := P.flatMap (fun p => [.int .i64 p.1, .int .i64 p.2])
theorem pcells_append (P Q : List (Int × Int)) : pcells (P ++ Q) = pcells P ++ pcells Q := by simp [pcells]
theorem pcells_length (P : List (Int × Int)) : (pcells P).length = P.length * 2 := by
  induction P with
  | nil => rfl
  | cons p P ih => rw [show p :: P = [p] ++ P from rfl, pcells_append, List.length_append, ih]; simp [pcells]; omega
theorem pcells_get (P : List (Int × Int)) (i : Nat) (h : i < P.length) : (pcells P)[i * 2]? = some (.int .i64 (P.getD i (0, 0)).1) ∧ (pcells P)[i * 2 + 1]? = some (.int .i64 (P.getD i (0, 0)).2) := by
  induction P generalizing i with
  | nil => simp at h
  | cons p P ih =>
    rw [show pcells (p :: P) = .int .i64 p.1 :: .int .i64 p.2 :: pcells P from rfl]
    cases i with
    | zero => exact ⟨rfl, rfl⟩
    | succ i =>
      have := ih i (by simpa using h)
      rw [show (i + 1) * 2 = i * 2 + 2 by omega]
      exact this
theorem pcells_one (P : List (Int × Int)) : ∀ u ∈ pcells P, u.oneCell' = true := by
  intro u hu
  unfold pcells at hu
  obtain ⟨p, _, hp⟩ := List.mem_flatMap.1 hu
  simp at hp
  rcases hp with rfl | rfl <;> rfl

/-- The pairs P stand in a row of cells at the address (which is any, where there are none). -/
def Rd2 (w : World) (a : Option Addr) (P : List (Int × Int)) : Prop :=
  P = [] ∨ ∃ b off, a = some ⟨b, off, Option.none⟩ ∧ b < w.heap.size ∧ ∀ i, i < P.length → w.cell? ⟨b, off + i * 2, Option.none⟩ = some (.int .i64 (P.getD i (0, 0)).1) ∧ w.cell? ⟨b, off + i * 2 + 1, Option.none⟩ = some (.int .i64 (P.getD i (0, 0)).2)
theorem Rd2.nil {w : World} {a : Option Addr} : Rd2 w a [] := .inl rfl
theorem Rd2.mono {w w1 : World} {a : Option Addr} {P : List (Int × Int)} {n : Nat} (h : Rd2 w a P) (hb : Below n w w1) (hn : w.heap.size ≤ n) : Rd2 w1 a P := by
  rcases h with h | ⟨b, off, ha, hlt, hc⟩
  · exact .inl h
  · exact .inr ⟨b, off, ha, Nat.lt_of_lt_of_le hlt hb.size, fun i hi => ⟨(hb.cell (p := ⟨b, off + i * 2, Option.none⟩) (Nat.lt_of_lt_of_le hlt hn)).trans (hc i hi).1, (hb.cell (p := ⟨b, off + i * 2 + 1, Option.none⟩) (Nat.lt_of_lt_of_le hlt hn)).trans (hc i hi).2⟩⟩
theorem Rd2.at {w w1 : World} {a : Option Addr} {P : List (Int × Int)} {n i : Nat} (h : Rd2 w a P) (hb : Below n w w1) (hn : w.heap.size ≤ n) (hi : i < P.length) :
    ∃ b off, a = some ⟨b, off, Option.none⟩ ∧ w1.cell? ⟨b, off + i * 2, Option.none⟩ = some (.int .i64 (P.getD i (0, 0)).1) ∧ w1.cell? ⟨b, off + i * 2 + 1, Option.none⟩ = some (.int .i64 (P.getD i (0, 0)).2) := by
  rcases h.mono hb hn with h | ⟨b, off, ha, _, hc⟩
  · subst h; simp at hi
  · exact ⟨b, off, ha, (hc i hi).1, (hc i hi).2⟩
/-- What a call has made and owns. -/
theorem owns2_arg {w : World} {base : Nat} {e : TypeId} {v : Value} {n : Nat} {P : List (Int × Int)} (h : w.ownsRow base e 2 v n (pcells P)) :
    ∃ a cap, v = .slice a P.length cap ∧ n = P.length ∧ Rd2 w a P ∧ P.length ≤ cap ∧ (a = Option.none → cap = 0) ∧ cap ≤ maxLen := by
  have hn : n = P.length := by have := h.1; rw [pcells_length] at this; omega
  subst hn
  rcases h.2 with ⟨rfl, h0⟩ | ⟨g, cap, cur, rfl, hg, hh, hc, hm, hs, ht⟩
  · have hP : P = [] := by cases P with
      | nil => rfl
      | cons _ _ => simp at h0
    subst hP
    exact ⟨Option.none, 0, rfl, rfl, .inl rfl, Nat.le_refl _, fun _ => rfl, Nat.zero_le _⟩
  · refine ⟨some ⟨g, 0, Option.none⟩, cap, rfl, rfl, .inr ⟨g, 0, rfl, ?_, fun i hi => ?_⟩, hc, (by intro h; cases h), hm⟩
    · rcases Nat.lt_or_ge g w.heap.size with h | h
      · exact h
      · rw [Array.getElem?_eq_none h] at hh; cases hh
    · have key : ∀ j, j < P.length * 2 → cur[j]? = (pcells P)[j]? := fun j hj => by
        rw [← ht, List.getElem?_take_of_lt hj, Array.getElem?_toList]
      have := pcells_get P i hi
      constructor
      · rw [Nat.zero_add]
        simp only [World.cell?, hh]
        rw [key _ (by omega), this.1]
        rfl
      · rw [Nat.zero_add]
        simp only [World.cell?, hh]
        rw [key _ (by omega), this.2]
        rfl

theorem two_cells (w : World) (t : TypeId) (x y : Int) : ∀ j u, [Value.int .i64 x, Value.int .i64 y][j]? = some u → (w.alloc (.cells #[.int .i64 x, .int .i64 y] t)).cell? ((⟨w.heap.size, 0, Option.none⟩ : Addr).add j) = some u := by
  intro j u h
  rw [Addr.add_lit, Nat.zero_add, cell_of_row _ w.heap.size j _ t (0, 0) (heap_alloc_new w _)]
  simpa using h

/-- '==' of two arrays of two numbers. -/
theorem run_equalIn_array2 {P : Program} (w : World) (d : Nat) (t e : TypeId) (i : TypeInfo) (k : IntKind) (a b x y : Int) (ht : P.underlying t = some (.array 2 e)) (he : P.underlying e = some (.int k)) (hi : P.info? e = some i) (hs : i.size = 1) :
    (Op.equalIn (d + 2) t (.agg #[.int k a, .int k b]) (.agg #[.int k x, .int k y])).run P w = .ok (a == x && b == y) w := by
  have q0 := run_equalIn_int (P := P) w d e k k a x he
  have q1 := run_equalIn_int (P := P) w d e k k b y he
  unfold Op.equalIn
  simp only [Sem.run_bind, run_underlying ht, Result.andThen_ok]
  simp [sizeOf, typeInfo, hi, hs]
  rw [show List.range' 0 2 = [0, 1] from rfl]
  simp only [List.forIn_cons, List.forIn_nil]
  cases hax : (a == x) <;> cases hby : (b == y) <;> simp [isAgg, run_underlying he, part, q0, q1, hax, hby]

/-- 'append(out, p)' of one pair. -/
theorem wpList_append_pair {P : Program} {w0 : World} {ops : Array Oper} {rest : List Oper} {o : Oper} {A : Act} {Q : Exit → Act → World → Prop} {base : Nat} {e : TypeId} {v : Value} {n : Nat} {L : List (Int × Int)} (hown : w0.ownsRow base e 2 v n (pcells L)) (hbase : base ≤ w0.heap.size)
    (hgd : o.guard = Option.none) (s x : Operand) (t : TypeId)
    (ho : o.op = .call { callee := .builtin .append, args := #[s, x], argTypes := #[t, t] })
    (i : TypeInfo) (ht : P.underlying t = some (.slice e)) (hi : P.info? e = some i) (hz : i.zero = some (.agg #[.int .i64 0, .int .i64 0])) (hsize : i.size = 2) (hby : i.bytes = 16)
    (p q : Int) (c : Nat) (hs : A.eval s = v) (hx : A.eval x = .slice (some ⟨w0.heap.size, 0, Option.none⟩) 1 c)
    (h63 : n + 1 ≤ maxLen) (hb : (n + 1) * 16 ≤ 140737488355328)
    (h : ∀ v' w', w'.ownsRow base e 2 v' (n + 1) (pcells (L ++ [(p, q)])) → Below base w0 w' → wpList P ops Q rest (A.put o.dst v') w') :
    wpList P ops Q (o :: rest) A (w0.alloc (.cells #[.int .i64 p, .int .i64 q] e)) := by
  refine wpList_append_own _ hgd s x t ho base e i (.agg #[.int .i64 0, .int .i64 0]) 2 16 ht hi hz hsize hby rfl (by decide) v n (pcells L) hs (hown.alloc _) ⟨w0.heap.size, 0, Option.none⟩ 1 c [.int .i64 p, .int .i64 q] hx (by simp) (two_cells w0 e p q) (by intro u hu; simp at hu; rcases hu with rfl | rfl <;> rfl) h63 hb (Nat.le_trans hbase (by simp)) ?_
  intro v' w' hown' hgrow _
  refine h v' w' (by rw [pcells_append]; exact hown') (((Below.refl base w0).alloc hbase _).grown hgrow (Nat.le_trans hbase (by simp)) (fun k hk => (World.ownsRow.lt hown k hk).1))
end Go.Proofs.Ytiemfklonhlnnaa

namespace Go.Proofs.Ytiemfklonhlnnaa
open Go.RowKit
theorem listIn_skip2 {m : Nat} {P : Program} {ops : Array Oper} {Q : Exit → Act → World → Prop} {w : World} {a : Act} {o1 o2 : Oper} {r : List Oper} (hs : skipB ops [o1, o2] a = true) (h : wpListIn Fence.wide m P ops Q r (putAll [o1, o2] a) w) : wpListIn Fence.wide m P ops Q (o1 :: o2 :: r) a w := by
  simp only [skipB, Bool.and_eq_true, Bool.not_eq_true'] at hs
  unfold wpListIn
  rw [if_neg (by rw [hs.1]; exact Bool.false_ne_true)]
  refine ⟨fun _ _ => trivial, ?_⟩
  unfold wpListIn
  rw [if_neg (by rw [hs.2.1]; exact Bool.false_ne_true)]
  exact ⟨fun _ _ => trivial, h⟩
end Go.Proofs.Ytiemfklonhlnnaa

namespace Go.Proofs.Ytiemfklonhlnnaa
open Go.RowKit

theorem rangeFunc_box {m : Nat} {P : Program} {α : Type} {g : Operand} {ps : Array Tmp} {assign body : Code} {Q : Exit → Act → World → Prop} {a : Act} {w : World}
    (qs : α → Nat → List (Tmp × Value)) (Bp : α → Nat → World → Prop) (h1 : 1 ≤ m) {gf : Nat} {lb : Array Value} (hg : a.eval g = .func (.func gf) #[] lb) (eg : ∀ args w, (callFunc gf args).run P w = .ok (.enter gf args) w)
    {encs : α → Array Value} {Kp : World → World → Prop} {S Sp : List α → Prop} {N : Nat} {w0 : World} (hseq : SeqStopsK Fence.wide (m - 1) P gf lb encs Kp S Sp N w0)
    (hKt : ∀ {A B C : World}, Kp A B → Kp B C → Kp A C) (hKb : ∀ (W : World) (l : Nat) (o o' : Obj), w.heap.size ≤ l → W.heap[l]? = some o → o.isCells = false → o.isWalk = false → Kp W (W.putObj l o')) (hb0 : Below w0.heap.size w0 w) (hps : ∀ x, (encs x).size = ps.size)
    (I : List α → World → Prop) (Ix : Code → List α → World → Prop) (hI : OwnFrom w.heap.size I) (hIx : ∀ c, OwnFrom w.heap.size (Ix c)) (h0 : I [] w)
    (hBp : ∀ x Bx, OwnFrom w.heap.size (fun (_ : Unit) W => Bp x Bx W))
    (hassign : ∀ (l : Nat) (pre : List α) (x : α) (W : World) (K : Act → World → Prop), I pre W → (∀ Bx W', KeepsFrom w.heap.size W W' → Kp W W' → I pre W' → Bp x Bx W' → K { tmps := (qs x Bx).foldl (fun t pv => t.setIfInBounds pv.1 pv.2) a.tmps, defers := [] } W') →
      assign.wpIn (Fence.wide.inRound l) (m - 1 - 1) P (Exit.then K (fun _ _ _ => False)) { tmps := (ps.zip (encs x)).foldl (fun t (p, v) => t.setIfInBounds p v) a.tmps, defers := [] } W)
    (hbody : ∀ (l : Nat) (pre : List α) (x : α) (Bx : Nat) (W : World), I pre W → Bp x Bx W → pre.length < N → body.wpIn (Fence.wide.inRound l) (m - 1 - 1) P (ownPostG w.heap.size Kp I Ix (pre ++ [x]) W) { tmps := (qs x Bx).foldl (fun t pv => t.setIfInBounds pv.1 pv.2) a.tmps, defers := [] } W)
    (hdone : ∀ (D : Nat) (xs : List α) (W : World), w.heap.size ≤ D → S xs → I xs W → W.heap[D]? = some (.deferred (some [])) → Q .normal { a with defers := { target := .collected D, args := #[] } :: a.defers } W)
    (hstop : ∀ (D : Nat) (c : Code) (pre : List α) (W : World), w.heap.size ≤ D → Sp pre → Ix c pre W → W.heap[D]? = some (.deferred (some [])) → c.wpIn Fence.wide m P Q { a with defers := { target := .collected D, args := #[] } :: a.defers } W) :
    (Code.rangeFunc g ps assign body).wpIn Fence.wide m P Q a w :=
  wpIn_rangeFunc_ownH rfl h1 hg trivial eg hseq hKt hKb hb0 hps I Ix hI hIx h0
    (fun x a' W => ∃ Bx, Bp x Bx W ∧ a' = { tmps := (qs x Bx).foldl (fun t pv => t.setIfInBounds pv.1 pv.2) a.tmps, defers := [] })
    (fun x a' s A B row hs hg' hr => by obtain ⟨Bx, hb, e⟩ := hs; exact ⟨Bx, hBp x Bx () A B row hb hg' hr, e⟩)
    (fun l pre x W K hi hK => hassign l pre x W K hi (fun Bx W' h1 h2 h3 h4 => hK _ W' h1 h2 h3 ⟨Bx, h4, rfl⟩))
    (fun l pre x a' W _ _ hi hax hN => by obtain ⟨Bx, hb, rfl⟩ := hax; exact hbody l pre x Bx W hi hb hN) hdone hstop
end Go.Proofs.Ytiemfklonhlnnaa
