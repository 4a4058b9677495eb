/- load.both. -/
import Derived.Test.YtiemfklonhlnnaaMaq
import Derived.Laws.MakeOwn
set_option linter.unusedSimpArgs false
set_option linter.unusedVariables false
namespace Go.Proofs.Ytiemfklonhlnnaa.Load
open Go.RowKit Go.Shelf Go.Sort Go.Proofs.Ytiemfklonhlnnaa Go.Proofs.Ytiemfklonhlnnaa.Occ Go.Proofs.Ytiemfklonhlnnaa.Slo Go.Proofs.Ytiemfklonhlnnaa.Seek Go.Proofs.Ytiemfklonhlnnaa.Lay
attribute [local go_sem] sval cval mval Oper.semAt_some

theorem quiet_by {P : Program} {ops : Array Oper} {S : World → Prop} {Q : Act → Prop} {o : Oper} {rest : List Oper} {a : Act} (v : Value) (hw : Region.wanted o (yielded ops a.tmps) = true) (hq : ∀ W, S W → (execOp a.eval o).run P W = .ok (.value v) W)
    (h : wpQuiet P ops S Q rest (a.put o.dst v)) : wpQuiet P ops S Q (o :: rest) a := by
  unfold wpQuiet
  rw [if_pos hw]
  exact ⟨v, fun W hS => by unfold Oper.quietAt; rw [hq W hS]; exact ⟨rfl, rfl⟩, h⟩
/-- The boxes of the two runs and of the key; what has been put out. -/
structure BI (n : Nat) (w W : World) (sa sb out : List (Int × Int)) (aa : Option Addr) (ca : Nat) (ab : Option Addr) (cb : Nat) (v : Value) : Prop where
  ka : W.cell? ⟨n, 0, Option.none⟩ = some (.slice aa sa.length ca)
  kb : W.cell? ⟨n + 1, 0, Option.none⟩ = some (.slice ab sb.length cb)
  kf : W.cell? ⟨n + 2, 0, Option.none⟩ = some (.func (.func 18) #[] #[])
  fa : W.frozen? ⟨n, 0, Option.none⟩ = false
  fb : W.frozen? ⟨n + 1, 0, Option.none⟩ = false
  ra : Rd2N n W aa sa
  rb : Rd2N n W ab sb
  la : sa.length ≤ ca
  lb : sb.length ≤ cb
  na : aa = Option.none → ca = 0
  nb : ab = Option.none → cb = 0
  row : W.ownsRow (n + 3) 34 2 v out.length (pcells out)
  sz : n + 3 ≤ W.heap.size
  below : Below n w W
theorem BI.grow {n : Nat} {w W W' : World} {sa sb out out' : List (Int × Int)} {aa ab : Option Addr} {ca cb : Nat} {v v' : Value} (x : BI n w W sa sb out aa ca ab cb v) (hb : Below (n + 3) W W') (hr : W'.ownsRow (n + 3) 34 2 v' out'.length (pcells out')) : BI n w W' sa sb out' aa ca ab cb v' :=
  ⟨(hb.cell (p := ⟨n, 0, Option.none⟩) (by show n < _; omega)).trans x.ka, (hb.cell (p := ⟨n + 1, 0, Option.none⟩) (by show n + 1 < _; omega)).trans x.kb, (hb.cell (p := ⟨n + 2, 0, Option.none⟩) (by show n + 2 < _; omega)).trans x.kf,
   (hb.frozen (p := ⟨n, 0, Option.none⟩) (by show n < _; omega)).trans x.fa, (hb.frozen (p := ⟨n + 1, 0, Option.none⟩) (by show n + 1 < _; omega)).trans x.fb,
   x.ra.keep (hb.mono (by omega)), x.rb.keep (hb.mono (by omega)), x.la, x.lb, x.na, x.nb, hr, Nat.le_trans x.sz hb.size, x.below.trans (hb.mono (by omega))⟩
theorem BI.next {n : Nat} {w W W' : World} {sa sb out : List (Int × Int)} {aa ab : Option Addr} {ca cb : Nat} {v : Value} (x : BI n w W sa sb out aa ca ab cb v) (hb : Below W.heap.size W W') : BI n w W' sa sb out aa ca ab cb v :=
  x.grow (hb.mono x.sz) (owns_below x.row hb)
theorem St.bi {n : Nat} {w W : World} {sa sb out : List (Int × Int)} {aa ab : Option Addr} {ca cb : Nat} {v : Value} (x : BI n w W sa sb out aa ca ab cb v) : St (fun W => BI n w W sa sb out aa ca ab cb v) W := ⟨x, fun _ _ x hb => x.next hb⟩
theorem rd2n_set {n k : Nat} {W : World} {a : Option Addr} {P : List (Int × Int)} (h : Rd2N n W a P) (hk : n ≤ k) (u : Value) : Rd2N n (W.setCell ⟨k, 0, Option.none⟩ u) a P := by
  rcases h with h | ⟨b, o, e, hl, hc⟩
  · exact .inl h
  · refine .inr ⟨b, o, e, hl, fun i hi => ?_⟩
    rw [World.cell?_setCell_other _ _ _ _ (by intro q; injection q with q1; omega), World.cell?_setCell_other _ _ _ _ (by intro q; injection q with q1; omega)]
    exact hc i hi
theorem BI.setA {n : Nat} {w W : World} {sa sb out sa' : List (Int × Int)} {aa ab aa' : Option Addr} {ca cb ca' : Nat} {v : Value} (x : BI n w W sa sb out aa ca ab cb v) (hr : Rd2N n W aa' sa') (hl : sa'.length ≤ ca') (hn : aa' = Option.none → ca' = 0) : BI n w (W.setCell ⟨n, 0, Option.none⟩ (.slice aa' sa'.length ca')) sa' sb out aa' ca' ab cb v :=
  ⟨World.cell?_setCell_same _ _ _ x.ka, (World.cell?_setCell_other _ _ _ _ (by intro q; injection q with q1; omega)).trans x.kb, (World.cell?_setCell_other _ _ _ _ (by intro q; injection q with q1; omega)).trans x.kf,
   by rw [World.frozen?_setCell]; exact x.fa, by rw [World.frozen?_setCell]; exact x.fb, rd2n_set hr (Nat.le_refl _) _, rd2n_set x.rb (Nat.le_refl _) _, hl, x.lb, hn, x.nb,
   own_set x.row _ _ (by show n < n + 3; omega), by simpa using x.sz, x.below.setCell (p := ⟨n, 0, Option.none⟩) (Nat.le_refl _) _⟩
theorem BI.setB {n : Nat} {w W : World} {sa sb out sb' : List (Int × Int)} {aa ab ab' : Option Addr} {ca cb cb' : Nat} {v : Value} (x : BI n w W sa sb out aa ca ab cb v) (hr : Rd2N n W ab' sb') (hl : sb'.length ≤ cb') (hn : ab' = Option.none → cb' = 0) : BI n w (W.setCell ⟨n + 1, 0, Option.none⟩ (.slice ab' sb'.length cb')) sa sb' out aa ca ab' cb' v :=
  ⟨(World.cell?_setCell_other _ _ _ _ (by intro q; injection q with q1; omega)).trans x.ka, World.cell?_setCell_same _ _ _ x.kb, (World.cell?_setCell_other _ _ _ _ (by intro q; injection q with q1; omega)).trans x.kf,
   by rw [World.frozen?_setCell]; exact x.fa, by rw [World.frozen?_setCell]; exact x.fb, rd2n_set x.ra (by omega) _, rd2n_set hr (by omega) _, x.la, hl, x.na, hn,
   own_set x.row _ _ (by show n + 1 < n + 3; omega), by simpa using x.sz, x.below.setCell (p := ⟨n + 1, 0, Option.none⟩) (by show n ≤ n + 1; omega) _⟩
theorem BI.drew {n : Nat} {w W : World} {sa sb out : List (Int × Int)} {aa ab : Option Addr} {ca cb : Nat} {v : Value} (x : BI n w W sa sb out aa ca ab cb v) : BI n w W.drew sa sb out aa ca ab cb v := x.next (Below.refl _ _).drew
def lenC : Option Value → Nat
  | some (.slice _ k _) => k
  | _ => 0
def BothJ (n : Nat) (w : World) (R : List (Int × Int)) (p0 p1 : Value) (a' : Act) (W : World) : Prop :=
  ∃ (sa sb out : List (Int × Int)) (aa : Option Addr) (ca : Nat) (ab : Option Addr) (cb : Nat) (v : Value) (u8 u9 u10 u11 u12 u13 u14 u15 u16 u17 u18 u19 u20 u21 u22 u23 u24 u25 u26 u27 u28 u29 u30 u31 u32 u33 u34 u35 u36 u37 u38 u39 u40 u41 u42 u43 u44 u45 u46 u47 u48 u49 u50 u51 u52 u53 u54 u55 u56 u57 u58 u59 u60 u61 : Value), a' = { tmps := #[p0, p1, .func (.func 18) #[] #[], .pointer (some ⟨n, 0, Option.none⟩), .pointer (some ⟨n + 1, 0, Option.none⟩), .pointer (some ⟨n + 2, 0, Option.none⟩), v, .func (.func 26) #[] #[.pointer (some ⟨n + 2, 0, Option.none⟩), .pointer (some ⟨n, 0, Option.none⟩), .pointer (some ⟨n + 1, 0, Option.none⟩)], u8, u9, u10, u11, u12, u13, u14, u15, u16, u17, u18, u19, u20, u21, u22, u23, u24, u25, u26, u27, u28, u29, u30, u31, u32, u33, u34, u35, u36, u37, u38, u39, u40, u41, u42, u43, u44, u45, u46, u47, u48, u49, u50, u51, u52, u53, u54, u55, u56, u57, u58, u59, u60, u61], defers := [] } ∧ BI n w W sa sb out aa ca ab cb v ∧ out ++ bothL sa sb = R ∧ sa.length + sb.length + out.length ≤ 200
def BothM (n : Nat) (_ : Act) (W : World) : Nat := lenC (W.cell? ⟨n, 0, Option.none⟩) + lenC (W.cell? ⟨n + 1, 0, Option.none⟩)
theorem both_start (aA aB : Option Addr) (cA cB : Nat) (A B : List (Int × Int)) (w : World) (hA : Rd2 w aA A) (hB : Rd2 w aB B) (lA : A.length ≤ cA) (lB : B.length ≤ cB) (nA : aA = Option.none → cA = 0) (nB : aB = Option.none → cB = 0) (sA : A.length ≤ 100) (sB : B.length ≤ 100) :
    BI w.heap.size w ((((w.alloc (.cells #[.slice aA A.length cA] 38)).alloc (.cells #[.slice aB B.length cB] 38)).alloc (.cells #[.func (.func 18) #[] #[]] 52)).alloc (.cells (madeCells #[.int .i64 0, .int .i64 0] ((A.length + B.length) * 2)) 34)) A B [] aA cA aB cB (.slice (some ⟨w.heap.size + 1 + 1 + 1, 0, Option.none⟩) 0 (A.length + B.length)) := by
  have bl : ∀ (W : World) (o : Obj), Below W.heap.size W (W.alloc o) := fun W o => (Below.refl _ W).alloc (Nat.le_refl _) _
  generalize h1 : w.alloc (.cells #[.slice aA A.length cA] 38) = W1
  generalize h2 : W1.alloc (.cells #[.slice aB B.length cB] 38) = W2
  generalize h3 : W2.alloc (.cells #[.func (.func 18) #[] #[]] 52) = W3
  generalize h4 : W3.alloc (.cells (madeCells #[.int .i64 0, .int .i64 0] ((A.length + B.length) * 2)) 34) = W4
  have z1 : W1.heap.size = w.heap.size + 1 := by rw [← h1]; simp
  have z2 : W2.heap.size = w.heap.size + 1 + 1 := by rw [← h2, ← z1]; simp
  have z3 : W3.heap.size = w.heap.size + 1 + 1 + 1 := by rw [← h3, ← z2]; simp
  have b1 : Below w.heap.size w W1 := by rw [← h1]; exact bl _ _
  have b2 : Below W1.heap.size W1 W2 := by rw [← h2]; exact bl _ _
  have b3 : Below W2.heap.size W2 W3 := by rw [← h3]; exact bl _ _
  have b4 : Below W3.heap.size W3 W4 := by rw [← h4]; exact bl _ _
  have xa : BV W4 w.heap.size [.slice aA A.length cA] := (((by rw [← h1]; exact BV.new w _ _ : BV W1 w.heap.size [.slice aA A.length cA]).next b2).next b3).next b4
  have xb : BV W4 (w.heap.size + 1) [.slice aB B.length cB] := ((by rw [← z1, ← h2]; exact BV.new W1 _ _ : BV W2 (w.heap.size + 1) [.slice aB B.length cB]).next b3).next b4
  have xf : BV W4 (w.heap.size + 2) [.func (.func 18) #[] #[]] := (by rw [show w.heap.size + 2 = W2.heap.size by omega, ← h3]; exact BV.new W2 _ _ : BV W3 (w.heap.size + 2) [.func (.func 18) #[] #[]]).next b4
  have bb : Below w.heap.size w W4 := b1.trans ((b2.trans ((b3.trans (b4.mono (by omega))).mono (by omega))).mono (by omega))
  refine ⟨xa.c 0 _ rfl, xb.c 0 _ rfl, xf.c 0 _ rfl, xa.f 0, xb.f 0, (Rd2N.of hA (Nat.le_refl _)).keep bb, (Rd2N.of hB (Nat.le_refl _)).keep bb, lA, lB, nA, nB, ?_, by have := b4.size; omega, bb⟩
  have hz : (madeCells #[Value.int .i64 0, Value.int .i64 0] ((A.length + B.length) * 2)).size = (A.length + B.length) * 2 := by rw [size_madeCells]
  refine ⟨by simp [pcells], .inr ⟨w.heap.size + 1 + 1 + 1, A.length + B.length, madeCells #[.int .i64 0, .int .i64 0] ((A.length + B.length) * 2), rfl, by omega, ?_, Nat.zero_le _, by unfold maxLen; omega, hz, by simp [pcells]⟩⟩
  rw [← h4, ← z3]
  show (W3.heap.push _)[W3.heap.size]? = some _
  simp
theorem slot_cell {n : Nat} {W W' : World} {k : Nat} {v : Value} (h : W.cell? ⟨k, 0, Option.none⟩ = some v) (hb : Below n W W') (hk : k < n) : W'.cell? ⟨k, 0, Option.none⟩ = some v := (hb.cell (p := ⟨k, 0, Option.none⟩) hk).trans h
set_option maxRecDepth 100000 in
set_option maxHeartbeats 16000000 in
theorem both_any (aA aB : Option Addr) (cA cB : Nat) (A B : List (Int × Int)) (w : World) (hA : Rd2 w aA A) (hB : Rd2 w aB B) (lA : A.length ≤ cA) (lB : B.length ≤ cB) (nA : aA = Option.none → cA = 0) (nB : aB = Option.none → cB = 0) (sA : A.length ≤ 100) (sB : B.length ≤ 100) :
    Calls Try.prog 17 #[.slice aA A.length cA, .slice aB B.length cB, .func (.func 18) #[] #[]] w fun e w' => ∃ v, e = .returned v ∧ w'.ownsRow w.heap.size 34 2 v (bothL A B).length (pcells (bothL A B)) ∧ Below w.heap.size w w' := by
  obtain ⟨i0, hi, hz0, hz1, hz2⟩ : ∃ i0, Try.prog.info? 34 = some i0 ∧ i0.zero = some (.agg #[.int .i64 0, .int .i64 0]) ∧ i0.size = 2 ∧ i0.bytes = 16 := by
    have h := infoPr
    cases hh : Try.prog.info? 34 with
    | none => rw [hh] at h; simp at h
    | some i0 => rw [hh] at h; simp at h; exact ⟨i0, rfl, h⟩
  have hm : ∀ W : World, (Instr.makeSlice 38 (.int .i64 0) (.int .i64 ((A.length : Int) + (B.length : Int)))).run Try.prog W = .ok (.slice (some ⟨W.heap.size, 0, Option.none⟩) 0 (A.length + B.length)) (W.alloc (.cells (madeCells (Value.agg #[.int .i64 0, .int .i64 0]).cells ((A.length + B.length) * 2)) 34)) := fun W => by
    have h := run_makeSlice (P := Try.prog) W 38 34 i0 (.agg #[.int .i64 0, .int .i64 0]) Try.underlying38 hi hz0 .i64 .i64 0 ((A.length : Int) + (B.length : Int)) (by decide) (by omega) (by rw [hz1]; omega) (by rw [hz2]; omega) (by omega)
    rw [hz1, show ((A.length : Int) + (B.length : Int)).toNat = A.length + B.length by omega] at h
    exact h
  have wr : IntKind.i64.wrap ((A.length : Int) + (B.length : Int)) = (A.length : Int) + (B.length : Int) := by rw [IntKind.wrap_i64]; omega
  generalize hR : bothL A B = R
  go_enter Try.func17, Try.ntmps17
  go_wp2
  refine wp_scope_two 1 0 (BothJ w.heap.size w R (.slice aA A.length cA) (.slice aB B.length cB)) (BothM w.heap.size) rfl rfl ?pass ?first
  case first =>
    intro hp
    go_wp2
    refine wp_label ?_
    rename_i hk
    refine hk _ _ (hp _ _ ?_)
    refine ⟨A, B, [], aA, cA, aB, cB, .slice (some ⟨w.heap.size + 1 + 1 + 1, 0, Option.none⟩) 0 (A.length + B.length), _, _, _, _, _, _, _, _, _, _, _, _, _, _, _, _, _, _, _, _, _, _, _, _, _, _, _, _, _, _, _, _, _, _, _, _, _, _, _, _, _, _, _, _, _, _, _, _, _, _, _, _, _, _, rfl, both_start aA aB cA cB A B w hA hB lA lB nA nB sA sB, by simpa using hR, by simp; omega⟩
  case pass =>
    clear hm wr hR hA hB lA lB nA nB sA sB
    intro a' W hJ
    obtain ⟨sa, sb, out, aa, ca, ab, cb, v, u8, u9, u10, u11, u12, u13, u14, u15, u16, u17, u18, u19, u20, u21, u22, u23, u24, u25, u26, u27, u28, u29, u30, u31, u32, u33, u34, u35, u36, u37, u38, u39, u40, u41, u42, u43, u44, u45, u46, u47, u48, u49, u50, u51, u52, u53, u54, u55, u56, u57, u58, u59, u60, u61, rfl, hX, hE, hL⟩ := hJ
    have HX := Lib.hid hX
    have HE := Lib.hid hE
    clear hX hE
    by_cases ha : sa = []
    · have t0 : (((sa.length : Nat) : Int) == 0) = true := by rw [ha]; rfl
      have HS := Lib.hid ha
      clear ha
      have ka := HX.out.ka
      have kb := HX.out.kb
      go_wp2
      go_step3
      refine .inr ⟨rfl, ?_⟩
      go_wp2
      refine Mix2.wp_region_plan (fun W' => Below (w.heap.size + 3) W W') [5] [.dep [true, true, false, true], .run [false, false, true, false, true]] #[true, true, true, true, true, false] 1 mixed' (by kernel_rfl) (by kernel_rfl) (by kernel_rfl) (fun _ _ _ _ _ h => h) (Below.refl _ _).drew ?_
      simp only [Mix2.wpPlan, Mix2.maskL]
      refine quiet_by (v) rfl (fun W' hS => by simp [execOp, go_sem]) ?_
      refine quiet_by (.slice aa sa.length ca) rfl (fun W' hS => by have c0 := slot_cell ka hS (by omega); simp [execOp, go_sem, c0]) ?_
      refine quiet_by (.slice ab sb.length cb) rfl (fun W' hS => by have c0 := slot_cell kb hS (by omega); simp [execOp, go_sem, c0]) ?_
      refine wpQuiet_nil ?_
      unfold Mix2.wpListS
      go_wp2_with (at_builtin; refine wpList_append_pairs (L := out) HX.out.drew.row HX.out.sz rfl _ _ 38 rfl i0 Try.underlying38 hi hz0 hz1 hz2 aa ca sa rfl rfl (HX.out.drew.ra.rd (by have := HX.out.sz; show w.heap.size ≤ W.heap.size; omega)) HX.out.na (by unfold maxLen; omega) (by omega) ?_)
      intro v1 W1 hv1 hb1
      have HV1 := Lib.hid hv1
      clear hv1
      have hS1 : Below (w.heap.size + 3) W W1 := (Below.refl _ _).drew.trans hb1
      go_wp2_with fail
      refine ⟨hS1, ?_⟩
      unfold Mix2.wpListS
      go_wp2_with (at_builtin; refine wpList_append_pairs (L := out ++ sa) HV1.out (by have := HX.out.sz; have := hS1.size; omega) rfl _ _ 38 rfl i0 Try.underlying38 hi hz0 hz1 hz2 ab cb sb rfl rfl ((HX.out.rb.keep (hS1.mono (by omega))).rd (by have := HX.out.sz; have := hS1.size; omega)) HX.out.nb (by unfold maxLen; omega) (by omega) ?_)
      intro v2 W2 hv2 hb2
      have he : out ++ (sa ++ sb) = R := by have := HE.out; rw [HS.out, bothL_nil1] at this; rw [HS.out]; simpa using this
      have hlen : R.length = out.length + sa.length + sb.length := by rw [← he]; simp; omega
      skip
      have HV2 : Hid (W2.ownsRow (w.heap.size + 3) 34 2 v2 R.length (pcells R)) := Lib.hid (by rw [hlen, ← he]; simpa [List.append_assoc] using hv2)
      clear hv2 hlen he
      have hS2 : Below (w.heap.size + 3) W W2 := hS1.trans hb2
      go_wp2_with fail
      refine ⟨hS2, ?_⟩
      unfold Mix2.wpListS
      refine Mix2.wpAny_tail [false, false, false, false, false, true] (Array.replicate 6 true) (by kernel_rfl) (by kernel_rfl) ?_
      simp only [Mix2.maskL]
      have HV3 := Lib.hid (HV2.out.mono (show w.heap.size ≤ w.heap.size + 3 by omega))
      have hBB := HX.out.below.trans (hS2.mono (by omega))
      go_wp2
      simp only [Exit.jump]
      go_ret
      exact ⟨v2, rfl, HV3.out, hBB⟩
    have t0 : (((sa.length : Nat) : Int) == 0) = false := by have := List.length_pos_iff.2 ha; first | (simp; done) | (simp; omega)
    by_cases hb : sb = []
    · have t1 : (((sb.length : Nat) : Int) == 0) = true := by rw [hb]; rfl
      have HS := Lib.hid hb
      clear ha hb
      have ka := HX.out.ka
      have kb := HX.out.kb
      go_wp2
      go_step3
      refine .inr ⟨rfl, ?_⟩
      go_wp2
      refine Mix2.wp_region_plan (fun W' => Below (w.heap.size + 3) W W') [5] [.dep [true, true, false, true], .run [false, false, true, false, true]] #[true, true, true, true, true, false] 1 mixed' (by kernel_rfl) (by kernel_rfl) (by kernel_rfl) (fun _ _ _ _ _ h => h) (Below.refl _ _).drew ?_
      simp only [Mix2.wpPlan, Mix2.maskL]
      refine quiet_by (v) rfl (fun W' hS => by simp [execOp, go_sem]) ?_
      refine quiet_by (.slice aa sa.length ca) rfl (fun W' hS => by have c0 := slot_cell ka hS (by omega); simp [execOp, go_sem, c0]) ?_
      refine quiet_by (.slice ab sb.length cb) rfl (fun W' hS => by have c0 := slot_cell kb hS (by omega); simp [execOp, go_sem, c0]) ?_
      refine wpQuiet_nil ?_
      unfold Mix2.wpListS
      go_wp2_with (at_builtin; refine wpList_append_pairs (L := out) HX.out.drew.row HX.out.sz rfl _ _ 38 rfl i0 Try.underlying38 hi hz0 hz1 hz2 aa ca sa rfl rfl (HX.out.drew.ra.rd (by have := HX.out.sz; show w.heap.size ≤ W.heap.size; omega)) HX.out.na (by unfold maxLen; omega) (by omega) ?_)
      intro v1 W1 hv1 hb1
      have HV1 := Lib.hid hv1
      clear hv1
      have hS1 : Below (w.heap.size + 3) W W1 := (Below.refl _ _).drew.trans hb1
      go_wp2_with fail
      refine ⟨hS1, ?_⟩
      unfold Mix2.wpListS
      go_wp2_with (at_builtin; refine wpList_append_pairs (L := out ++ sa) HV1.out (by have := HX.out.sz; have := hS1.size; omega) rfl _ _ 38 rfl i0 Try.underlying38 hi hz0 hz1 hz2 ab cb sb rfl rfl ((HX.out.rb.keep (hS1.mono (by omega))).rd (by have := HX.out.sz; have := hS1.size; omega)) HX.out.nb (by unfold maxLen; omega) (by omega) ?_)
      intro v2 W2 hv2 hb2
      have he : out ++ (sa ++ sb) = R := by have := HE.out; rw [HS.out, bothL_nil2] at this; rw [HS.out]; simpa using this
      have hlen : R.length = out.length + sa.length + sb.length := by rw [← he]; simp; omega
      skip
      have HV2 : Hid (W2.ownsRow (w.heap.size + 3) 34 2 v2 R.length (pcells R)) := Lib.hid (by rw [hlen, ← he]; simpa [List.append_assoc] using hv2)
      clear hv2 hlen he
      have hS2 : Below (w.heap.size + 3) W W2 := hS1.trans hb2
      go_wp2_with fail
      refine ⟨hS2, ?_⟩
      unfold Mix2.wpListS
      refine Mix2.wpAny_tail [false, false, false, false, false, true] (Array.replicate 6 true) (by kernel_rfl) (by kernel_rfl) ?_
      simp only [Mix2.maskL]
      have HV3 := Lib.hid (HV2.out.mono (show w.heap.size ≤ w.heap.size + 3 by omega))
      have hBB := HX.out.below.trans (hS2.mono (by omega))
      go_wp2
      simp only [Exit.jump]
      go_ret
      exact ⟨v2, rfl, HV3.out, hBB⟩
    obtain ⟨⟨x1, x2⟩, sa, rfl⟩ : ∃ x sa', sa = x :: sa' := by cases sa with | nil => exact absurd rfl ha | cons x sa => exact ⟨_, _, rfl⟩
    obtain ⟨⟨y1, y2⟩, sb, rfl⟩ : ∃ y sb', sb = y :: sb' := by cases sb with | nil => exact absurd rfl hb | cons y sb => exact ⟨_, _, rfl⟩
    clear ha hb t0
    have t0 : ((sa.length : Int) + 1 == 0) = false := by first | (simp; done) | (simp; omega)
    have t1 : ((sb.length : Int) + 1 == 0) = false := by first | (simp; done) | (simp; omega)
    simp only [List.length_cons] at hL
    obtain ⟨g1, o1, rfl, l1, a1, a2, -⟩ := HX.out.ra.head
    obtain ⟨g2, o2, rfl, l2, b1, b2, -⟩ := HX.out.rb.head
    have hsz := HX.out.sz
    have HFI : Hid (FI W w.heap.size g1 o1 sa.length ca g2 o2 sb.length cb x1 x2 y1 y2) := Lib.hid ⟨HX.out.kf, HX.out.ka, HX.out.kb, a1, a2, b1, b2, by omega, by omega, by omega⟩
    clear a1 a2 b1 b2
    have HK := Lib.hid (fun x y w1 => key_any x y w1)
    have HF := Lib.hid (fun w1 X => first_any w.heap.size g1 o1 sa.length ca g2 o2 sb.length cb x1 x2 y1 y2 w1 X)
    have E0 := Lib.hid ((((St.below' HX.out.below)).and (St.fi HFI.out)).and (St.bi HX.out))
    have ka := HX.out.ka
    have kb := HX.out.kb
    simp only [List.length_cons] at ka kb
    clear HFI
    go_wp2_with fail
    clear ka kb
    refine (HF.out _ E0.out.now.2.1).mono ?_
    rintro e w1 ⟨rfl, hb⟩
    have E1 := Lib.hid (E0.out.next hb)
    clear hb
    clear HF t0 t1
    by_cases hlt : x1 < y1
    · have HX1 := Lib.hid E1.out.now.1
      clear E0 E1 HK
      go_wp2
      by_cases hcap : ca = 1
      · obtain ⟨g, o, e, lg, c1, c2, rT⟩ := HX1.out.ra.head
        cases e
        have kk := HX1.out.ka
        simp only [List.length_cons] at kk
        have hcl : sa.length + 1 ≤ ca := by have := HX1.out.la; simpa using this
        obtain rfl : sa = [] := List.eq_nil_of_length_eq_zero (by omega)
        subst hcap
        simp only [List.length_nil] at kk
        refine Mix2.wp_region_plan (fun W' => Below (w.heap.size + 3) w1 W') [9] [.dep [true, true, true, true, false, false, true, true], .run [false, false, false, false, true, true, false, false, true]] #[true, true, true, true, true, true, true, true, true, false] 1 mixed' (by kernel_rfl) (by kernel_rfl) (by kernel_rfl) (fun _ _ _ _ _ h => h) (Below.refl _ _).drew ?_
        simp only [Mix2.wpPlan, Mix2.maskL]
        refine quiet_by (v) rfl (fun W' hS => by simp [execOp, go_sem]) ?_
        refine quiet_by (.slice (some ⟨g1, o1, Option.none⟩) (0 + 1) 1) rfl (fun W' hS => by have c0 := (hS.cell (p := ⟨w.heap.size, 0, Option.none⟩) (by show w.heap.size < _; omega)).trans kk; simp [execOp, go_sem, c0]) ?_
        refine quiet_by (.pointer (some ⟨g1, o1, Option.none⟩)) rfl (fun W' hS => by simp [execOp, go_sem]) ?_
        refine quiet_by (.agg #[.int .i64 x1, .int .i64 x2]) rfl (fun W' hS => by have c0 := (hS.cell (p := ⟨g1, o1, Option.none⟩) (by show g1 < _; omega)).trans c1; have c1 := (hS.cell (p := ⟨g1, o1 + 1, Option.none⟩) (by show g1 < _; omega)).trans c2; simp [execOp, go_sem, c0, c1]) ?_
        refine quiet_by (.slice (some ⟨g1, o1, Option.none⟩) (0 + 1) 1) rfl (fun W' hS => by have c0 := (hS.cell (p := ⟨w.heap.size, 0, Option.none⟩) (by show w.heap.size < _; omega)).trans kk; simp [execOp, go_sem, c0]) ?_
        refine quiet_by (.slice (some ⟨g1, o1, Option.none⟩) 0 0) rfl (fun W' hS => by simp [execOp, go_sem]) ?_
        refine wpQuiet_nil ?_
        unfold Mix2.wpListS
        go_wp2_with fail
        refine ⟨(Below.refl _ _).drew.alloc HX1.out.sz _, ?_⟩
        unfold Mix2.wpListS
        go_wp2_with (at_builtin; refine wpList_append_pair (L := out) HX1.out.drew.row HX1.out.sz rfl _ _ 38 rfl i0 Try.underlying38 hi hz0 hz1 hz2 x1 x2 1 rfl rfl (by unfold maxLen; omega) (by omega) ?_)
        intro v1 W1 hv1 hb1
        have hS1 : Below (w.heap.size + 3) w1 W1 := (Below.refl _ _).drew.trans hb1
        have HY := Lib.hid (HX1.out.grow (out' := out ++ [(x1, x2)]) hS1 (by simpa using hv1))
        clear hv1
        go_wp2_with fail
        refine ⟨hS1, ?_⟩
        unfold Mix2.wpListS
        go_wp2_with fail
        refine ⟨hS1, ?_⟩
        unfold Mix2.wpListS
        refine Mix2.wpAny_tail [false, false, false, false, false, false, false, false, false, true] (Array.replicate 10 true) (by kernel_rfl) (by kernel_rfl) ?_
        simp only [Mix2.maskL]
        have kA := HY.out.ka
        have fA := HY.out.fa
        simp only [List.length_cons] at kA
        have HZ := Lib.hid (HY.out.setA (sa' := []) (aa' := some ⟨g1, o1, Option.none⟩) (ca' := 0) (.inl rfl) (Nat.zero_le _) (fun h => by cases h))
        go_wp2
        go_step3
        refine .inl ⟨rfl, ⟨[], (y1, y2) :: sb, out ++ [(x1, x2)], some ⟨g1, o1, Option.none⟩, 0, _, _, v1, _, _, _, _, _, _, _, _, _, _, _, _, _, _, _, _, _, _, _, _, _, _, _, _, _, _, _, _, _, _, _, _, _, _, _, _, _, _, _, _, _, _, _, _, _, _, _, _, _, _, _, _, _, _, rfl, HZ.out, ?_, ?_⟩, ?_⟩
        · have := HE.out; rw [bothL_cons, if_pos hlt] at this; simpa using this
        · simp; omega
        · unfold BothM; rw [HX.out.ka, HX.out.kb]; have z1 := HZ.out.ka; have z2 := HZ.out.kb; (try simp only [List.length_nil] at z1 z2); rw [z1, z2]; simp [lenC] <;> omega
      · obtain ⟨g, o, e, lg, c1, c2, rT⟩ := HX1.out.ra.head
        cases e
        have kk := HX1.out.ka
        simp only [List.length_cons] at kk
        have hcl : sa.length + 1 ≤ ca := by have := HX1.out.la; simpa using this
        have hc0 : ¬ ca = 0 := by omega
        have hnl : ¬ ((sa.length : Int) + 1 < 1) := by omega
        refine Mix2.wp_region_plan (fun W' => Below (w.heap.size + 3) w1 W') [9] [.dep [true, true, true, true, false, false, true, true], .run [false, false, false, false, true, true, false, false, true]] #[true, true, true, true, true, true, true, true, true, false] 1 mixed' (by kernel_rfl) (by kernel_rfl) (by kernel_rfl) (fun _ _ _ _ _ h => h) (Below.refl _ _).drew ?_
        simp only [Mix2.wpPlan, Mix2.maskL]
        refine quiet_by (v) rfl (fun W' hS => by simp [execOp, go_sem]) ?_
        refine quiet_by (.slice (some ⟨g1, o1, Option.none⟩) (sa.length + 1) ca) rfl (fun W' hS => by have c0 := (hS.cell (p := ⟨w.heap.size, 0, Option.none⟩) (by show w.heap.size < _; omega)).trans kk; simp [execOp, go_sem, c0]) ?_
        refine quiet_by (.pointer (some ⟨g1, o1, Option.none⟩)) rfl (fun W' hS => by simp [execOp, go_sem]) ?_
        refine quiet_by (.agg #[.int .i64 x1, .int .i64 x2]) rfl (fun W' hS => by have c0 := (hS.cell (p := ⟨g1, o1, Option.none⟩) (by show g1 < _; omega)).trans c1; have c1 := (hS.cell (p := ⟨g1, o1 + 1, Option.none⟩) (by show g1 < _; omega)).trans c2; simp [execOp, go_sem, c0, c1]) ?_
        refine quiet_by (.slice (some ⟨g1, o1, Option.none⟩) (sa.length + 1) ca) rfl (fun W' hS => by have c0 := (hS.cell (p := ⟨w.heap.size, 0, Option.none⟩) (by show w.heap.size < _; omega)).trans kk; simp [execOp, go_sem, c0]) ?_
        refine quiet_by (.slice (some ⟨g1, o1 + 2, Option.none⟩) sa.length (ca - 1)) rfl (fun W' hS => by simp [execOp, go_sem, hcap, hcl, hnl]) ?_
        refine wpQuiet_nil ?_
        unfold Mix2.wpListS
        go_wp2_with fail
        refine ⟨(Below.refl _ _).drew.alloc HX1.out.sz _, ?_⟩
        unfold Mix2.wpListS
        go_wp2_with (at_builtin; refine wpList_append_pair (L := out) HX1.out.drew.row HX1.out.sz rfl _ _ 38 rfl i0 Try.underlying38 hi hz0 hz1 hz2 x1 x2 1 rfl rfl (by unfold maxLen; omega) (by omega) ?_)
        intro v1 W1 hv1 hb1
        have hS1 : Below (w.heap.size + 3) w1 W1 := (Below.refl _ _).drew.trans hb1
        have HY := Lib.hid (HX1.out.grow (out' := out ++ [(x1, x2)]) hS1 (by simpa using hv1))
        clear hv1
        go_wp2_with fail
        refine ⟨hS1, ?_⟩
        unfold Mix2.wpListS
        go_wp2_with fail
        refine ⟨hS1, ?_⟩
        unfold Mix2.wpListS
        refine Mix2.wpAny_tail [false, false, false, false, false, false, false, false, false, true] (Array.replicate 10 true) (by kernel_rfl) (by kernel_rfl) ?_
        simp only [Mix2.maskL]
        have kA := HY.out.ka
        have fA := HY.out.fa
        simp only [List.length_cons] at kA
        have HZ := Lib.hid (HY.out.setA (sa' := sa) (aa' := some ⟨g1, o1 + 2, Option.none⟩) (ca' := (ca - 1)) (rT.keep (hS1.mono (by omega))) (by omega) (fun h => by cases h))
        go_wp2
        go_step3
        refine .inl ⟨rfl, ⟨sa, (y1, y2) :: sb, out ++ [(x1, x2)], some ⟨g1, o1 + 2, Option.none⟩, (ca - 1), _, _, v1, _, _, _, _, _, _, _, _, _, _, _, _, _, _, _, _, _, _, _, _, _, _, _, _, _, _, _, _, _, _, _, _, _, _, _, _, _, _, _, _, _, _, _, _, _, _, _, _, _, _, _, _, _, _, rfl, HZ.out, ?_, ?_⟩, ?_⟩
        · have := HE.out; rw [bothL_cons, if_pos hlt] at this; simpa using this
        · simp; omega
        · unfold BothM; rw [HX.out.ka, HX.out.kb]; have z1 := HZ.out.ka; have z2 := HZ.out.kb; (try simp only [List.length_nil] at z1 z2); rw [z1, z2]; simp [lenC] <;> omega
    · go_wp2
      refine region_qb' w1 w1.heap.size (Below.refl _ _) mixed' (by kernel_rfl) fun w2 hB hz => ?_
      have E2 := Lib.hid (E1.out.next hB)
      clear hB hz
      have EC := Lib.hid (fun d os => E2.out.next (below_regrown w2 d os))
      have XX := E2.out.now.2.1
      obtain ⟨kf, ka, kb, a1, a2, b1, b2, -, -, -⟩ := XX
      have qkf := cell_regrown kf
      have qka := cell_regrown ka
      have qkb := cell_regrown kb
      have qa1 := cell_regrown a1
      have qa2 := cell_regrown a2
      have qb1 := cell_regrown b1
      have qb2 := cell_regrown b2
      clear kf ka kb a1 a2 b1 b2
      repeat (go_big_quiet_step (fail))
      go_big_quiet_step (exact Calls.regrown_of (HK.out x1 x2 _))
      repeat (go_big_quiet_step (fail))
      go_big_quiet_step (exact Calls.regrown_of (HK.out y1 y2 _))
      repeat (go_big_quiet_step (fail))
      refine wpQuiet_nil ?_
      rintro _ ⟨⟨dq, osq⟩, rfl⟩
      have E3 := Lib.hid (EC.out dq osq)
      generalize grow (redrawn w2 dq) osq = w3 at *
      clear EC qkf qka qkb qa1 qa2 qb1 qb2
      clear HK
      have HX1 := Lib.hid E3.out.now.1
      by_cases heq : x1 = y1
      · have t1 : (x1 == y1) = true := by simpa using heq
        have fA := HX1.out.fa
        have kA := HX1.out.ka
        simp only [List.length_cons] at kA
        have hca : sa.length + 1 ≤ ca := by have := HX1.out.la; simpa using this
        obtain ⟨g, o, e, -, -, -, rA⟩ := HX1.out.ra.head
        cases e
        by_cases hcap2 : ca = 1
        · obtain rfl : sa = [] := List.eq_nil_of_length_eq_zero (by omega)
          subst hcap2
          simp only [List.length_nil] at kA
          have HZ0 := Lib.hid (HX1.out.setA (sa' := []) (aa' := some ⟨g1, o1, Option.none⟩) (ca' := 0) (.inl rfl) (Nat.zero_le _) (fun h => by cases h))
          go_wp2
          simp only [List.length_nil] at HZ0
          generalize World.setCell _ _ _ = Wz at *
          clear E0 E1 E2 E3
          by_cases hcap : cb = 1
          · obtain ⟨g, o, e, lg, c1, c2, rT⟩ := HZ0.out.rb.head
            cases e
            have kk := HZ0.out.kb
            simp only [List.length_cons] at kk
            have hcl : sb.length + 1 ≤ cb := by have := HZ0.out.lb; simpa using this
            obtain rfl : sb = [] := List.eq_nil_of_length_eq_zero (by omega)
            subst hcap
            simp only [List.length_nil] at kk
            refine Mix2.wp_region_plan (fun W' => Below (w.heap.size + 3) Wz W') [9] [.dep [true, true, true, true, false, false, true, true], .run [false, false, false, false, true, true, false, false, true]] #[true, true, true, true, true, true, true, true, true, false] 1 mixed' (by kernel_rfl) (by kernel_rfl) (by kernel_rfl) (fun _ _ _ _ _ h => h) (Below.refl _ _).drew ?_
            simp only [Mix2.wpPlan, Mix2.maskL]
            refine quiet_by (v) rfl (fun W' hS => by simp [execOp, go_sem]) ?_
            refine quiet_by (.slice (some ⟨g2, o2, Option.none⟩) (0 + 1) 1) rfl (fun W' hS => by have c0 := (hS.cell (p := ⟨w.heap.size + 1, 0, Option.none⟩) (by show w.heap.size + 1 < _; omega)).trans kk; simp [execOp, go_sem, c0]) ?_
            refine quiet_by (.pointer (some ⟨g2, o2, Option.none⟩)) rfl (fun W' hS => by simp [execOp, go_sem]) ?_
            refine quiet_by (.agg #[.int .i64 y1, .int .i64 y2]) rfl (fun W' hS => by have c0 := (hS.cell (p := ⟨g2, o2, Option.none⟩) (by show g2 < _; omega)).trans c1; have c1 := (hS.cell (p := ⟨g2, o2 + 1, Option.none⟩) (by show g2 < _; omega)).trans c2; simp [execOp, go_sem, c0, c1]) ?_
            refine quiet_by (.slice (some ⟨g2, o2, Option.none⟩) (0 + 1) 1) rfl (fun W' hS => by have c0 := (hS.cell (p := ⟨w.heap.size + 1, 0, Option.none⟩) (by show w.heap.size + 1 < _; omega)).trans kk; simp [execOp, go_sem, c0]) ?_
            refine quiet_by (.slice (some ⟨g2, o2, Option.none⟩) 0 0) rfl (fun W' hS => by simp [execOp, go_sem]) ?_
            refine wpQuiet_nil ?_
            unfold Mix2.wpListS
            go_wp2_with fail
            refine ⟨(Below.refl _ _).drew.alloc HZ0.out.sz _, ?_⟩
            unfold Mix2.wpListS
            go_wp2_with (at_builtin; refine wpList_append_pair (L := out) HZ0.out.drew.row HZ0.out.sz rfl _ _ 38 rfl i0 Try.underlying38 hi hz0 hz1 hz2 y1 y2 1 rfl rfl (by unfold maxLen; omega) (by omega) ?_)
            intro v1 W1 hv1 hb1
            have hS1 : Below (w.heap.size + 3) Wz W1 := (Below.refl _ _).drew.trans hb1
            have HY := Lib.hid (HZ0.out.grow (out' := out ++ [(y1, y2)]) hS1 (by simpa using hv1))
            clear hv1
            go_wp2_with fail
            refine ⟨hS1, ?_⟩
            unfold Mix2.wpListS
            go_wp2_with fail
            refine ⟨hS1, ?_⟩
            unfold Mix2.wpListS
            refine Mix2.wpAny_tail [false, false, false, false, false, false, false, false, false, true] (Array.replicate 10 true) (by kernel_rfl) (by kernel_rfl) ?_
            simp only [Mix2.maskL]
            have kA := HY.out.kb
            have fA := HY.out.fb
            simp only [List.length_cons] at kA
            have HZ := Lib.hid (HY.out.setB (sb' := []) (ab' := some ⟨g2, o2, Option.none⟩) (cb' := 0) (.inl rfl) (Nat.zero_le _) (fun h => by cases h))
            go_wp2
            go_step3
            refine .inl ⟨rfl, ⟨[], [], out ++ [(y1, y2)], _, _, some ⟨g2, o2, Option.none⟩, 0, v1, _, _, _, _, _, _, _, _, _, _, _, _, _, _, _, _, _, _, _, _, _, _, _, _, _, _, _, _, _, _, _, _, _, _, _, _, _, _, _, _, _, _, _, _, _, _, _, _, _, _, _, _, _, _, rfl, HZ.out, ?_, ?_⟩, ?_⟩
            · have := HE.out; rw [bothL_cons, if_neg (by omega), if_pos heq] at this; simpa using this
            · simp; omega
            · unfold BothM; rw [HX.out.ka, HX.out.kb]; have z1 := HZ.out.ka; have z2 := HZ.out.kb; (try simp only [List.length_nil] at z1 z2); rw [z1, z2]; simp [lenC] <;> omega
          · obtain ⟨g, o, e, lg, c1, c2, rT⟩ := HZ0.out.rb.head
            cases e
            have kk := HZ0.out.kb
            simp only [List.length_cons] at kk
            have hcl : sb.length + 1 ≤ cb := by have := HZ0.out.lb; simpa using this
            have hc0 : ¬ cb = 0 := by omega
            have hnl : ¬ ((sb.length : Int) + 1 < 1) := by omega
            refine Mix2.wp_region_plan (fun W' => Below (w.heap.size + 3) Wz W') [9] [.dep [true, true, true, true, false, false, true, true], .run [false, false, false, false, true, true, false, false, true]] #[true, true, true, true, true, true, true, true, true, false] 1 mixed' (by kernel_rfl) (by kernel_rfl) (by kernel_rfl) (fun _ _ _ _ _ h => h) (Below.refl _ _).drew ?_
            simp only [Mix2.wpPlan, Mix2.maskL]
            refine quiet_by (v) rfl (fun W' hS => by simp [execOp, go_sem]) ?_
            refine quiet_by (.slice (some ⟨g2, o2, Option.none⟩) (sb.length + 1) cb) rfl (fun W' hS => by have c0 := (hS.cell (p := ⟨w.heap.size + 1, 0, Option.none⟩) (by show w.heap.size + 1 < _; omega)).trans kk; simp [execOp, go_sem, c0]) ?_
            refine quiet_by (.pointer (some ⟨g2, o2, Option.none⟩)) rfl (fun W' hS => by simp [execOp, go_sem]) ?_
            refine quiet_by (.agg #[.int .i64 y1, .int .i64 y2]) rfl (fun W' hS => by have c0 := (hS.cell (p := ⟨g2, o2, Option.none⟩) (by show g2 < _; omega)).trans c1; have c1 := (hS.cell (p := ⟨g2, o2 + 1, Option.none⟩) (by show g2 < _; omega)).trans c2; simp [execOp, go_sem, c0, c1]) ?_
            refine quiet_by (.slice (some ⟨g2, o2, Option.none⟩) (sb.length + 1) cb) rfl (fun W' hS => by have c0 := (hS.cell (p := ⟨w.heap.size + 1, 0, Option.none⟩) (by show w.heap.size + 1 < _; omega)).trans kk; simp [execOp, go_sem, c0]) ?_
            refine quiet_by (.slice (some ⟨g2, o2 + 2, Option.none⟩) sb.length (cb - 1)) rfl (fun W' hS => by simp [execOp, go_sem, hcap, hcl, hnl]) ?_
            refine wpQuiet_nil ?_
            unfold Mix2.wpListS
            go_wp2_with fail
            refine ⟨(Below.refl _ _).drew.alloc HZ0.out.sz _, ?_⟩
            unfold Mix2.wpListS
            go_wp2_with (at_builtin; refine wpList_append_pair (L := out) HZ0.out.drew.row HZ0.out.sz rfl _ _ 38 rfl i0 Try.underlying38 hi hz0 hz1 hz2 y1 y2 1 rfl rfl (by unfold maxLen; omega) (by omega) ?_)
            intro v1 W1 hv1 hb1
            have hS1 : Below (w.heap.size + 3) Wz W1 := (Below.refl _ _).drew.trans hb1
            have HY := Lib.hid (HZ0.out.grow (out' := out ++ [(y1, y2)]) hS1 (by simpa using hv1))
            clear hv1
            go_wp2_with fail
            refine ⟨hS1, ?_⟩
            unfold Mix2.wpListS
            go_wp2_with fail
            refine ⟨hS1, ?_⟩
            unfold Mix2.wpListS
            refine Mix2.wpAny_tail [false, false, false, false, false, false, false, false, false, true] (Array.replicate 10 true) (by kernel_rfl) (by kernel_rfl) ?_
            simp only [Mix2.maskL]
            have kA := HY.out.kb
            have fA := HY.out.fb
            simp only [List.length_cons] at kA
            have HZ := Lib.hid (HY.out.setB (sb' := sb) (ab' := some ⟨g2, o2 + 2, Option.none⟩) (cb' := (cb - 1)) (rT.keep (hS1.mono (by omega))) (by omega) (fun h => by cases h))
            go_wp2
            go_step3
            refine .inl ⟨rfl, ⟨[], sb, out ++ [(y1, y2)], _, _, some ⟨g2, o2 + 2, Option.none⟩, (cb - 1), v1, _, _, _, _, _, _, _, _, _, _, _, _, _, _, _, _, _, _, _, _, _, _, _, _, _, _, _, _, _, _, _, _, _, _, _, _, _, _, _, _, _, _, _, _, _, _, _, _, _, _, _, _, _, _, rfl, HZ.out, ?_, ?_⟩, ?_⟩
            · have := HE.out; rw [bothL_cons, if_neg (by omega), if_pos heq] at this; simpa using this
            · simp; omega
            · unfold BothM; rw [HX.out.ka, HX.out.kb]; have z1 := HZ.out.ka; have z2 := HZ.out.kb; (try simp only [List.length_nil] at z1 z2); rw [z1, z2]; simp [lenC] <;> omega
        · have HZ0 := Lib.hid (HX1.out.setA (sa' := sa) (aa' := some ⟨g1, o1 + 2, Option.none⟩) (ca' := ca - 1) rA (by omega) (fun h => by cases h))
          go_wp2
          generalize World.setCell _ _ _ = Wz at *
          clear E0 E1 E2 E3
          by_cases hcap : cb = 1
          · obtain ⟨g, o, e, lg, c1, c2, rT⟩ := HZ0.out.rb.head
            cases e
            have kk := HZ0.out.kb
            simp only [List.length_cons] at kk
            have hcl : sb.length + 1 ≤ cb := by have := HZ0.out.lb; simpa using this
            obtain rfl : sb = [] := List.eq_nil_of_length_eq_zero (by omega)
            subst hcap
            simp only [List.length_nil] at kk
            refine Mix2.wp_region_plan (fun W' => Below (w.heap.size + 3) Wz W') [9] [.dep [true, true, true, true, false, false, true, true], .run [false, false, false, false, true, true, false, false, true]] #[true, true, true, true, true, true, true, true, true, false] 1 mixed' (by kernel_rfl) (by kernel_rfl) (by kernel_rfl) (fun _ _ _ _ _ h => h) (Below.refl _ _).drew ?_
            simp only [Mix2.wpPlan, Mix2.maskL]
            refine quiet_by (v) rfl (fun W' hS => by simp [execOp, go_sem]) ?_
            refine quiet_by (.slice (some ⟨g2, o2, Option.none⟩) (0 + 1) 1) rfl (fun W' hS => by have c0 := (hS.cell (p := ⟨w.heap.size + 1, 0, Option.none⟩) (by show w.heap.size + 1 < _; omega)).trans kk; simp [execOp, go_sem, c0]) ?_
            refine quiet_by (.pointer (some ⟨g2, o2, Option.none⟩)) rfl (fun W' hS => by simp [execOp, go_sem]) ?_
            refine quiet_by (.agg #[.int .i64 y1, .int .i64 y2]) rfl (fun W' hS => by have c0 := (hS.cell (p := ⟨g2, o2, Option.none⟩) (by show g2 < _; omega)).trans c1; have c1 := (hS.cell (p := ⟨g2, o2 + 1, Option.none⟩) (by show g2 < _; omega)).trans c2; simp [execOp, go_sem, c0, c1]) ?_
            refine quiet_by (.slice (some ⟨g2, o2, Option.none⟩) (0 + 1) 1) rfl (fun W' hS => by have c0 := (hS.cell (p := ⟨w.heap.size + 1, 0, Option.none⟩) (by show w.heap.size + 1 < _; omega)).trans kk; simp [execOp, go_sem, c0]) ?_
            refine quiet_by (.slice (some ⟨g2, o2, Option.none⟩) 0 0) rfl (fun W' hS => by simp [execOp, go_sem]) ?_
            refine wpQuiet_nil ?_
            unfold Mix2.wpListS
            go_wp2_with fail
            refine ⟨(Below.refl _ _).drew.alloc HZ0.out.sz _, ?_⟩
            unfold Mix2.wpListS
            go_wp2_with (at_builtin; refine wpList_append_pair (L := out) HZ0.out.drew.row HZ0.out.sz rfl _ _ 38 rfl i0 Try.underlying38 hi hz0 hz1 hz2 y1 y2 1 rfl rfl (by unfold maxLen; omega) (by omega) ?_)
            intro v1 W1 hv1 hb1
            have hS1 : Below (w.heap.size + 3) Wz W1 := (Below.refl _ _).drew.trans hb1
            have HY := Lib.hid (HZ0.out.grow (out' := out ++ [(y1, y2)]) hS1 (by simpa using hv1))
            clear hv1
            go_wp2_with fail
            refine ⟨hS1, ?_⟩
            unfold Mix2.wpListS
            go_wp2_with fail
            refine ⟨hS1, ?_⟩
            unfold Mix2.wpListS
            refine Mix2.wpAny_tail [false, false, false, false, false, false, false, false, false, true] (Array.replicate 10 true) (by kernel_rfl) (by kernel_rfl) ?_
            simp only [Mix2.maskL]
            have kA := HY.out.kb
            have fA := HY.out.fb
            simp only [List.length_cons] at kA
            have HZ := Lib.hid (HY.out.setB (sb' := []) (ab' := some ⟨g2, o2, Option.none⟩) (cb' := 0) (.inl rfl) (Nat.zero_le _) (fun h => by cases h))
            go_wp2
            go_step3
            refine .inl ⟨rfl, ⟨sa, [], out ++ [(y1, y2)], _, _, some ⟨g2, o2, Option.none⟩, 0, v1, _, _, _, _, _, _, _, _, _, _, _, _, _, _, _, _, _, _, _, _, _, _, _, _, _, _, _, _, _, _, _, _, _, _, _, _, _, _, _, _, _, _, _, _, _, _, _, _, _, _, _, _, _, _, rfl, HZ.out, ?_, ?_⟩, ?_⟩
            · have := HE.out; rw [bothL_cons, if_neg (by omega), if_pos heq] at this; simpa using this
            · simp; omega
            · unfold BothM; rw [HX.out.ka, HX.out.kb]; have z1 := HZ.out.ka; have z2 := HZ.out.kb; (try simp only [List.length_nil] at z1 z2); rw [z1, z2]; simp [lenC] <;> omega
          · obtain ⟨g, o, e, lg, c1, c2, rT⟩ := HZ0.out.rb.head
            cases e
            have kk := HZ0.out.kb
            simp only [List.length_cons] at kk
            have hcl : sb.length + 1 ≤ cb := by have := HZ0.out.lb; simpa using this
            have hc0 : ¬ cb = 0 := by omega
            have hnl : ¬ ((sb.length : Int) + 1 < 1) := by omega
            refine Mix2.wp_region_plan (fun W' => Below (w.heap.size + 3) Wz W') [9] [.dep [true, true, true, true, false, false, true, true], .run [false, false, false, false, true, true, false, false, true]] #[true, true, true, true, true, true, true, true, true, false] 1 mixed' (by kernel_rfl) (by kernel_rfl) (by kernel_rfl) (fun _ _ _ _ _ h => h) (Below.refl _ _).drew ?_
            simp only [Mix2.wpPlan, Mix2.maskL]
            refine quiet_by (v) rfl (fun W' hS => by simp [execOp, go_sem]) ?_
            refine quiet_by (.slice (some ⟨g2, o2, Option.none⟩) (sb.length + 1) cb) rfl (fun W' hS => by have c0 := (hS.cell (p := ⟨w.heap.size + 1, 0, Option.none⟩) (by show w.heap.size + 1 < _; omega)).trans kk; simp [execOp, go_sem, c0]) ?_
            refine quiet_by (.pointer (some ⟨g2, o2, Option.none⟩)) rfl (fun W' hS => by simp [execOp, go_sem]) ?_
            refine quiet_by (.agg #[.int .i64 y1, .int .i64 y2]) rfl (fun W' hS => by have c0 := (hS.cell (p := ⟨g2, o2, Option.none⟩) (by show g2 < _; omega)).trans c1; have c1 := (hS.cell (p := ⟨g2, o2 + 1, Option.none⟩) (by show g2 < _; omega)).trans c2; simp [execOp, go_sem, c0, c1]) ?_
            refine quiet_by (.slice (some ⟨g2, o2, Option.none⟩) (sb.length + 1) cb) rfl (fun W' hS => by have c0 := (hS.cell (p := ⟨w.heap.size + 1, 0, Option.none⟩) (by show w.heap.size + 1 < _; omega)).trans kk; simp [execOp, go_sem, c0]) ?_
            refine quiet_by (.slice (some ⟨g2, o2 + 2, Option.none⟩) sb.length (cb - 1)) rfl (fun W' hS => by simp [execOp, go_sem, hcap, hcl, hnl]) ?_
            refine wpQuiet_nil ?_
            unfold Mix2.wpListS
            go_wp2_with fail
            refine ⟨(Below.refl _ _).drew.alloc HZ0.out.sz _, ?_⟩
            unfold Mix2.wpListS
            go_wp2_with (at_builtin; refine wpList_append_pair (L := out) HZ0.out.drew.row HZ0.out.sz rfl _ _ 38 rfl i0 Try.underlying38 hi hz0 hz1 hz2 y1 y2 1 rfl rfl (by unfold maxLen; omega) (by omega) ?_)
            intro v1 W1 hv1 hb1
            have hS1 : Below (w.heap.size + 3) Wz W1 := (Below.refl _ _).drew.trans hb1
            have HY := Lib.hid (HZ0.out.grow (out' := out ++ [(y1, y2)]) hS1 (by simpa using hv1))
            clear hv1
            go_wp2_with fail
            refine ⟨hS1, ?_⟩
            unfold Mix2.wpListS
            go_wp2_with fail
            refine ⟨hS1, ?_⟩
            unfold Mix2.wpListS
            refine Mix2.wpAny_tail [false, false, false, false, false, false, false, false, false, true] (Array.replicate 10 true) (by kernel_rfl) (by kernel_rfl) ?_
            simp only [Mix2.maskL]
            have kA := HY.out.kb
            have fA := HY.out.fb
            simp only [List.length_cons] at kA
            have HZ := Lib.hid (HY.out.setB (sb' := sb) (ab' := some ⟨g2, o2 + 2, Option.none⟩) (cb' := (cb - 1)) (rT.keep (hS1.mono (by omega))) (by omega) (fun h => by cases h))
            go_wp2
            go_step3
            refine .inl ⟨rfl, ⟨sa, sb, out ++ [(y1, y2)], _, _, some ⟨g2, o2 + 2, Option.none⟩, (cb - 1), v1, _, _, _, _, _, _, _, _, _, _, _, _, _, _, _, _, _, _, _, _, _, _, _, _, _, _, _, _, _, _, _, _, _, _, _, _, _, _, _, _, _, _, _, _, _, _, _, _, _, _, _, _, _, _, rfl, HZ.out, ?_, ?_⟩, ?_⟩
            · have := HE.out; rw [bothL_cons, if_neg (by omega), if_pos heq] at this; simpa using this
            · simp; omega
            · unfold BothM; rw [HX.out.ka, HX.out.kb]; have z1 := HZ.out.ka; have z2 := HZ.out.kb; (try simp only [List.length_nil] at z1 z2); rw [z1, z2]; simp [lenC] <;> omega
      · have t1 : (x1 == y1) = false := by simpa using heq
        clear E0 E1 E2 E3
        go_wp2
        by_cases hcap : cb = 1
        · obtain ⟨g, o, e, lg, c1, c2, rT⟩ := HX1.out.rb.head
          cases e
          have kk := HX1.out.kb
          simp only [List.length_cons] at kk
          have hcl : sb.length + 1 ≤ cb := by have := HX1.out.lb; simpa using this
          obtain rfl : sb = [] := List.eq_nil_of_length_eq_zero (by omega)
          subst hcap
          simp only [List.length_nil] at kk
          refine Mix2.wp_region_plan (fun W' => Below (w.heap.size + 3) w3 W') [9] [.dep [true, true, true, true, false, false, true, true], .run [false, false, false, false, true, true, false, false, true]] #[true, true, true, true, true, true, true, true, true, false] 1 mixed' (by kernel_rfl) (by kernel_rfl) (by kernel_rfl) (fun _ _ _ _ _ h => h) (Below.refl _ _).drew ?_
          simp only [Mix2.wpPlan, Mix2.maskL]
          refine quiet_by (v) rfl (fun W' hS => by simp [execOp, go_sem]) ?_
          refine quiet_by (.slice (some ⟨g2, o2, Option.none⟩) (0 + 1) 1) rfl (fun W' hS => by have c0 := (hS.cell (p := ⟨w.heap.size + 1, 0, Option.none⟩) (by show w.heap.size + 1 < _; omega)).trans kk; simp [execOp, go_sem, c0]) ?_
          refine quiet_by (.pointer (some ⟨g2, o2, Option.none⟩)) rfl (fun W' hS => by simp [execOp, go_sem]) ?_
          refine quiet_by (.agg #[.int .i64 y1, .int .i64 y2]) rfl (fun W' hS => by have c0 := (hS.cell (p := ⟨g2, o2, Option.none⟩) (by show g2 < _; omega)).trans c1; have c1 := (hS.cell (p := ⟨g2, o2 + 1, Option.none⟩) (by show g2 < _; omega)).trans c2; simp [execOp, go_sem, c0, c1]) ?_
          refine quiet_by (.slice (some ⟨g2, o2, Option.none⟩) (0 + 1) 1) rfl (fun W' hS => by have c0 := (hS.cell (p := ⟨w.heap.size + 1, 0, Option.none⟩) (by show w.heap.size + 1 < _; omega)).trans kk; simp [execOp, go_sem, c0]) ?_
          refine quiet_by (.slice (some ⟨g2, o2, Option.none⟩) 0 0) rfl (fun W' hS => by simp [execOp, go_sem]) ?_
          refine wpQuiet_nil ?_
          unfold Mix2.wpListS
          go_wp2_with fail
          refine ⟨(Below.refl _ _).drew.alloc HX1.out.sz _, ?_⟩
          unfold Mix2.wpListS
          go_wp2_with (at_builtin; refine wpList_append_pair (L := out) HX1.out.drew.row HX1.out.sz rfl _ _ 38 rfl i0 Try.underlying38 hi hz0 hz1 hz2 y1 y2 1 rfl rfl (by unfold maxLen; omega) (by omega) ?_)
          intro v1 W1 hv1 hb1
          have hS1 : Below (w.heap.size + 3) w3 W1 := (Below.refl _ _).drew.trans hb1
          have HY := Lib.hid (HX1.out.grow (out' := out ++ [(y1, y2)]) hS1 (by simpa using hv1))
          clear hv1
          go_wp2_with fail
          refine ⟨hS1, ?_⟩
          unfold Mix2.wpListS
          go_wp2_with fail
          refine ⟨hS1, ?_⟩
          unfold Mix2.wpListS
          refine Mix2.wpAny_tail [false, false, false, false, false, false, false, false, false, true] (Array.replicate 10 true) (by kernel_rfl) (by kernel_rfl) ?_
          simp only [Mix2.maskL]
          have kA := HY.out.kb
          have fA := HY.out.fb
          simp only [List.length_cons] at kA
          have HZ := Lib.hid (HY.out.setB (sb' := []) (ab' := some ⟨g2, o2, Option.none⟩) (cb' := 0) (.inl rfl) (Nat.zero_le _) (fun h => by cases h))
          go_wp2
          go_step3
          refine .inl ⟨rfl, ⟨(x1, x2) :: sa, [], out ++ [(y1, y2)], _, _, some ⟨g2, o2, Option.none⟩, 0, v1, _, _, _, _, _, _, _, _, _, _, _, _, _, _, _, _, _, _, _, _, _, _, _, _, _, _, _, _, _, _, _, _, _, _, _, _, _, _, _, _, _, _, _, _, _, _, _, _, _, _, _, _, _, _, rfl, HZ.out, ?_, ?_⟩, ?_⟩
          · have := HE.out; rw [bothL_cons, if_neg (by omega), if_neg heq] at this; simpa using this
          · simp; omega
          · unfold BothM; rw [HX.out.ka, HX.out.kb]; have z1 := HZ.out.ka; have z2 := HZ.out.kb; (try simp only [List.length_nil] at z1 z2); rw [z1, z2]; simp [lenC] <;> omega
        · obtain ⟨g, o, e, lg, c1, c2, rT⟩ := HX1.out.rb.head
          cases e
          have kk := HX1.out.kb
          simp only [List.length_cons] at kk
          have hcl : sb.length + 1 ≤ cb := by have := HX1.out.lb; simpa using this
          have hc0 : ¬ cb = 0 := by omega
          have hnl : ¬ ((sb.length : Int) + 1 < 1) := by omega
          refine Mix2.wp_region_plan (fun W' => Below (w.heap.size + 3) w3 W') [9] [.dep [true, true, true, true, false, false, true, true], .run [false, false, false, false, true, true, false, false, true]] #[true, true, true, true, true, true, true, true, true, false] 1 mixed' (by kernel_rfl) (by kernel_rfl) (by kernel_rfl) (fun _ _ _ _ _ h => h) (Below.refl _ _).drew ?_
          simp only [Mix2.wpPlan, Mix2.maskL]
          refine quiet_by (v) rfl (fun W' hS => by simp [execOp, go_sem]) ?_
          refine quiet_by (.slice (some ⟨g2, o2, Option.none⟩) (sb.length + 1) cb) rfl (fun W' hS => by have c0 := (hS.cell (p := ⟨w.heap.size + 1, 0, Option.none⟩) (by show w.heap.size + 1 < _; omega)).trans kk; simp [execOp, go_sem, c0]) ?_
          refine quiet_by (.pointer (some ⟨g2, o2, Option.none⟩)) rfl (fun W' hS => by simp [execOp, go_sem]) ?_
          refine quiet_by (.agg #[.int .i64 y1, .int .i64 y2]) rfl (fun W' hS => by have c0 := (hS.cell (p := ⟨g2, o2, Option.none⟩) (by show g2 < _; omega)).trans c1; have c1 := (hS.cell (p := ⟨g2, o2 + 1, Option.none⟩) (by show g2 < _; omega)).trans c2; simp [execOp, go_sem, c0, c1]) ?_
          refine quiet_by (.slice (some ⟨g2, o2, Option.none⟩) (sb.length + 1) cb) rfl (fun W' hS => by have c0 := (hS.cell (p := ⟨w.heap.size + 1, 0, Option.none⟩) (by show w.heap.size + 1 < _; omega)).trans kk; simp [execOp, go_sem, c0]) ?_
          refine quiet_by (.slice (some ⟨g2, o2 + 2, Option.none⟩) sb.length (cb - 1)) rfl (fun W' hS => by simp [execOp, go_sem, hcap, hcl, hnl]) ?_
          refine wpQuiet_nil ?_
          unfold Mix2.wpListS
          go_wp2_with fail
          refine ⟨(Below.refl _ _).drew.alloc HX1.out.sz _, ?_⟩
          unfold Mix2.wpListS
          go_wp2_with (at_builtin; refine wpList_append_pair (L := out) HX1.out.drew.row HX1.out.sz rfl _ _ 38 rfl i0 Try.underlying38 hi hz0 hz1 hz2 y1 y2 1 rfl rfl (by unfold maxLen; omega) (by omega) ?_)
          intro v1 W1 hv1 hb1
          have hS1 : Below (w.heap.size + 3) w3 W1 := (Below.refl _ _).drew.trans hb1
          have HY := Lib.hid (HX1.out.grow (out' := out ++ [(y1, y2)]) hS1 (by simpa using hv1))
          clear hv1
          go_wp2_with fail
          refine ⟨hS1, ?_⟩
          unfold Mix2.wpListS
          go_wp2_with fail
          refine ⟨hS1, ?_⟩
          unfold Mix2.wpListS
          refine Mix2.wpAny_tail [false, false, false, false, false, false, false, false, false, true] (Array.replicate 10 true) (by kernel_rfl) (by kernel_rfl) ?_
          simp only [Mix2.maskL]
          have kA := HY.out.kb
          have fA := HY.out.fb
          simp only [List.length_cons] at kA
          have HZ := Lib.hid (HY.out.setB (sb' := sb) (ab' := some ⟨g2, o2 + 2, Option.none⟩) (cb' := (cb - 1)) (rT.keep (hS1.mono (by omega))) (by omega) (fun h => by cases h))
          go_wp2
          go_step3
          refine .inl ⟨rfl, ⟨(x1, x2) :: sa, sb, out ++ [(y1, y2)], _, _, some ⟨g2, o2 + 2, Option.none⟩, (cb - 1), v1, _, _, _, _, _, _, _, _, _, _, _, _, _, _, _, _, _, _, _, _, _, _, _, _, _, _, _, _, _, _, _, _, _, _, _, _, _, _, _, _, _, _, _, _, _, _, _, _, _, _, _, _, _, _, rfl, HZ.out, ?_, ?_⟩, ?_⟩
          · have := HE.out; rw [bothL_cons, if_neg (by omega), if_neg heq] at this; simpa using this
          · simp; omega
          · unfold BothM; rw [HX.out.ka, HX.out.kb]; have z1 := HZ.out.ka; have z2 := HZ.out.kb; (try simp only [List.length_nil] at z1 z2); rw [z1, z2]; simp [lenC] <;> omega
end Go.Proofs.Ytiemfklonhlnnaa.Load
