/- Contracts of package slots: new ones. Contracts of package slots: New; the document's New. Contracts of package slots: the document's Twin. A gapped array whose struct lies in a block ahead of its rows. Contracts of package slots: the document's Emptied. Contracts of package slots: the document's With. Contracts of package slots: the document's At. Contracts of package slots: the document's Lay and Clear. -/
import Derived.Test.YthkhideonceibaaDoorMai
import Derived.Lib.QuietBelow
set_option linter.unusedSimpArgs false
set_option linter.unusedVariables false
namespace Go.Proofs.YthkhideonceibaaDoor.Slo
open Go.RowKit Go.Shelf Go.Sort Go.Proofs.YthkhideonceibaaDoor Go.Proofs.YthkhideonceibaaDoor.Occ Go.Proofs.YthkhideonceibaaDoor.Frac
attribute [local go_sem] Oper.semAt_some

def emptyV (g n : Nat) : Sl := ⟨g, List.replicate ((n + 63) / 64) 0, List.replicate n 0, List.replicate n 0, List.replicate (n / g) 0, 0⟩
def slOf (b : Option Nat) (n : Nat) : Value := match b with
  | Option.none => undef
  | some b => .slice (some ⟨b, 0, Option.none⟩) n n

def mks (nw n nc : Nat) (i1 i2 i3 i4 d1 d2 d3 d4 x1 x2 x3 x4 : Nat) : List Mix.Mk := [⟨i1, d1, 22, 25, .u64, nw, .tmp x1⟩, ⟨i2, d2, 23, 2, .i64, n, .tmp x2⟩, ⟨i3, d3, 23, 2, .i64, n, .tmp x3⟩, ⟨i4, d4, 24, 3, .i64, nc, .tmp x4⟩]
/-- The four rows, made in whatever order. -/
theorem made_sown {w W : World} {B : Nat → Option Nat} {g n i1 i2 i3 i4 d1 d2 d3 d4 x1 x2 x3 x4 b1 b2 b3 b4 : Nat} (hF : Mix.MadeF (mks ((n + 63) / 64) n (n / g) i1 i2 i3 i4 d1 d2 d3 d4 x1 x2 x3 x4) w W B)
    (h1 : B i1 = some b1) (h2 : B i2 = some b2) (h3 : B i3 = some b3) (h4 : B i4 = some b4) (hi : [i1, i2, i3, i4].Nodup) :
    SOwn W w.heap.size W.heap.size (emptyV g n) ⟨some ⟨b1, 0, Option.none⟩, (n + 63) / 64, some ⟨b2, 0, Option.none⟩, n, some ⟨b3, 0, Option.none⟩, n, some ⟨b4, 0, Option.none⟩, n / g⟩ := by
  have m1 : (⟨i1, d1, 22, 25, .u64, (n + 63) / 64, .tmp x1⟩ : Mix.Mk) ∈ mks ((n + 63) / 64) n (n / g) i1 i2 i3 i4 d1 d2 d3 d4 x1 x2 x3 x4 := by simp [mks]
  have m2 : (⟨i2, d2, 23, 2, .i64, n, .tmp x2⟩ : Mix.Mk) ∈ mks ((n + 63) / 64) n (n / g) i1 i2 i3 i4 d1 d2 d3 d4 x1 x2 x3 x4 := by simp [mks]
  have m3 : (⟨i3, d3, 23, 2, .i64, n, .tmp x3⟩ : Mix.Mk) ∈ mks ((n + 63) / 64) n (n / g) i1 i2 i3 i4 d1 d2 d3 d4 x1 x2 x3 x4 := by simp [mks]
  have m4 : (⟨i4, d4, 24, 3, .i64, n / g, .tmp x4⟩ : Mix.Mk) ∈ mks ((n + 63) / 64) n (n / g) i1 i2 i3 i4 d1 d2 d3 d4 x1 x2 x3 x4 := by simp [mks]
  simp only [List.nodup_cons, List.mem_cons, List.not_mem_nil, or_false, not_or, List.nodup_nil, and_true] at hi
  obtain ⟨⟨n12, n13, n14⟩, ⟨n23, n24⟩, n34, -⟩ := hi
  have ap : ∀ {a b : Nat}, some a ≠ some b → Ap (some ⟨a, 0, Option.none⟩) (some ⟨b, 0, Option.none⟩) := fun {a b} h k e1 e2 => by
    simp only [bl, Option.map_some, Option.some.injEq] at e1 e2
    exact h (by rw [e1, e2])
  have lt : ∀ {b : Nat}, b < W.heap.size → ∀ k, bl (some ⟨b, 0, Option.none⟩) = some k → k < W.heap.size := fun {b} h k e => by
    simp only [bl, Option.map_some, Option.some.injEq] at e
    omega
  have q : ∀ {i j a b : Nat}, B j = some b → B j ≠ some a → some a ≠ some b := fun {i j a b} h hne e => hne (by rw [h, e])
  refine ⟨?_, ?_, ?_, ?_, lt (hF.lt _ m1 _ h1), lt (hF.lt _ m2 _ h2), lt (hF.lt _ m3 _ h3), lt (hF.lt _ m4 _ h4),
    ap (q (i := 0) h2 (hF.apart _ m1 _ m2 n12 _ h1)), ap (q (i := 0) h3 (hF.apart _ m1 _ m3 n13 _ h1)), ap (q (i := 0) h4 (hF.apart _ m1 _ m4 n14 _ h1)), ap (q (i := 0) h3 (hF.apart _ m2 _ m3 n23 _ h2)), ap (q (i := 0) h4 (hF.apart _ m2 _ m4 n24 _ h2)), ap (q (i := 0) h4 (hF.apart _ m3 _ m4 n34 _ h3))⟩
  · simpa [emptyV, Mix.zerosK, numsK] using hF.own _ m1 _ h1
  · simpa [emptyV, Mix.zerosK, numsK] using hF.own _ m2 _ h2
  · simpa [emptyV, Mix.zerosK, numsK] using hF.own _ m3 _ h3
  · simpa [emptyV, Mix.zerosK, numsK] using hF.own _ m4 _ h4

end Go.Proofs.YthkhideonceibaaDoor.Slo

namespace Go.Proofs.YthkhideonceibaaDoor.Slo
open Go.RowKit Go.Shelf Go.Sort Go.Proofs.YthkhideonceibaaDoor Go.Proofs.YthkhideonceibaaDoor.Occ Go.Proofs.YthkhideonceibaaDoor.Frac
attribute [local go_sem] Oper.semAt_some

def newSV (g n : Int) : Sl × Int := if fitsB g n = true then (emptyV g.toNat n.toNat, 0) else (noneS, 2)

set_option maxRecDepth 100000 in
set_option maxHeartbeats 4000000 in
theorem New_any (g n : Int) (w : World) (wg : (Lit.int .i64 g).wf = true) (wn : (Lit.int .i64 n).wf = true) :
    Calls Tryd.prog 27 #[.int .i64 g, .int .i64 n] w fun e w' => AnsS (newSV g n) w e w' := by
  have HC := Lib.hid (fun w1 => fits_any g n w1 wg wn)
  cases hf : fitsB g n
  case false =>
    have HV : Hid (newSV g n = (noneS, 2)) := Lib.hid (by unfold newSV; rw [hf]; rfl)
    rw [hf] at HC
    clear wg wn hf
    go_enter Tryd.func27, Tryd.ntmps27
    go_wp2_with fail
    refine (HC.out _).mono ?_
    rintro e w1 ⟨rfl, rfl⟩
    go_wp2
    refine bodyPost_ret (v := .tuple #[.agg #[.int .i64 0, .slice Option.none 0 0, .slice Option.none 0 0, .slice Option.none 0 0, .slice Option.none 0 0, .int .u64 0], .int .i64 2]) (by simp [results, Tryd.results27, go_sem, *]) rfl ⟨noneH, by rw [HV.out]; dsimp only; rw [sval_none], by rw [HV.out]; exact noneS_own _ _ _, ?_⟩
    exact (RowKit.Below.refl _ w).alloc (Nat.le_refl _) _
  case true =>
    have HV : Hid (newSV g n = (emptyV g.toNat n.toNat, 0)) := Lib.hid (by unfold newSV; rw [hf]; rfl)
    rw [hf] at HC
    obtain ⟨h1, h2, -, h3, h4, -, -⟩ := fitsB_iff.1 hf
    obtain ⟨g, rfl⟩ := Int.eq_ofNat_of_zero_le (by omega : 0 ≤ g)
    obtain ⟨n, rfl⟩ := Int.eq_ofNat_of_zero_le (by omega : 0 ≤ n)
    rw [Int.toNat_natCast, Int.toNat_natCast] at HV
    have hg : 1 ≤ g := by omega
    have hn : n ≤ 65536 := by omega
    clear wg wn hf h1 h2 h3 h4
    have e1 : IntKind.i64.wrap ((n : Int) + 63) = ((n + 63 : Nat) : Int) := by rw [IntKind.wrap_i64]; omega
    have e2 : Int.tdiv ((n + 63 : Nat) : Int) 64 = (((n + 63) / 64 : Nat) : Int) := by rw [Int.tdiv_eq_ediv_of_nonneg (by omega)]; simp
    have e3 : IntKind.i64.wrap ((((n + 63) / 64 : Nat)) : Int) = (((n + 63) / 64 : Nat) : Int) := by rw [IntKind.wrap_i64]; omega
    have e4 : Int.tdiv (n : Int) (g : Int) = ((n / g : Nat) : Int) := by rw [Int.tdiv_eq_ediv_of_nonneg (by omega)]; simp
    have hq : n / g ≤ n := Nat.div_le_self n g
    have e5 : IntKind.i64.wrap ((n / g : Nat) : Int) = ((n / g : Nat) : Int) := by
      generalize n / g = jj at *
      rw [IntKind.wrap_i64]; omega
    have g0 : ((g : Int) == 0) = false := by rw [beq_eq_false_iff_ne]; omega
    have g1 : (g : Int) ≠ 0 := by omega
    have g2 : g ≠ 0 := by omega
    have hr63 : (n + 63) / 64 ≤ 65536 := by omega
    generalize hnw : (n + 63) / 64 = nw at *
    generalize hnc : n / g = nc at *
    have HNW := Lib.hid hnw; have HNC := Lib.hid hnc
    clear hnw hnc
    generalize hsm : n + 63 = sm at *
    have HSM := Lib.hid hsm
    clear hsm
    go_enter Tryd.func27, Tryd.ntmps27
    go_wp2_with fail
    refine (HC.out _).mono ?_
    rintro e w1 ⟨rfl, rfl⟩
    go_wp2_with fail
    generalize hw0 : World.alloc w _ = w0
    have HW0 := Lib.hid hw0
    clear hw0
    refine Mix.wp_region_plan (fun w' => True) [4, 6, 8, 12, 13, 14, 15] [.free [true, true, true, true, false, true, false, true, false, true, true, true]]
      #[true, true, true, true, false, true, false, true, false, true, true, true, false, false, false, false] 7 mixed' (by kernel_rfl) (by kernel_rfl) (by kernel_rfl) (fun _ _ _ _ _ h => h) trivial ?_
    simp only [Mix.wpPlan, Mix.maskL]
    repeat (go_big_quiet_step (fail))
    refine wpQuiet_nil ?_
    refine Mix.wpAny_makes (l := [_, _, _, _, _, _, _, _, _, _, _, _, _, _, _, _]) (mks nw n nc 4 6 8 12 15 17 19 23 14 16 18 22) w0.drew
      (fun B => { tmps := #[.int .i64 g, .int .i64 n, undef, undef, .pointer (some ⟨w.heap.size, 0, Option.none⟩), .int .i64 0, .int .i64 g, .int .i64 n, .bool true, .bool false, undef, .int .i64 g, .int .i64 n, .int .i64 sm, .int .i64 nw, slOf (B 4) nw, .int .i64 n, slOf (B 6) n, .int .i64 n, slOf (B 8) n, .int .i64 n, .int .i64 g, .int .i64 nc, slOf (B 12) nc, undef], defers := [] })
      #[true, true, true, true, true, true, true, true, true, true, true, true, true, false, false, false] 3 ?hop ?hev ?hmk ?hput ?hn ?hinj ?tail 4 [4, 6, 8, 12] _ w0.drew (fun _ => Option.none) (by kernel_rfl) rfl (by decide) ?hM ?hBn ?hF
    case hop => intro m hm; simp [mks] at hm; rcases hm with rfl | rfl | rfl | rfl <;> exact ⟨_, rfl, rfl, rfl, rfl⟩
    case hev => intro m hm B; simp [mks] at hm; rcases hm with rfl | rfl | rfl | rfl <;> rfl
    case hmk =>
      intro m hm W; simp [mks] at hm
      rcases hm with rfl | rfl | rfl | rfl
      · exact run_make_row' 22 25 (.int .u64 0) 8 (by kernel_rfl) (by kernel_rfl) rfl .i64 .i64 nw (by omega) (by omega) W
      · exact run_make_row' 23 2 (.int .i64 0) 8 (by kernel_rfl) (by kernel_rfl) rfl .i64 .i64 n (by omega) (by omega) W
      · exact run_make_row' 23 2 (.int .i64 0) 8 (by kernel_rfl) (by kernel_rfl) rfl .i64 .i64 n (by omega) (by omega) W
      · exact run_make_row' 24 3 (.int .i64 0) 8 (by kernel_rfl) (by kernel_rfl) rfl .i64 .i64 nc (by omega) (by omega) W
    case hput => intro m hm B b; simp [mks] at hm; rcases hm with rfl | rfl | rfl | rfl <;> rfl
    case hn => intro m hm; simp [mks] at hm; unfold maxLen; rcases hm with rfl | rfl | rfl | rfl <;> simp <;> omega
    case hinj => intro m hm m' hm' h; simp [mks] at hm hm'; rcases hm with rfl | rfl | rfl | rfl <;> rcases hm' with rfl | rfl | rfl | rfl <;> first | rfl | (simp at h)
    case hM => intro i hi; simp at hi; simp [mks]; omega
    case hBn => intro m hm; simp [mks] at hm; rcases hm with rfl | rfl | rfl | rfl <;> simp
    case hF => exact ⟨RowKit.Below.refl _ _, (by intro m hm b hb; cases hb), (by intro m hm b hb; cases hb), (by intro m hm m' hm' _ b hb; cases hb)⟩
    case tail =>
      intro W B hF hB
      obtain ⟨b1, h1⟩ := Option.ne_none_iff_exists'.1 (hB ⟨4, 15, 22, 25, .u64, nw, .tmp 14⟩ (by simp [mks]))
      obtain ⟨b2, h2⟩ := Option.ne_none_iff_exists'.1 (hB ⟨6, 17, 23, 2, .i64, n, .tmp 16⟩ (by simp [mks]))
      obtain ⟨b3, h3⟩ := Option.ne_none_iff_exists'.1 (hB ⟨8, 19, 23, 2, .i64, n, .tmp 18⟩ (by simp [mks]))
      obtain ⟨b4, h4⟩ := Option.ne_none_iff_exists'.1 (hB ⟨12, 23, 24, 3, .i64, nc, .tmp 22⟩ (by simp [mks]))
      dsimp only at h1 h2 h3 h4
      have hF' := hF
      rw [← HNC.out, ← HNW.out, ← HSM.out] at hF'
      have HO := Lib.hid (made_sown hF' h1 h2 h3 h4 (by decide))
      have hb := hF.below
      have HX := Lib.hid ((RowKit.Below.refl (w.heap.size + 1) w0).drew.trans (hb.mono (by rw [← HW0.out]; simp)))
      rw [← HW0.out] at HX hb
      have HB : Hid (RowKit.Below w.heap.size w W) := Lib.hid (((RowKit.Below.refl _ w).alloc (Nat.le_refl _) _).drew.trans (hb.mono (by simp)))
      have hsz := hb.size
      have hz : w0.drew.heap.size = w.heap.size + 1 := by rw [← HW0.out]; simp
      rw [hz] at HO
      simp only [h1, h2, h3, h4, slOf]
      obtain ⟨c0, c1, c2, c3, c4, c5⟩ := box6 HX.out
      have f0 := box_frozen HX.out 0; have f1 := box_frozen HX.out 1; have f2 := box_frozen HX.out 2; have f3 := box_frozen HX.out 3; have f4 := box_frozen HX.out 4; have f5 := box_frozen HX.out 5
      rw [HSM.out, HNW.out, HNC.out] at HO
      have HEV : Hid (emptyV g n = ⟨g, List.replicate nw 0, List.replicate n 0, List.replicate n 0, List.replicate nc 0, 0⟩) := Lib.hid (by unfold emptyV; rw [HSM.out, HNW.out, HNC.out])
      clear hF hF' hB h1 h2 h3 h4 hb hsz hz HX e1 e2 e3 e4 e5 g0 g1 g2 hq hr63
      refine Mix.wpAny_tail [false, false, false, false, false, false, false, false, false, false, false, false, false, true, true, true] (Array.replicate 16 true) (by kernel_rfl) (by kernel_rfl) ?_
      simp only [Mix.maskL]
      go_wp2
      refine bodyPost_ret (v := .tuple #[.agg #[.int .i64 g, .slice (some ⟨b1, 0, Option.none⟩) nw nw, .slice (some ⟨b2, 0, Option.none⟩) n n, .slice (some ⟨b3, 0, Option.none⟩) n n, .slice (some ⟨b4, 0, Option.none⟩) nc nc, .int .u64 0], .int .i64 0]) (by simp [results, Tryd.results27, go_sem, *]) rfl ⟨⟨some ⟨b1, 0, Option.none⟩, nw, some ⟨b2, 0, Option.none⟩, n, some ⟨b3, 0, Option.none⟩, n, some ⟨b4, 0, Option.none⟩, nc⟩, by rw [HV.out, HEV.out]; simp [sval], ?_, ?_⟩
      · rw [HV.out]
        have hlow : w.heap.size < w.heap.size + 1 := by omega
        exact ((((((HO.out.set_low _ _ hlow).set_low _ _ hlow).set_low _ _ hlow).set_low _ _ hlow).set_low _ _ hlow).set_low _ _ hlow).mono (by omega) (by simp)
      · exact (((((HB.out.setCell (by simp) _).setCell (by simp) _).setCell (by simp) _).setCell (by simp) _).setCell (by simp) _).setCell (by simp) _

end Go.Proofs.YthkhideonceibaaDoor.Slo

namespace Go.Proofs.YthkhideonceibaaDoor.Slo
open Go.RowKit Go.Shelf Go.Sort Go.Proofs.YthkhideonceibaaDoor Go.Proofs.YthkhideonceibaaDoor.Occ Go.Proofs.YthkhideonceibaaDoor.Frac
attribute [local go_sem] Oper.semAt_some

/-- A slice without an address has no room. -/
structure HNo (h : Hd) : Prop where
  w : h.aw = Option.none → h.cw = 0
  k : h.ak = Option.none → h.ck = 0
  v : h.av = Option.none → h.cv = 0
  c : h.ac = Option.none → h.cc = 0
theorem own_no {w : World} {lo n m c : Nat} {e : TypeId} {a : Option Addr} {xs : List Value} (h : w.ownsRow lo e 1 (.slice a n c) m xs) : a = Option.none → c = 0 := by
  rintro rfl
  rcases h.2 with ⟨h1, h2⟩ | ⟨g, cap, cur, h1, _⟩
  · simp only [Value.slice.injEq] at h1; exact h1.2.2
  · cases h1
theorem SOwn.no {w : World} {lo hi : Nat} {s : Sl} {h : Hd} (o : SOwn w lo hi s h) : HNo h := ⟨own_no o.ow, own_no o.ok, own_no o.ov, own_no o.oc⟩

/-- A struct of six in its own block. -/
structure BoxC (W : World) (b : Nat) (v0 v1 v2 v3 v4 v5 : Value) : Prop where
  c0 : W.cell? ⟨b, 0, Option.none⟩ = some v0
  c1 : W.cell? ⟨b, 1, Option.none⟩ = some v1
  c2 : W.cell? ⟨b, 2, Option.none⟩ = some v2
  c3 : W.cell? ⟨b, 3, Option.none⟩ = some v3
  c4 : W.cell? ⟨b, 4, Option.none⟩ = some v4
  c5 : W.cell? ⟨b, 5, Option.none⟩ = some v5
  f : ∀ j, W.frozen? ⟨b, j, Option.none⟩ = false
theorem BoxC.below {W W' : World} {b m : Nat} {v0 v1 v2 v3 v4 v5 : Value} (h : BoxC W b v0 v1 v2 v3 v4 v5) (hb : RowKit.Below m W W') (hm : b < m) : BoxC W' b v0 v1 v2 v3 v4 v5 :=
  ⟨(hb.cell (p := ⟨b, 0, Option.none⟩) hm).trans h.c0, (hb.cell (p := ⟨b, 1, Option.none⟩) hm).trans h.c1, (hb.cell (p := ⟨b, 2, Option.none⟩) hm).trans h.c2, (hb.cell (p := ⟨b, 3, Option.none⟩) hm).trans h.c3, (hb.cell (p := ⟨b, 4, Option.none⟩) hm).trans h.c4, (hb.cell (p := ⟨b, 5, Option.none⟩) hm).trans h.c5, fun j => (hb.frozen (p := ⟨b, j, Option.none⟩) hm).trans (h.f j)⟩
theorem BoxC.other {W : World} {b : Nat} {v0 v1 v2 v3 v4 v5 : Value} (h : BoxC W b v0 v1 v2 v3 v4 v5) (p : Addr) (u : Value) (hp : p.block ≠ b) : BoxC (W.setCell p u) b v0 v1 v2 v3 v4 v5 :=
  have n : ∀ j, p ≠ ⟨b, j, Option.none⟩ := fun j e => hp (by rw [e])
  ⟨(World.cell?_setCell_other _ _ _ _ (n 0)).trans h.c0, (World.cell?_setCell_other _ _ _ _ (n 1)).trans h.c1, (World.cell?_setCell_other _ _ _ _ (n 2)).trans h.c2, (World.cell?_setCell_other _ _ _ _ (n 3)).trans h.c3, (World.cell?_setCell_other _ _ _ _ (n 4)).trans h.c4, (World.cell?_setCell_other _ _ _ _ (n 5)).trans h.c5, fun j => by rw [World.frozen?_setCell]; exact h.f j⟩
theorem BoxC.set0 {W : World} {b : Nat} {v0 v1 v2 v3 v4 v5 : Value} (h : BoxC W b v0 v1 v2 v3 v4 v5) (u : Value) : BoxC (W.setCell ⟨b, 0, Option.none⟩ u) b u v1 v2 v3 v4 v5 :=
  ⟨World.cell?_setCell_same _ _ _ h.c0, (World.cell?_setCell_other _ _ _ _ (by simp)).trans h.c1, (World.cell?_setCell_other _ _ _ _ (by simp)).trans h.c2, (World.cell?_setCell_other _ _ _ _ (by simp)).trans h.c3, (World.cell?_setCell_other _ _ _ _ (by simp)).trans h.c4, (World.cell?_setCell_other _ _ _ _ (by simp)).trans h.c5, fun j => by rw [World.frozen?_setCell]; exact h.f j⟩
theorem BoxC.set1 {W : World} {b : Nat} {v0 v1 v2 v3 v4 v5 : Value} (h : BoxC W b v0 v1 v2 v3 v4 v5) (u : Value) : BoxC (W.setCell ⟨b, 1, Option.none⟩ u) b v0 u v2 v3 v4 v5 :=
  ⟨(World.cell?_setCell_other _ _ _ _ (by simp)).trans h.c0, World.cell?_setCell_same _ _ _ h.c1, (World.cell?_setCell_other _ _ _ _ (by simp)).trans h.c2, (World.cell?_setCell_other _ _ _ _ (by simp)).trans h.c3, (World.cell?_setCell_other _ _ _ _ (by simp)).trans h.c4, (World.cell?_setCell_other _ _ _ _ (by simp)).trans h.c5, fun j => by rw [World.frozen?_setCell]; exact h.f j⟩
theorem BoxC.set2 {W : World} {b : Nat} {v0 v1 v2 v3 v4 v5 : Value} (h : BoxC W b v0 v1 v2 v3 v4 v5) (u : Value) : BoxC (W.setCell ⟨b, 2, Option.none⟩ u) b v0 v1 u v3 v4 v5 :=
  ⟨(World.cell?_setCell_other _ _ _ _ (by simp)).trans h.c0, (World.cell?_setCell_other _ _ _ _ (by simp)).trans h.c1, World.cell?_setCell_same _ _ _ h.c2, (World.cell?_setCell_other _ _ _ _ (by simp)).trans h.c3, (World.cell?_setCell_other _ _ _ _ (by simp)).trans h.c4, (World.cell?_setCell_other _ _ _ _ (by simp)).trans h.c5, fun j => by rw [World.frozen?_setCell]; exact h.f j⟩
theorem BoxC.set3 {W : World} {b : Nat} {v0 v1 v2 v3 v4 v5 : Value} (h : BoxC W b v0 v1 v2 v3 v4 v5) (u : Value) : BoxC (W.setCell ⟨b, 3, Option.none⟩ u) b v0 v1 v2 u v4 v5 :=
  ⟨(World.cell?_setCell_other _ _ _ _ (by simp)).trans h.c0, (World.cell?_setCell_other _ _ _ _ (by simp)).trans h.c1, (World.cell?_setCell_other _ _ _ _ (by simp)).trans h.c2, World.cell?_setCell_same _ _ _ h.c3, (World.cell?_setCell_other _ _ _ _ (by simp)).trans h.c4, (World.cell?_setCell_other _ _ _ _ (by simp)).trans h.c5, fun j => by rw [World.frozen?_setCell]; exact h.f j⟩
theorem BoxC.set4 {W : World} {b : Nat} {v0 v1 v2 v3 v4 v5 : Value} (h : BoxC W b v0 v1 v2 v3 v4 v5) (u : Value) : BoxC (W.setCell ⟨b, 4, Option.none⟩ u) b v0 v1 v2 v3 u v5 :=
  ⟨(World.cell?_setCell_other _ _ _ _ (by simp)).trans h.c0, (World.cell?_setCell_other _ _ _ _ (by simp)).trans h.c1, (World.cell?_setCell_other _ _ _ _ (by simp)).trans h.c2, (World.cell?_setCell_other _ _ _ _ (by simp)).trans h.c3, World.cell?_setCell_same _ _ _ h.c4, (World.cell?_setCell_other _ _ _ _ (by simp)).trans h.c5, fun j => by rw [World.frozen?_setCell]; exact h.f j⟩
theorem BoxC.set5 {W : World} {b : Nat} {v0 v1 v2 v3 v4 v5 : Value} (h : BoxC W b v0 v1 v2 v3 v4 v5) (u : Value) : BoxC (W.setCell ⟨b, 5, Option.none⟩ u) b v0 v1 v2 v3 v4 u :=
  ⟨(World.cell?_setCell_other _ _ _ _ (by simp)).trans h.c0, (World.cell?_setCell_other _ _ _ _ (by simp)).trans h.c1, (World.cell?_setCell_other _ _ _ _ (by simp)).trans h.c2, (World.cell?_setCell_other _ _ _ _ (by simp)).trans h.c3, (World.cell?_setCell_other _ _ _ _ (by simp)).trans h.c4, World.cell?_setCell_same _ _ _ h.c5, fun j => by rw [World.frozen?_setCell]; exact h.f j⟩
theorem BoxC.new (w : World) (v0 v1 v2 v3 v4 v5 : Value) (t : TypeId) : BoxC (w.alloc (.cells #[v0, v1, v2, v3, v4, v5] t)) w.heap.size v0 v1 v2 v3 v4 v5 := by
  obtain ⟨c0, c1, c2, c3, c4, c5⟩ := box6 (w := w) (RowKit.Below.refl _ (w.alloc (.cells #[v0, v1, v2, v3, v4, v5] t)))
  exact ⟨c0, c1, c2, c3, c4, c5, fun j => frozen_new _ _ _ _⟩

set_option maxRecDepth 100000 in
set_option maxHeartbeats 4000000 in
theorem refTwin_any (s : Sl) (h : Hd) (w : World) (W : s.Wf) (R : SRd w s h) (N : HNo h) :
    Calls Tryd.prog 10 #[sval s h] w fun e w' => ∃ h', e = .returned (sval s h') ∧ SOwn w' w.heap.size w'.heap.size s h' ∧ RowKit.Below w.heap.size w w' := by
  obtain ⟨i0, hi, hz0, hz1, hz2⟩ := info_parts infoU
  obtain ⟨j0, gi, gz0, gz1, gz2⟩ := info_parts infoK
  obtain ⟨k0, ki, kz0, kz1, kz2⟩ := info_parts infoI
  have lw := W.lw; have lk := W.lk; have lv := W.lv; have lc := W.lc
  have HR := Lib.hid R
  have HB : Hid (∀ x y, RowKit.Below w.heap.size w ((w.alloc x).alloc y)) := Lib.hid fun x y => ((RowKit.Below.refl _ w).alloc (Nat.le_refl _) _).alloc (by simp) _
  have nw := N.w; have nk := N.k; have nv := N.v; have nc := N.c
  clear W R N
  have HBX0 : Hid (∀ x, BoxC ((w.alloc (.cells #[.int .i64 s.seg, .slice h.aw s.ws.length h.cw, .slice h.ak s.ks.length h.ck, .slice h.av s.vs.length h.cv, .slice h.ac s.cs.length h.cc, .int .u64 s.laid] 27)).alloc x) w.heap.size (.int .i64 s.seg) (.slice h.aw s.ws.length h.cw) (.slice h.ak s.ks.length h.ck) (.slice h.av s.vs.length h.cv) (.slice h.ac s.cs.length h.cc) (.int .u64 s.laid)) := Lib.hid fun x =>
    (BoxC.new w _ _ _ _ _ _ _).below (m := w.heap.size + 1) ((RowKit.Below.refl _ _).alloc (by simp) _) (by omega)
  have HBD0 : Hid (∀ o, BoxC ((w.alloc o).alloc (.cells #[.int .i64 0, .slice Option.none 0 0, .slice Option.none 0 0, .slice Option.none 0 0, .slice Option.none 0 0, .int .u64 0] 27)) (w.heap.size + 1) (.int .i64 0) (.slice Option.none 0 0) (.slice Option.none 0 0) (.slice Option.none 0 0) (.slice Option.none 0 0) (.int .u64 0)) := Lib.hid fun o => by
    have := BoxC.new (w.alloc o) (.int .i64 0) (.slice Option.none 0 0) (.slice Option.none 0 0) (.slice Option.none 0 0) (.slice Option.none 0 0) (.int .u64 0) 27
    simpa using this
  have HBD0 : Hid (∀ o, BoxC ((w.alloc o).alloc (.cells #[.int .i64 0, .slice Option.none 0 0, .slice Option.none 0 0, .slice Option.none 0 0, .slice Option.none 0 0, .int .u64 0] 27)) (w.heap.size + 1) (.int .i64 0) (.slice Option.none 0 0) (.slice Option.none 0 0) (.slice Option.none 0 0) (.slice Option.none 0 0) (.int .u64 0)) := Lib.hid fun o => by
    have := BoxC.new (w.alloc o) (.int .i64 0) (.slice Option.none 0 0) (.slice Option.none 0 0) (.slice Option.none 0 0) (.slice Option.none 0 0) (.int .u64 0) 27
    simpa using this
  have HBD0 : Hid (∀ o, BoxC ((w.alloc o).alloc (.cells #[.int .i64 0, .slice Option.none 0 0, .slice Option.none 0 0, .slice Option.none 0 0, .slice Option.none 0 0, .int .u64 0] 27)) (w.heap.size + 1) (.int .i64 0) (.slice Option.none 0 0) (.slice Option.none 0 0) (.slice Option.none 0 0) (.slice Option.none 0 0) (.int .u64 0)) := Lib.hid fun o => by
    have := BoxC.new (w.alloc o) (.int .i64 0) (.slice Option.none 0 0) (.slice Option.none 0 0) (.slice Option.none 0 0) (.slice Option.none 0 0) (.int .u64 0) 27
    simpa using this
  have HBD0 : Hid (∀ o, BoxC ((w.alloc o).alloc (.cells #[.int .i64 0, .slice Option.none 0 0, .slice Option.none 0 0, .slice Option.none 0 0, .slice Option.none 0 0, .int .u64 0] 27)) (w.heap.size + 1) (.int .i64 0) (.slice Option.none 0 0) (.slice Option.none 0 0) (.slice Option.none 0 0) (.slice Option.none 0 0) (.int .u64 0)) := Lib.hid fun o => by
    have := BoxC.new (w.alloc o) (.int .i64 0) (.slice Option.none 0 0) (.slice Option.none 0 0) (.slice Option.none 0 0) (.slice Option.none 0 0) (.int .u64 0) 27
    simpa using this
  have HBD0 : Hid (∀ o, BoxC ((w.alloc o).alloc (.cells #[.int .i64 0, .slice Option.none 0 0, .slice Option.none 0 0, .slice Option.none 0 0, .slice Option.none 0 0, .int .u64 0] 27)) (w.heap.size + 1) (.int .i64 0) (.slice Option.none 0 0) (.slice Option.none 0 0) (.slice Option.none 0 0) (.slice Option.none 0 0) (.int .u64 0)) := Lib.hid fun o => by
    have := BoxC.new (w.alloc o) (.int .i64 0) (.slice Option.none 0 0) (.slice Option.none 0 0) (.slice Option.none 0 0) (.slice Option.none 0 0) (.int .u64 0) 27
    simpa using this
  unfold sval
  go_enter Tryd.func10, Tryd.ntmps10
  go_wp2_with (at_builtin; refine wpList_append_copy (k := .u64) rfl _ _ 22 25 rfl i0 8 Tryd.underlying22 hi hz0 hz1 hz2 h.aw h.cw s.ws (by simp [Act.eval]) rfl (HR.out.fw.mono (HB.out _ _) (Nat.le_refl _)) nw (by unfold maxLen; omega) (by omega) ?_)
  intro v1 w1 ho1 hb1
  obtain ⟨a1, p1, rfl⟩ := own_slice ho1
  have HB1 : Hid (RowKit.Below w.heap.size w w1) := Lib.hid ((HB.out _ _).trans (hb1.mono (by omega)))
  have HX1 := Lib.hid ((HBX0.out _).below hb1 (by omega))
  have HD1 := Lib.hid ((HBD0.out _).below hb1 (by omega))
  have HZ1 : Hid (w.heap.size + 2 ≤ w1.heap.size) := Lib.hid (by have := hb1.size; simpa using this)
  have HO1 := Lib.hid ho1
  clear ho1 hb1 HB HBX0 HBD0
  have c0 := HX1.out.c0; have c1 := HX1.out.c1; have c2 := HX1.out.c2; have c3 := HX1.out.c3; have c4 := HX1.out.c4; have c5 := HX1.out.c5; have ff := HX1.out.f 1
  have hzk : w.heap.size < w1.heap.size := by have := HZ1.out; omega
  go_wp2_with (at_builtin; refine wpList_append_copy (k := .i64) rfl _ _ 23 2 rfl j0 8 Tryd.underlying23 gi gz0 gz1 gz2 h.ak h.ck s.ks (by simp [Act.eval]) rfl (HR.out.fk.mono (HB1.out.setCell (p := ⟨w.heap.size, 1, Option.none⟩) (by simp) _) (Nat.le_refl _)) nk (by unfold maxLen; omega) (by omega) ?_)
  intro v2 w2 ho2 hb2
  obtain ⟨a2, p2, rfl⟩ := own_slice ho2
  have HB2 : Hid (RowKit.Below w.heap.size w w2) := Lib.hid ((HB1.out.setCell (p := ⟨w.heap.size, 1, Option.none⟩) (by simp) (.slice a1 s.ws.length p1)).trans (hb2.mono (by have := HZ1.out; omega)))
  have HX2 := Lib.hid ((HX1.out.set1 (.slice a1 s.ws.length p1)).below hb2 (by have := HZ1.out; omega))
  have HD2 := Lib.hid ((HD1.out.other ⟨w.heap.size, 1, Option.none⟩ (.slice a1 s.ws.length p1) (by simp)).below hb2 (by have := HZ1.out; omega))
  have HZ2 : Hid (w.heap.size + 2 ≤ w2.heap.size ∧ w1.heap.size ≤ w2.heap.size) := Lib.hid (by have h1 := hb2.size; have h2 := HZ1.out; simp only [World.size_setCell] at h1; omega)
  have HO2 := Lib.hid (And.intro (owns_below (own_set HO1.out ⟨w.heap.size, 1, Option.none⟩ (.slice a1 s.ws.length p1) (by show w.heap.size < w.heap.size + 1 + 1; omega)) (by simpa using hb2)) (ho2))
  clear ho2 hb2 HB1 HX1 HD1
  clear c0 c1 c2 c3 c4 c5 ff hzk
  have c0 := HX2.out.c0; have c1 := HX2.out.c1; have c2 := HX2.out.c2; have c3 := HX2.out.c3; have c4 := HX2.out.c4; have c5 := HX2.out.c5; have ff := HX2.out.f 2
  have hzk : w.heap.size < w2.heap.size := by have := HZ2.out; omega
  go_wp2_with (at_builtin; refine wpList_append_copy (k := .i64) rfl _ _ 23 2 rfl j0 8 Tryd.underlying23 gi gz0 gz1 gz2 h.av h.cv s.vs (by simp [Act.eval]) rfl (HR.out.fv.mono (HB2.out.setCell (p := ⟨w.heap.size, 2, Option.none⟩) (by simp) _) (Nat.le_refl _)) nv (by unfold maxLen; omega) (by omega) ?_)
  intro v3 w3 ho3 hb3
  obtain ⟨a3, p3, rfl⟩ := own_slice ho3
  have HB3 : Hid (RowKit.Below w.heap.size w w3) := Lib.hid ((HB2.out.setCell (p := ⟨w.heap.size, 2, Option.none⟩) (by simp) (.slice a2 s.ks.length p2)).trans (hb3.mono (by have := HZ2.out; omega)))
  have HX3 := Lib.hid ((HX2.out.set2 (.slice a2 s.ks.length p2)).below hb3 (by have := HZ2.out; omega))
  have HD3 := Lib.hid ((HD2.out.other ⟨w.heap.size, 2, Option.none⟩ (.slice a2 s.ks.length p2) (by simp)).below hb3 (by have := HZ2.out; omega))
  have HZ3 : Hid (w.heap.size + 2 ≤ w3.heap.size ∧ w2.heap.size ≤ w3.heap.size) := Lib.hid (by have h1 := hb3.size; have h2 := HZ2.out; simp only [World.size_setCell] at h1; omega)
  have HO3 := Lib.hid (And.intro (owns_below (own_set HO2.out.1 ⟨w.heap.size, 2, Option.none⟩ (.slice a2 s.ks.length p2) (by show w.heap.size < w.heap.size + 1 + 1; omega)) (by simpa using hb3)) (And.intro (owns_below (own_set HO2.out.2 ⟨w.heap.size, 2, Option.none⟩ (.slice a2 s.ks.length p2) (by have := HZ1.out; show w.heap.size < w1.heap.size; omega)) (by simpa using hb3)) (ho3)))
  clear ho3 hb3 HB2 HX2 HD2
  clear c0 c1 c2 c3 c4 c5 ff hzk
  have c0 := HX3.out.c0; have c1 := HX3.out.c1; have c2 := HX3.out.c2; have c3 := HX3.out.c3; have c4 := HX3.out.c4; have c5 := HX3.out.c5; have ff := HX3.out.f 3
  have hzk : w.heap.size < w3.heap.size := by have := HZ3.out; omega
  go_wp2_with (at_builtin; refine wpList_append_copy (k := .i64) rfl _ _ 24 3 rfl k0 8 Tryd.underlying24 ki kz0 kz1 kz2 h.ac h.cc s.cs (by simp [Act.eval]) rfl (HR.out.fc.mono (HB3.out.setCell (p := ⟨w.heap.size, 3, Option.none⟩) (by simp) _) (Nat.le_refl _)) nc (by unfold maxLen; omega) (by omega) ?_)
  intro v4 w4 ho4 hb4
  obtain ⟨a4, p4, rfl⟩ := own_slice ho4
  have HB4 : Hid (RowKit.Below w.heap.size w w4) := Lib.hid ((HB3.out.setCell (p := ⟨w.heap.size, 3, Option.none⟩) (by simp) (.slice a3 s.vs.length p3)).trans (hb4.mono (by have := HZ3.out; omega)))
  have HX4 := Lib.hid ((HX3.out.set3 (.slice a3 s.vs.length p3)).below hb4 (by have := HZ3.out; omega))
  have HD4 := Lib.hid ((HD3.out.other ⟨w.heap.size, 3, Option.none⟩ (.slice a3 s.vs.length p3) (by simp)).below hb4 (by have := HZ3.out; omega))
  have HZ4 : Hid (w.heap.size + 2 ≤ w4.heap.size ∧ w3.heap.size ≤ w4.heap.size) := Lib.hid (by have h1 := hb4.size; have h2 := HZ3.out; simp only [World.size_setCell] at h1; omega)
  have HO4 := Lib.hid (And.intro (owns_below (own_set HO3.out.1 ⟨w.heap.size, 3, Option.none⟩ (.slice a3 s.vs.length p3) (by show w.heap.size < w.heap.size + 1 + 1; omega)) (by simpa using hb4)) (And.intro (owns_below (own_set HO3.out.2.1 ⟨w.heap.size, 3, Option.none⟩ (.slice a3 s.vs.length p3) (by have := HZ1.out; show w.heap.size < w1.heap.size; omega)) (by simpa using hb4)) (And.intro (owns_below (own_set HO3.out.2.2 ⟨w.heap.size, 3, Option.none⟩ (.slice a3 s.vs.length p3) (by have := HZ2.out; show w.heap.size < w2.heap.size; omega)) (by simpa using hb4)) (ho4))))
  clear ho4 hb4 HB3 HX3 HD3
  clear c0 c1 c2 c3 c4 c5 ff hzk
  have c0 := HX4.out.c0; have c1 := HX4.out.c1; have c2 := HX4.out.c2; have c3 := HX4.out.c3; have c4 := HX4.out.c4; have c5 := HX4.out.c5; have ff := HX4.out.f 4
  have d0 := HD4.out.c0; have d1 := HD4.out.c1; have d2 := HD4.out.c2; have d3 := HD4.out.c3; have d4 := HD4.out.c4; have d5 := HD4.out.c5
  have f0 := HD4.out.f 0; have f1 := HD4.out.f 1; have f2 := HD4.out.f 2; have f3 := HD4.out.f 3; have f4 := HD4.out.f 4; have f5 := HD4.out.f 5
  clear hi hz0 hz1 hz2 gi gz0 gz1 gz2 ki kz0 kz1 kz2 nw nk nv nc
  go_wp2
  refine bodyPost_ret (v := sval s ⟨a1, p1, a2, p2, a3, p3, a4, p4⟩) (by unfold sval; simp [results, Tryd.results10, go_sem, *]) rfl ⟨⟨a1, p1, a2, p2, a3, p3, a4, p4⟩, by unfold sval; rfl, ?_, ?_⟩
  · obtain ⟨o1, o2, o3, o4⟩ := HO4.out
    have z1 := HZ1.out
    have l1 := own_lt HO1.out
    have l2 := own_lt HO2.out.2
    have l3 := own_lt HO3.out.2.2
    have l4 := own_lt o4
    have z2 := HZ2.out.2
    have z3 := HZ3.out.2
    have z4 := HZ4.out.2
    have S1 : ∀ {b n : Nat} {e : TypeId} {v : Value} {xs : List Value}, w.heap.size + 2 ≤ b → w4.ownsRow b e 1 v n xs → (((((((w4.setCell ⟨w.heap.size, 4, Option.none⟩ (.slice a4 s.cs.length p4)).setCell ⟨w.heap.size + 1, 0, Option.none⟩ (.int .i64 s.seg)).setCell ⟨w.heap.size + 1, 1, Option.none⟩ (.slice a1 s.ws.length p1)).setCell ⟨w.heap.size + 1, 2, Option.none⟩ (.slice a2 s.ks.length p2)).setCell ⟨w.heap.size + 1, 3, Option.none⟩ (.slice a3 s.vs.length p3)).setCell ⟨w.heap.size + 1, 4, Option.none⟩ (.slice a4 s.cs.length p4)).setCell ⟨w.heap.size + 1, 5, Option.none⟩ (.int .u64 s.laid)).ownsRow w.heap.size e 1 v n xs := fun {b n e v xs} hb h => by
      have : ∀ (w9 : World) (p : Addr) (u : Value), p.block ≤ w.heap.size + 1 → w9.ownsRow b e 1 v n xs → (w9.setCell p u).ownsRow b e 1 v n xs := fun w9 p u hp h => own_set h p u (by omega)
      exact World.ownsRow.mono (this _ _ _ (by simp) (this _ _ _ (by simp) (this _ _ _ (by simp) (this _ _ _ (by simp) (this _ _ _ (by simp) (this _ _ _ (by simp) (this _ _ _ (by simp) h))))))) (by omega)
    refine ⟨S1 (by omega) o1, S1 (by omega) o2, S1 (by omega) o3, S1 (by omega) o4, ?_, ?_, ?_, ?_, ?_, ?_, ?_, ?_, ?_, ?_⟩
    · intro k hk; have := l1 k hk; simp; omega
    · intro k hk; have := l2 k hk; simp; omega
    · intro k hk; have := l3 k hk; simp; omega
    · intro k hk; have := l4 k hk; simp; omega
    · exact Ap.of (n := w1.heap.size) (fun k hk => (l1 k hk).2) (fun k hk => (l2 k hk).1)
    · exact Ap.of (n := w1.heap.size) (fun k hk => (l1 k hk).2) (fun k hk => Nat.le_trans z2 (l3 k hk).1)
    · exact Ap.of (n := w1.heap.size) (fun k hk => (l1 k hk).2) (fun k hk => Nat.le_trans z2 (Nat.le_trans z3 (l4 k hk).1))
    · exact Ap.of (n := w2.heap.size) (fun k hk => (l2 k hk).2) (fun k hk => (l3 k hk).1)
    · exact Ap.of (n := w2.heap.size) (fun k hk => (l2 k hk).2) (fun k hk => Nat.le_trans z3 (l4 k hk).1)
    · exact Ap.of (n := w3.heap.size) (fun k hk => (l3 k hk).2) (fun k hk => (l4 k hk).1)
  · exact ((((((HB4.out.setCell (by simp) _).setCell (by simp) _).setCell (by simp) _).setCell (by simp) _).setCell (by simp) _).setCell (by simp) _).setCell (by simp) _
end Go.Proofs.YthkhideonceibaaDoor.Slo

namespace Go.Proofs.YthkhideonceibaaDoor.Slo
open Go.RowKit Go.Shelf Go.Proofs.YthkhideonceibaaDoor Go.Proofs.YthkhideonceibaaDoor.Occ Go.Proofs.YthkhideonceibaaDoor.Frac

structure Brr (w : World) (lo p : Nat) (s : Sl) (h : Hd) : Prop where
  own : SOwn w lo w.heap.size s h
  low : p < lo
  hl : lo ≤ w.heap.size
  box : BoxC w p (.int .i64 s.seg) (.slice h.aw s.ws.length h.cw) (.slice h.ak s.ks.length h.ck) (.slice h.av s.vs.length h.cv) (.slice h.ac s.cs.length h.cc) (.int .u64 s.laid)
theorem Brr.below {w w' : World} {lo p : Nat} {s : Sl} {h : Hd} (B : Brr w lo p s h) (hb : Below w.heap.size w w') : Brr w' lo p s h :=
  ⟨(B.own.below hb).mono (Nat.le_refl _) hb.size, B.low, Nat.le_trans B.hl hb.size, B.box.below hb (Nat.lt_of_lt_of_le B.low B.hl)⟩
/-- A store into another block ahead of the rows. -/
theorem Brr.other {w : World} {lo p : Nat} {s : Sl} {h : Hd} (B : Brr w lo p s h) (q : Addr) (u : Value) (h1 : q.block ≠ p) (h2 : q.block < lo) : Brr (w.setCell q u) lo p s h :=
  ⟨(B.own.set_low q u h2).mono (Nat.le_refl _) (by simp), B.low, by simpa using B.hl, B.box.other q u h1⟩
theorem Brr.set_w {w : World} {lo p : Nat} {s : Sl} {h : Hd} (B : Brr w lo p s h) {g j : Nat} (x : Int) (hg : h.aw = some ⟨g, 0, Option.none⟩) : Brr (w.setCell ⟨g, j, Option.none⟩ (.int .u64 x)) lo p { s with ws := s.ws.set j x } h := by
  have o := B.own
  have hn : ∀ a, Ap h.aw a → bl a ≠ some g := fun a ha => ha g (by rw [hg]; rfl)
  have hlo := (own_lt o.ow g (by rw [hg]; rfl)).1
  have ow := o.ow
  rw [hg] at ow
  have bx := B.box.other ⟨g, j, Option.none⟩ (.int .u64 x) (by show g ≠ p; have := B.low; omega)
  refine ⟨⟨?_, own_other o.ok _ _ (hn _ o.wk), own_other o.ov _ _ (hn _ o.wv), own_other o.oc _ _ (hn _ o.wc), (by simpa using o.hw), (by simpa using o.hk), (by simpa using o.hv), (by simpa using o.hc), o.wk, o.wv, o.wc, o.kv, o.kc, o.vc⟩, B.low, by simpa using B.hl, ?_⟩
  · show World.ownsRow _ _ _ _ (.slice h.aw (s.ws.set j x).length h.cw) (s.ws.set j x).length (numsK .u64 (s.ws.set j x))
    rw [hg, List.length_set, numsK_set]; exact (ow.stored j _).1
  · simpa using bx
theorem Brr.set_k {w : World} {lo p : Nat} {s : Sl} {h : Hd} (B : Brr w lo p s h) {g j : Nat} (x : Int) (hg : h.ak = some ⟨g, 0, Option.none⟩) : Brr (w.setCell ⟨g, j, Option.none⟩ (.int .i64 x)) lo p { s with ks := s.ks.set j x } h := by
  have o := B.own
  have hn : ∀ a, Ap h.ak a → bl a ≠ some g := fun a ha => ha g (by rw [hg]; rfl)
  have hlo := (own_lt o.ok g (by rw [hg]; rfl)).1
  have ow := o.ok
  rw [hg] at ow
  have bx := B.box.other ⟨g, j, Option.none⟩ (.int .i64 x) (by show g ≠ p; have := B.low; omega)
  refine ⟨⟨own_other o.ow _ _ (hn _ o.wk.symm), ?_, own_other o.ov _ _ (hn _ o.kv), own_other o.oc _ _ (hn _ o.kc), (by simpa using o.hw), (by simpa using o.hk), (by simpa using o.hv), (by simpa using o.hc), o.wk, o.wv, o.wc, o.kv, o.kc, o.vc⟩, B.low, by simpa using B.hl, ?_⟩
  · show World.ownsRow _ _ _ _ (.slice h.ak (s.ks.set j x).length h.ck) (s.ks.set j x).length (numsK .i64 (s.ks.set j x))
    rw [hg, List.length_set, numsK_set]; exact (ow.stored j _).1
  · simpa using bx
theorem Brr.set_v {w : World} {lo p : Nat} {s : Sl} {h : Hd} (B : Brr w lo p s h) {g j : Nat} (x : Int) (hg : h.av = some ⟨g, 0, Option.none⟩) : Brr (w.setCell ⟨g, j, Option.none⟩ (.int .i64 x)) lo p { s with vs := s.vs.set j x } h := by
  have o := B.own
  have hn : ∀ a, Ap h.av a → bl a ≠ some g := fun a ha => ha g (by rw [hg]; rfl)
  have hlo := (own_lt o.ov g (by rw [hg]; rfl)).1
  have ow := o.ov
  rw [hg] at ow
  have bx := B.box.other ⟨g, j, Option.none⟩ (.int .i64 x) (by show g ≠ p; have := B.low; omega)
  refine ⟨⟨own_other o.ow _ _ (hn _ o.wv.symm), own_other o.ok _ _ (hn _ o.kv.symm), ?_, own_other o.oc _ _ (hn _ o.vc), (by simpa using o.hw), (by simpa using o.hk), (by simpa using o.hv), (by simpa using o.hc), o.wk, o.wv, o.wc, o.kv, o.kc, o.vc⟩, B.low, by simpa using B.hl, ?_⟩
  · show World.ownsRow _ _ _ _ (.slice h.av (s.vs.set j x).length h.cv) (s.vs.set j x).length (numsK .i64 (s.vs.set j x))
    rw [hg, List.length_set, numsK_set]; exact (ow.stored j _).1
  · simpa using bx
theorem Brr.set_c {w : World} {lo p : Nat} {s : Sl} {h : Hd} (B : Brr w lo p s h) {g j : Nat} (x : Int) (hg : h.ac = some ⟨g, 0, Option.none⟩) : Brr (w.setCell ⟨g, j, Option.none⟩ (.int .i64 x)) lo p { s with cs := s.cs.set j x } h := by
  have o := B.own
  have hn : ∀ a, Ap h.ac a → bl a ≠ some g := fun a ha => ha g (by rw [hg]; rfl)
  have hlo := (own_lt o.oc g (by rw [hg]; rfl)).1
  have ow := o.oc
  rw [hg] at ow
  have bx := B.box.other ⟨g, j, Option.none⟩ (.int .i64 x) (by show g ≠ p; have := B.low; omega)
  refine ⟨⟨own_other o.ow _ _ (hn _ o.wc.symm), own_other o.ok _ _ (hn _ o.kc.symm), own_other o.ov _ _ (hn _ o.vc.symm), ?_, (by simpa using o.hw), (by simpa using o.hk), (by simpa using o.hv), (by simpa using o.hc), o.wk, o.wv, o.wc, o.kv, o.kc, o.vc⟩, B.low, by simpa using B.hl, ?_⟩
  · show World.ownsRow _ _ _ _ (.slice h.ac (s.cs.set j x).length h.cc) (s.cs.set j x).length (numsK .i64 (s.cs.set j x))
    rw [hg, List.length_set, numsK_set]; exact (ow.stored j _).1
  · simpa using bx
theorem Brr.set_laid {w : World} {lo p : Nat} {s : Sl} {h : Hd} (B : Brr w lo p s h) (x : Int) : Brr (w.setCell ⟨p, 5, Option.none⟩ (.int .u64 x)) lo p { s with laid := x } h := by
  have o := (B.own.set_low ⟨p, 5, Option.none⟩ (.int .u64 x) B.low).mono (Nat.le_refl _) (show w.heap.size ≤ (w.setCell ⟨p, 5, Option.none⟩ (.int .u64 x)).heap.size by simp)
  exact ⟨⟨o.ow, o.ok, o.ov, o.oc, o.hw, o.hk, o.hv, o.hc, o.wk, o.wv, o.wc, o.kv, o.kc, o.vc⟩, B.low, by simpa using B.hl, B.box.set5 _⟩
/-- New words. -/
theorem Brr.put_w {w w' : World} {lo p : Nat} {s : Sl} {h : Hd} (B : Brr w lo p s h) {a : Option Addr} {c : Nat} {ws : List Int} (hb : Below w.heap.size w w') (hl : ws.length = s.ws.length) (hw : w'.ownsRow w.heap.size 25 1 (.slice a ws.length c) ws.length (numsK .u64 ws)) :
    Brr (w'.setCell ⟨p, 1, Option.none⟩ (.slice a ws.length c)) lo p { s with ws := ws } { h with aw := a, cw := c } := by
  have o := B.own.below hb
  have lt := own_lt hw
  have l := B.hl
  have m : ∀ {b n : Nat} {e : TypeId} {v : Value} {xs : List Value}, lo ≤ b → w'.ownsRow b e 1 v n xs → (w'.setCell ⟨p, 1, Option.none⟩ (.slice a ws.length c)).ownsRow lo e 1 v n xs := fun {b n e v xs} hb2 h => World.ownsRow.mono (own_set h ⟨p, 1, Option.none⟩ _ (by have := B.low; show p < b; omega)) hb2
  have z := hb.size
  have f : ∀ {x : Option Addr}, (∀ k, bl x = some k → k < w.heap.size) → Ap a x := fun {x} hx k h1 h2 => by have := lt k h1; have := hx k h2; omega
  refine ⟨⟨m l hw, m (Nat.le_refl _) o.ok, m (Nat.le_refl _) o.ov, m (Nat.le_refl _) o.oc, fun k hk => by have := lt k hk; simp; omega, fun k hk => by have := o.hk k hk; simp; omega, fun k hk => by have := o.hv k hk; simp; omega, fun k hk => by have := o.hc k hk; simp; omega, f o.hk, f o.hv, f o.hc, o.kv, o.kc, o.vc⟩, B.low, by simp; omega, ?_⟩
  exact (B.box.below hb (by have := B.low; omega)).set1 _
end Go.Proofs.YthkhideonceibaaDoor.Slo

namespace Go.Proofs.YthkhideonceibaaDoor.Slo
open Go.RowKit Go.Shelf Go.Proofs.YthkhideonceibaaDoor Go.Proofs.YthkhideonceibaaDoor.Occ Go.Proofs.YthkhideonceibaaDoor.Frac
attribute [local go_sem] Oper.semAt_some

theorem own_open {w : World} {lo j c : Nat} {e : TypeId} {k : IntKind} {a : Option Addr} {zs : List Int} (h : w.ownsRow lo e 1 (.slice a zs.length c) zs.length (numsK k zs)) (hj : j < zs.length) :
    ∃ g, a = some ⟨g, 0, Option.none⟩ ∧ w.cell? ⟨g, j, Option.none⟩ = some (.int k (zs.getD j 0)) ∧ w.frozen? ⟨g, j, Option.none⟩ = false ∧ lo ≤ g := by
  obtain ⟨g, c1, e1, l1, _⟩ := owns_form h (by omega)
  simp only [Value.slice.injEq] at e1
  have h2 := h
  rw [e1.1] at h2
  exact ⟨g, e1.1, by rw [h2.cellAt j (by omega), numsK_at hj], h2.frozenAt j, l1⟩

end Go.Proofs.YthkhideonceibaaDoor.Slo

namespace Go.Proofs.YthkhideonceibaaDoor.Slo
open Go.RowKit Go.Shelf Go.Proofs.YthkhideonceibaaDoor Go.Proofs.YthkhideonceibaaDoor.Occ Go.Proofs.YthkhideonceibaaDoor.Frac
attribute [local go_sem] Oper.semAt_some

/-- A struct is laid into a block. -/
def stS (W : World) (p : Nat) (s : Sl) (h : Hd) : World :=
  (((((W.setCell ⟨p, 0, Option.none⟩ (.int .i64 s.seg)).setCell ⟨p, 1, Option.none⟩ (.slice h.aw s.ws.length h.cw)).setCell ⟨p, 2, Option.none⟩ (.slice h.ak s.ks.length h.ck)).setCell ⟨p, 3, Option.none⟩ (.slice h.av s.vs.length h.cv)).setCell ⟨p, 4, Option.none⟩ (.slice h.ac s.cs.length h.cc)).setCell ⟨p, 5, Option.none⟩ (.int .u64 s.laid)
theorem stS_fold (W : World) (p : Nat) (s : Sl) (h : Hd) :
  (((((W.setCell ⟨p, 0, Option.none⟩ (.int .i64 s.seg)).setCell ⟨p, 1, Option.none⟩ (.slice h.aw s.ws.length h.cw)).setCell ⟨p, 2, Option.none⟩ (.slice h.ak s.ks.length h.ck)).setCell ⟨p, 3, Option.none⟩ (.slice h.av s.vs.length h.cv)).setCell ⟨p, 4, Option.none⟩ (.slice h.ac s.cs.length h.cc)).setCell ⟨p, 5, Option.none⟩ (.int .u64 s.laid) = stS W p s h := rfl
theorem stS_size (W : World) (p : Nat) (s : Sl) (h : Hd) : (stS W p s h).heap.size = W.heap.size := by simp [stS]
theorem stS_below {n p : Nat} {w W : World} {s : Sl} {h : Hd} (hb : Below n w W) (hp : n ≤ p) : Below n w (stS W p s h) := (((((hb.setCell hp _).setCell hp _).setCell hp _).setCell hp _).setCell hp _).setCell hp _
theorem stS_own {W : World} {p lo hi : Nat} {s o : Sl} {h i : Hd} (hO : SOwn W lo hi o i) (hl : p < lo) : SOwn (stS W p s h) lo hi o i := (((((hO.set_low _ _ hl).set_low _ _ hl).set_low _ _ hl).set_low _ _ hl).set_low _ _ hl).set_low _ _ hl
theorem stS_box {W : World} {p : Nat} {s : Sl} {h : Hd} {v0 v1 v2 v3 v4 v5 : Value} (hX : BoxC W p v0 v1 v2 v3 v4 v5) : BoxC (stS W p s h) p (.int .i64 s.seg) (.slice h.aw s.ws.length h.cw) (.slice h.ak s.ks.length h.ck) (.slice h.av s.vs.length h.cv) (.slice h.ac s.cs.length h.cc) (.int .u64 s.laid) :=
  (((((hX.set0 _).set1 _).set2 _).set3 _).set4 _).set5 _
theorem stS_other {W : World} {p b : Nat} {s : Sl} {h : Hd} {v0 v1 v2 v3 v4 v5 : Value} (hX : BoxC W b v0 v1 v2 v3 v4 v5) (hp : p ≠ b) : BoxC (stS W p s h) b v0 v1 v2 v3 v4 v5 :=
  (((((hX.other _ _ hp).other _ _ hp).other _ _ hp).other _ _ hp).other _ _ hp).other _ _ hp
theorem stS_res {W : World} {p b : Nat} {s : Sl} {h : Hd} {x y : Int} (R : Res W b x y) (hp : p ≠ b) : Res (stS W p s h) b x y :=
  (((((R.set _ _ hp).set _ _ hp).set _ _ hp).set _ _ hp).set _ _ hp).set _ _ hp
theorem stS_brr {W : World} {p lo : Nat} {s : Sl} {h : Hd} {v0 v1 v2 v3 v4 v5 : Value} (hO : SOwn W lo W.heap.size s h) (hX : BoxC W p v0 v1 v2 v3 v4 v5) (hl : p < lo) (hz : lo ≤ W.heap.size) : Brr (stS W p s h) lo p s h :=
  ⟨(stS_own hO hl).mono (Nat.le_refl _) (by rw [stS_size]; exact Nat.le_refl _), hl, by rw [stS_size]; exact hz, stS_box hX⟩
theorem Brr.st {W : World} {p b lo : Nat} {s o : Sl} {h i : Hd} (B : Brr W lo p s h) (h1 : b ≠ p) (h2 : b < lo) : Brr (stS W b o i) lo p s h :=
  ⟨(stS_own B.own h2).mono (Nat.le_refl _) (by rw [stS_size]; exact Nat.le_refl _), B.low, by rw [stS_size]; exact B.hl, stS_other B.box h1⟩
/-- The zero struct in a block. -/
abbrev BoxZ (W : World) (b : Nat) : Prop := BoxC W b (.int .i64 0) (.slice Option.none 0 0) (.slice Option.none 0 0) (.slice Option.none 0 0) (.slice Option.none 0 0) (.int .u64 0)
/-- A gapped array's struct in a block. -/
abbrev BoxS (W : World) (b : Nat) (s : Sl) (h : Hd) : Prop := BoxC W b (.int .i64 s.seg) (.slice h.aw s.ws.length h.cw) (.slice h.ak s.ks.length h.ck) (.slice h.av s.vs.length h.cv) (.slice h.ac s.cs.length h.cc) (.int .u64 s.laid)
theorem Hd.eta (h : Hd) (a : Option Addr) (c : Nat) : ({ h with aw := a, cw := c } : Hd) = ⟨a, c, h.ak, h.ck, h.av, h.cv, h.ac, h.cc⟩ := rfl

/-- The world ahead of With's walk: a struct, a pair, a zero struct. -/
def withW (w : World) (s : Sl) (h : Hd) (x y : Int) : World :=
  ((w.alloc (.cells #[.int .i64 s.seg, .slice h.aw s.ws.length h.cw, .slice h.ak s.ks.length h.ck, .slice h.av s.vs.length h.cv, .slice h.ac s.cs.length h.cc, .int .u64 s.laid] 27)).alloc (.cells #[.int .i64 x, .int .i64 y] 38)).alloc (.cells #[.int .i64 0, .slice Option.none 0 0, .slice Option.none 0 0, .slice Option.none 0 0, .slice Option.none 0 0, .int .u64 0] 27)
theorem withW_fold (w : World) (s : Sl) (h : Hd) (x y : Int) :
  ((w.alloc (.cells #[.int .i64 s.seg, .slice h.aw s.ws.length h.cw, .slice h.ak s.ks.length h.ck, .slice h.av s.vs.length h.cv, .slice h.ac s.cs.length h.cc, .int .u64 s.laid] 27)).alloc (.cells #[.int .i64 x, .int .i64 y] 38)).alloc (.cells #[.int .i64 0, .slice Option.none 0 0, .slice Option.none 0 0, .slice Option.none 0 0, .slice Option.none 0 0, .int .u64 0] 27) = withW w s h x y := rfl
theorem withW_size (w : World) (s : Sl) (h : Hd) (x y : Int) : (withW w s h x y).heap.size = w.heap.size + 3 := by simp [withW]
theorem withW_below (w : World) (s : Sl) (h : Hd) (x y : Int) : Below w.heap.size w (withW w s h x y) := (((Below.refl _ w).alloc (Nat.le_refl _) _).alloc (by simp) _).alloc (by simp; omega) _
theorem withW_box (w : World) (s : Sl) (h : Hd) (x y : Int) : BoxS (withW w s h x y) w.heap.size s h :=
  (BoxC.new w _ _ _ _ _ _ _).below (m := w.heap.size + 1) (((Below.refl _ _).alloc (by simp) _).alloc (by simp) _) (by omega)
theorem withW_res (w : World) (s : Sl) (h : Hd) (x y : Int) : Res (withW w s h x y) (w.heap.size + 1) x y := by
  unfold withW
  generalize ha : w.alloc (.cells #[.int .i64 s.seg, .slice h.aw s.ws.length h.cw, .slice h.ak s.ks.length h.ck, .slice h.av s.vs.length h.cv, .slice h.ac s.cs.length h.cc, .int .u64 s.laid] 27) = wa
  have sa : wa.heap.size = w.heap.size + 1 := by rw [← ha]; simp
  have r := (Res.new wa x y 38).below (n := wa.heap.size + 1) ((Below.refl _ _).alloc (by simp) (.cells #[.int .i64 0, .slice Option.none 0 0, .slice Option.none 0 0, .slice Option.none 0 0, .slice Option.none 0 0, .int .u64 0] 27)) (by omega)
  rwa [sa] at r
theorem withW_zero (w : World) (s : Sl) (h : Hd) (x y : Int) : BoxZ (withW w s h x y) (w.heap.size + 2) := by
  have := BoxC.new ((w.alloc (.cells #[.int .i64 s.seg, .slice h.aw s.ws.length h.cw, .slice h.ak s.ks.length h.ck, .slice h.av s.vs.length h.cv, .slice h.ac s.cs.length h.cc, .int .u64 s.laid] 27)).alloc (.cells #[.int .i64 x, .int .i64 y] 38)) (.int .i64 0) (.slice Option.none 0 0) (.slice Option.none 0 0) (.slice Option.none 0 0) (.slice Option.none 0 0) (.int .u64 0) 27
  simp only [World.size_alloc] at this
  exact this

end Go.Proofs.YthkhideonceibaaDoor.Slo

namespace Go.Proofs.YthkhideonceibaaDoor.Slo
open Go.RowKit Go.Shelf Go.Proofs.YthkhideonceibaaDoor Go.Proofs.YthkhideonceibaaDoor.Occ Go.Proofs.YthkhideonceibaaDoor.Frac
attribute [local go_sem] Oper.semAt_some

/-- A struct in a box, and a second new block. -/
def twoW (w : World) (s : Sl) (h : Hd) (o : Obj) : World :=
  (w.alloc (.cells #[.int .i64 s.seg, .slice h.aw s.ws.length h.cw, .slice h.ak s.ks.length h.ck, .slice h.av s.vs.length h.cv, .slice h.ac s.cs.length h.cc, .int .u64 s.laid] 27)).alloc o
theorem twoW_fold (w : World) (s : Sl) (h : Hd) (o : Obj) :
  (w.alloc (.cells #[.int .i64 s.seg, .slice h.aw s.ws.length h.cw, .slice h.ak s.ks.length h.ck, .slice h.av s.vs.length h.cv, .slice h.ac s.cs.length h.cc, .int .u64 s.laid] 27)).alloc o = twoW w s h o := rfl
theorem twoW_size (w : World) (s : Sl) (h : Hd) (o : Obj) : (twoW w s h o).heap.size = w.heap.size + 2 := by simp [twoW]
theorem twoW_below (w : World) (s : Sl) (h : Hd) (o : Obj) : Below w.heap.size w (twoW w s h o) := ((Below.refl _ w).alloc (Nat.le_refl _) _).alloc (by simp) _
theorem twoW_box (w : World) (s : Sl) (h : Hd) (o : Obj) : BoxS (twoW w s h o) w.heap.size s h :=
  (BoxC.new w _ _ _ _ _ _ _).below (m := w.heap.size + 1) ((Below.refl _ _).alloc (by simp) _) (by omega)
theorem twoW_res (w : World) (s : Sl) (h : Hd) (x y : Int) : Res (twoW w s h (.cells #[.int .i64 x, .int .i64 y] 38)) (w.heap.size + 1) x y := by
  have r := Res.new (w.alloc (.cells #[.int .i64 s.seg, .slice h.aw s.ws.length h.cw, .slice h.ak s.ks.length h.ck, .slice h.av s.vs.length h.cv, .slice h.ac s.cs.length h.cc, .int .u64 s.laid] 27)) x y 38
  simp only [World.size_alloc] at r
  exact r
theorem twoW_zero (w : World) (s : Sl) (h : Hd) : BoxZ (twoW w s h (.cells #[.int .i64 0, .slice Option.none 0 0, .slice Option.none 0 0, .slice Option.none 0 0, .slice Option.none 0 0, .int .u64 0] 27)) (w.heap.size + 1) := by
  have r := BoxC.new (w.alloc (.cells #[.int .i64 s.seg, .slice h.aw s.ws.length h.cw, .slice h.ak s.ks.length h.ck, .slice h.av s.vs.length h.cv, .slice h.ac s.cs.length h.cc, .int .u64 s.laid] 27)) (.int .i64 0) (.slice Option.none 0 0) (.slice Option.none 0 0) (.slice Option.none 0 0) (.slice Option.none 0 0) (.int .u64 0) 27
  simp only [World.size_alloc] at r
  exact r
/-- A pair is laid into a block. -/
def stP (W : World) (p : Nat) (x y : Int) : World := (W.setCell ⟨p, 0, Option.none⟩ (.int .i64 x)).setCell ⟨p, 1, Option.none⟩ (.int .i64 y)
theorem stP_fold (W : World) (p : Nat) (x y : Int) : (W.setCell ⟨p, 0, Option.none⟩ (.int .i64 x)).setCell ⟨p, 1, Option.none⟩ (.int .i64 y) = stP W p x y := rfl
theorem stP_size (W : World) (p : Nat) (x y : Int) : (stP W p x y).heap.size = W.heap.size := by simp [stP]
theorem stP_below {n p : Nat} {w W : World} {x y : Int} (hb : Below n w W) (hp : n ≤ p) : Below n w (stP W p x y) := (hb.setCell hp _).setCell hp _
theorem stP_res {W : World} {p : Nat} {x y x' y' : Int} (R : Res W p x' y') : Res (stP W p x y) p x y := by
  have n1 : (⟨p, 0, Option.none⟩ : Addr) ≠ ⟨p, 1, Option.none⟩ := by simp
  refine ⟨?_, ?_, fun j => by simp only [stP, World.frozen?_setCell]; exact R.f j⟩
  · exact (World.cell?_setCell_other _ _ _ _ n1.symm).trans (World.cell?_setCell_same _ _ _ R.a0)
  · exact World.cell?_setCell_same _ _ _ ((World.cell?_setCell_other _ _ _ _ n1).trans R.a1)
theorem stP_box {W : World} {p b : Nat} {x y : Int} {v0 v1 v2 v3 v4 v5 : Value} (hX : BoxC W b v0 v1 v2 v3 v4 v5) (hp : p ≠ b) : BoxC (stP W p x y) b v0 v1 v2 v3 v4 v5 := (hX.other _ _ hp).other _ _ hp
theorem stP_own {W : World} {p lo hi : Nat} {o : Sl} {i : Hd} {x y : Int} (hO : SOwn W lo hi o i) (hl : p < lo) : SOwn (stP W p x y) lo hi o i := (hO.set_low _ _ hl).set_low _ _ hl
/-- The zero struct is laid into a block. -/
theorem stZ_fold (W : World) (p : Nat) :
  (((((W.setCell ⟨p, 0, Option.none⟩ (.int .i64 0)).setCell ⟨p, 1, Option.none⟩ (.slice Option.none 0 0)).setCell ⟨p, 2, Option.none⟩ (.slice Option.none 0 0)).setCell ⟨p, 3, Option.none⟩ (.slice Option.none 0 0)).setCell ⟨p, 4, Option.none⟩ (.slice Option.none 0 0)).setCell ⟨p, 5, Option.none⟩ (.int .u64 0) = stS W p noneS noneH := rfl

theorem askS_none {s : Sl} {b : Bool} (h : okS s = false) : askS s b = 8 := by unfold askS; rw [h]; rfl
theorem askS_out {s : Sl} (h : okS s = true) : askS s false = 2 := by unfold askS; rw [h]; rfl
theorem askS_in {s : Sl} (h : okS s = true) : askS s true = 0 := by unfold askS; rw [h]; rfl
theorem rd_at {k : IntKind} {w : World} {a : Option Addr} {zs : List Int} {i : Nat} (h : Rd k w a zs) (hi : i < zs.length) : ∃ b off, a = some ⟨b, off, Option.none⟩ ∧ b < w.heap.size ∧ w.cell? ⟨b, off + i, Option.none⟩ = some (.int k (zs.getD i 0)) := by
  rcases h with h | ⟨b, off, ha, hlt, hc⟩
  · subst h; simp at hi
  · exact ⟨b, off, ha, hlt, hc i hi⟩

end Go.Proofs.YthkhideonceibaaDoor.Slo

namespace Go.Proofs.YthkhideonceibaaDoor.Slo
open Go.RowKit Go.Shelf Go.Sort Go.Proofs.YthkhideonceibaaDoor Go.Proofs.YthkhideonceibaaDoor.Occ Go.Proofs.YthkhideonceibaaDoor.Frac
attribute [local go_sem] Oper.semAt_some

theorem BoxC.al {W : World} {b : Nat} {v0 v1 v2 v3 v4 v5 : Value} (h : BoxC W b v0 v1 v2 v3 v4 v5) {o : Obj} (hb : b < W.heap.size) : BoxC (W.alloc o) b v0 v1 v2 v3 v4 v5 := h.below ((Below.refl _ W).alloc (Nat.le_refl _) o) hb
theorem HNo.of {w : World} {lo hi : Nat} {s : Sl} {h : Hd} (o : SOwn w lo hi s h) : HNo h := o.no
end Go.Proofs.YthkhideonceibaaDoor.Slo
