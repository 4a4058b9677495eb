/- Contracts of package occ: Count. -/
import Derived.Test.YtnfjabohnjbgbaaDoorOcc11
import Derived.Stop.RegionWithIn
namespace Go.Proofs.YtnfjabohnjbgbaaDoor.Occ
open Go.RowKit Go.Shelf Go.Proofs.YtnfjabohnjbgbaaDoor
attribute [local go_sem] Oper.semAt_some

set_option maxRecDepth 100000 in
set_option maxHeartbeats 2000000 in
theorem count_ok (a : Option Addr) (ca : Nat) (ws : List Int) (m f t : Nat) (w : World) (hu : U64 ws) (hr : Rd .u64 w a ws) (hl : ws.length ≤ 100000) (hv : askV ws m (inB m f t) = 0) :
    Calls Tryd.prog 9 #[.slice a ws.length ca, .int .i64 m, .int .i64 f, .int .i64 t] w fun e w' => e = .returned (.tuple #[.int .i64 ((occs ws f (t - f)).length : Int), .int .i64 0]) ∧ Below w.heap.size w w' := by
  obtain ⟨hc, hb⟩ := askV_ok hv
  obtain ⟨m', hm', hm, hlen, _⟩ := chkV_ok hc
  obtain rfl : m = m' := Int.ofNat_inj.1 hm'
  obtain ⟨h0, h1, h2⟩ := inB_iff.1 hb
  have hft : f ≤ t := by omega
  have htl : t ≤ 64 * ws.length := by omega
  have hb0 : Below w.heap.size w (w.alloc (.cells #[.int .i64 0] 3)) := (Below.refl _ w).alloc (Nat.le_refl _) _
  have HA := Lib.hid (asked_any a ca ws m true (w.alloc (.cells #[.int .i64 0] 3)) hu (hr.mono hb0 (Nat.le_refl _)) hl)
  rw [hb] at hv
  rw [hv] at HA
  have HU := Lib.hid hu
  have HR := Lib.hid hr
  have HALL := Lib.hid (bI_all ws f t hft)
  have HNY : Hid (ny f t ≤ 100001) := Lib.hid (by unfold ny; omega)
  have hm2 : (f : Int) ≤ (t : Int) := by omega
  have hm3 : (t : Int) ≤ (m : Int) := h2
  clear hu hr hc hb hlen hv hm' h0 h1 h2
  refine (callsIn_wide (n := 2)).1 ?_
  refine callsIn_of_wp_marks Tryd.func9 rfl trivial ?_ rfl
  simp only [Tryd.ntmps9, List.size_toArray, List.length_cons, List.length_nil, Nat.reduceAdd, Nat.reduceSub, Array.replicate_succ, Array.replicate_zero, List.push_toArray, List.append_toArray, List.nil_append, List.cons_append]
  gi_wp2_with fail
  refine ⟨trivial, (callsIn_wide.2 HA.out).mono ?_⟩
  rintro e w' ⟨rfl, rfl⟩
  gi_wp2_with fail
  refine ⟨trivial, (callsIn_wide.2 (parts_any _ _ _ _ _ _)).mono ?_⟩
  rintro e w' ⟨rfl, rfl⟩
  have bM := Boxed.new w 3 (.int .i64 0)
  have hw2 : (w.alloc (.cells #[.int .i64 0] 3)).heap.size = w.heap.size + 1 := by simp
  generalize w.alloc (.cells #[.int .i64 0] 3) = w2 at *
  have hst := parts_stops 1 w.heap.size f t ca a ws w2 HU.out ((RdN.of HR.out (Nat.le_refl _)).keep hb0) (by omega) hl htl hft
  have hs := boxP_size w2 a ws.length ca f t
  have hbx := boxP_below w2 a ws.length ca f t
  have HW2 := Lib.hid hw2
  have HS := Lib.hid hs
  clear hw2 hs
  gi_wp2_with fail
  have hw2 : w2.heap.size ≤ w.heap.size + 1 ∧ w.heap.size + 1 ≤ w2.heap.size := by have := HW2.out; omega
  have hs : (boxP w2 a ws.length ca f t).heap.size ≤ w2.heap.size + 3 ∧ w2.heap.size + 3 ≤ (boxP w2 a ws.length ca f t).heap.size := by have := HS.out; omega
  have bM := bM.kept (grown0 hbx) (by simp)
  have hB3 := hb0.trans (hbx.mono (by omega))
  generalize boxP w2 a ws.length ca f t = w3 at *
  have hKE := Keeps.b (n0 := w.heap.size) (lo := w2.heap.size) (hi := w2.heap.size + 3) (w := w3) (by omega) (by omega)
  refine rangeFunc_put (fun j => [(35, .int .i64 ((ym ws f t j).1 : Int)), (36, .int .u64 ((ym ws f t j).2 : Int)), (12, .int .u64 ((ym ws f t j).2 : Int))]) rfl (by decide) (gf := 38) (lb := #[.pointer (some ⟨w2.heap.size, 0, Option.none⟩), .pointer (some ⟨w2.heap.size + 1, 0, Option.none⟩), .pointer (some ⟨w2.heap.size + 2, 0, Option.none⟩)]) rfl trivial (enters_of Tryd.func38 (by kernel_rfl) rfl) hst Keeps.t hKE (Below.refl _ _) (fun _ => rfl)
    (fun pre W => (W.cell? ⟨w.heap.size, 0, Option.none⟩ = some (.int .i64 (((bI ws f t pre).length : Nat) : Int)) ∧ W.frozen? ⟨w.heap.size, 0, Option.none⟩ = false) ∧ Below w.heap.size w W)
    (fun c pre W => False ∧ Below w.heap.size w W)
    (OwnFrom.and (Own.from (fun s A B row hs hg hr => ⟨cell_kept hs.1 hg hr, (frozen_kept hs.1 hg hr).trans hs.2⟩) _) (ownFrom_below (Nat.le_refl _) (by omega)))
    (fun c => OwnFrom.and (Own.from (fun s A B row hs hg hr => hs) _) (ownFrom_below (Nat.le_refl _) (by omega)))
    ⟨⟨bM.cell, bM.frozen⟩, hB3⟩ ?assign ?body ?done ?stop
  case assign =>
    intro l x W K hK
    dsimp only [encJ, encP]
    gi_wp2
    exact hK
  case body =>
    rintro l pre j W ⟨⟨hc, hf⟩, hB⟩ hN
    have hlt := ym_lt HU.out f t j
    have HSN := Lib.hid (bI_snoc ws f t pre j)
    have HBL := Lib.hid (bl_length (ym ws f t j).2 (ym ws f t j).1)
    have hbn := bI_length (ws := ws) (f := f) (t := t) pre
    have hny := HNY.out
    have hpop : popN (ym ws f t j).2 ≤ 64 := by
      have := HBL.out
      unfold bl at this; rw [List.length_map] at this
      have h3 := List.length_filter_le (fun i => (ym ws f t j).2.testBit i) (List.range 64)
      rw [List.length_range] at h3
      unfold popN; omega
    have HO := Lib.hid (fun w => OnesCount_any (ym ws f t j).2 w hlt)
    have hnew : ((bI ws f t (pre ++ [j])).length : Int) = ((bI ws f t pre).length : Int) + (popN (ym ws f t j).2 : Int) := by
      rw [HSN.out, List.length_append, HBL.out]; unfold popN; omega
    have HNEW := Lib.hid hnew
    clear hnew
    generalize (bI ws f t pre).length = cn at *
    generalize (ym ws f t j).2 = x at *
    generalize (ym ws f t j).1 = fi at *
    generalize popN x = p at *
    have hcn : cn ≤ 6500000 := by omega
    have hwr : IntKind.i64.wrap ((cn : Int) + (p : Int)) = (cn : Int) + (p : Int) := by rw [IntKind.wrap_i64]; omega
    clear hbn hny
    gi_wp2
    gi_region_with (first | (refine ⟨trivial, rfl, (CallsIn.inRound l (callsIn_wide.2 (HO.out _))).mono ?_⟩; rintro e w1 ⟨rfl, rfl⟩))
    all_goals
      gi_wp2
      have hk1 : Keeps w.heap.size w2.heap.size (w2.heap.size + 3) W (W.setCell ⟨w.heap.size, 0, Option.none⟩ (.int .i64 ((cn : Int) + (p : Int)))) := (Keeps.refl _ _ _ W).setCell _ (by simp) (by simp; omega) _
      refine ⟨((KeepsOthers.setCell _ _ _).trans (KeepsOthers.drew _)).from _, hk1.t ⟨(Below.refl _ _).drew, fun _ _ _ => rfl⟩, ⟨⟨?_, ?_⟩, (hB.setCell (by simp) _).drew⟩⟩
      · rw [cell_drew_own, World.cell?_setCell_same' _ _ _ (by rw [hc]; rfl), HNEW.out]
      · rw [frozen_drew_own, World.frozen?_setCell]; exact hf
  case done =>
    rintro D ys W hD rfl ⟨⟨hc, hf⟩, hB⟩ hK
    rw [HALL.out] at hc
    obtain ⟨cn, hcn⟩ : ∃ cn, cn = (occs ws f (t - f)).length := ⟨_, rfl⟩
    rw [← hcn] at hc
    have HCN := Lib.hid hcn
    clear hcn
    gi_wp2
    have hK' := (KeepsOthers.setCell W ⟨w.heap.size, 0, Option.none⟩ (.int .i64 cn)).same D _ hK rfl
    refine ⟨by simp, .inl ⟨_, _, rfl, run_takeDeferred hK', ?_⟩⟩
    have hc5 := cell_kept (World.cell?_setCell_same' W ⟨w.heap.size, 0, Option.none⟩ (.int .i64 cn) (by rw [hc]; rfl)) (grownBy_putObj' _ D (.deferred Option.none)) (fun r e => by cases e; exact ⟨_, hK', rfl⟩)
    refine ⟨.tuple #[.int .i64 cn, .int .i64 0], by simp [results, Tryd.results9, go_sem, hc5], by rw [HCN.out], ?_⟩
    exact (hB.setCell (by simp) _).trans (belowK_b (w := w) (Nat.le_refl _) _ D _ _ (by omega) hK' rfl rfl)
  case stop =>
    rintro D c pre W hD hpre ⟨h, hB⟩ hK
    exact h.elim

set_option maxRecDepth 100000 in
set_option maxHeartbeats 1000000 in
theorem Count_any (a : Option Addr) (ca : Nat) (ws : List Int) (n f t : Int) (w : World) (hu : U64 ws) (hr : Rd .u64 w a ws) (hl : ws.length ≤ 100000) :
    Calls Tryd.prog 9 #[.slice a ws.length ca, .int .i64 n, .int .i64 f, .int .i64 t] w fun e w' => e = .returned (.tuple #[.int .i64 (cntV ws n f t).1, .int .i64 (cntV ws n f t).2]) ∧ Below w.heap.size w w' := by
  by_cases hv : askV ws n (inB n f t) = 0
  · obtain ⟨hc, hb⟩ := askV_ok hv
    obtain ⟨m, rfl, hm, hlen, _⟩ := chkV_ok hc
    obtain ⟨h0, h1, h2⟩ := inB_iff.1 hb
    obtain ⟨f, rfl⟩ := Int.eq_ofNat_of_zero_le h0
    obtain ⟨t, rfl⟩ := Int.eq_ofNat_of_zero_le (show 0 ≤ t by omega)
    rw [show cntV ws (m : Int) (f : Int) (t : Int) = (((occs ws f (t - f)).length : Int), 0) by unfold cntV; rw [if_pos hv, Int.toNat_natCast, show ((t : Int) - (f : Int)).toNat = t - f by omega]]
    exact count_ok a ca ws m f t w hu hr hl hv
  · rw [show cntV ws n f t = (0, askV ws n (inB n f t)) from if_neg hv]
    have hb0 : Below w.heap.size w (w.alloc (.cells #[.int .i64 0] 3)) := (Below.refl _ w).alloc (Nat.le_refl _) _
    have HA1 := Lib.hid (asked_any a ca ws n (inB n f t) (w.alloc (.cells #[.int .i64 0] 3)) hu (hr.mono hb0 (Nat.le_refl _)) hl)
    have HB0 := Lib.hid hb0
    generalize hc : askV ws n (inB n f t) = c at *
    clear hu hr hc hb0
    by_cases h0 : 0 ≤ f
    · by_cases h1 : f ≤ t
      · by_cases h2 : t ≤ n
        · rw [inB_iff.2 ⟨h0, h1, h2⟩] at HA1
          go_enter Tryd.func9, Tryd.ntmps9
          go_wp2_with fail
          refine HA1.out.mono ?_
          rintro e w' ⟨rfl, rfl⟩
          go_wp2
          exact bodyPost_ret (v := .tuple #[.int .i64 0, .int .i64 c]) (by simp [results, Tryd.results9, go_sem]) rfl ⟨rfl, HB0.out⟩
        · rw [show inB n f t = false by rw [Bool.eq_false_iff]; exact fun g => h2 (inB_iff.1 g).2.2] at HA1
          go_enter Tryd.func9, Tryd.ntmps9
          go_wp2_with fail
          refine HA1.out.mono ?_
          rintro e w' ⟨rfl, rfl⟩
          go_wp2
          exact bodyPost_ret (v := .tuple #[.int .i64 0, .int .i64 c]) (by simp [results, Tryd.results9, go_sem]) rfl ⟨rfl, HB0.out⟩
      · rw [show inB n f t = false by rw [Bool.eq_false_iff]; exact fun g => h1 (inB_iff.1 g).2.1] at HA1
        go_enter Tryd.func9, Tryd.ntmps9
        go_wp2_with fail
        refine HA1.out.mono ?_
        rintro e w' ⟨rfl, rfl⟩
        go_wp2
        exact bodyPost_ret (v := .tuple #[.int .i64 0, .int .i64 c]) (by simp [results, Tryd.results9, go_sem]) rfl ⟨rfl, HB0.out⟩
    · rw [show inB n f t = false by rw [Bool.eq_false_iff]; exact fun g => h0 (inB_iff.1 g).1] at HA1
      go_enter Tryd.func9, Tryd.ntmps9
      go_wp2_with fail
      refine HA1.out.mono ?_
      rintro e w' ⟨rfl, rfl⟩
      go_wp2
      exact bodyPost_ret (v := .tuple #[.int .i64 0, .int .i64 c]) (by simp [results, Tryd.results9, go_sem]) rfl ⟨rfl, HB0.out⟩

end Go.Proofs.YtnfjabohnjbgbaaDoor.Occ
