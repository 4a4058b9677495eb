/- Contracts of package occ: Last. -/
import Derived.Test.YtnfjabohnjbgbaaDoorOcc13
namespace Go.Proofs.YtnfjabohnjbgbaaDoor.Occ
open Go.RowKit Go.Shelf Go.Proofs.YtnfjabohnjbgbaaDoor
attribute [local go_sem] Oper.semAt_some

theorem endV_snoc (l : List Nat) (x : Nat) : endV (l ++ [x]) = ((x : Int), 0) := by unfold endV; simp
theorem endV_app (l r : List Nat) (x : Nat) : endV (l ++ (r ++ [x])) = ((x : Int), 0) := by rw [← List.append_assoc]; exact endV_snoc _ _
/-- What has been told till now. -/
def LastAt (ws : List Int) (t n0 : Nat) (pre : List Nat) (W : World) : Prop :=
  ∃ y z, endV (bI ws 0 t pre) = (y, z) ∧ W.cell? ⟨n0, 0, Option.none⟩ = some (.int .i64 y) ∧ W.frozen? ⟨n0, 0, Option.none⟩ = false ∧ W.cell? ⟨n0 + 1, 0, Option.none⟩ = some (.int .i64 z) ∧ W.frozen? ⟨n0 + 1, 0, Option.none⟩ = false

set_option maxRecDepth 100000 in
set_option maxHeartbeats 2000000 in
theorem last_ok (a : Option Addr) (ca : Nat) (ws : List Int) (m t : Nat) (w : World) (hu : U64 ws) (hr : Rd .u64 w a ws) (hl : ws.length ≤ 100000) (hv : askV ws m (upB m t) = 0) :
    Calls Tryd.prog 23 #[.slice a ws.length ca, .int .i64 m, .int .i64 t] w fun e w' => e = .returned (.tuple #[.int .i64 (endV (occs ws 0 t)).1, .int .i64 (endV (occs ws 0 t)).2]) ∧ Below w.heap.size w w' := by
  obtain ⟨hc, hb⟩ := askV_ok hv
  obtain ⟨m', hm', hm, hlen, _⟩ := chkV_ok hc
  obtain rfl : m = m' := Int.ofNat_inj.1 hm'
  obtain ⟨h0, h1⟩ := upB_iff.1 hb
  have hft : 0 ≤ t := Nat.zero_le _
  have htl : t ≤ 64 * ws.length := by omega
  have ht16 : t ≤ 65536 := by omega
  have hb0 : Below w.heap.size w ((w.alloc (.cells #[.int .i64 0] 3)).alloc (.cells #[.int .i64 6] 23)) := ((Below.refl _ w).alloc (Nat.le_refl _) _).alloc (by simp) _
  have HA := Lib.hid (asked_any a ca ws m true w hu hr hl)
  rw [hb] at hv
  rw [hv] at HA
  have HU := Lib.hid hu
  have HR := Lib.hid hr
  have HALL := Lib.hid (bI_all ws 0 t hft)
  rw [Nat.sub_zero] at HALL
  have hm2 : (t : Int) ≤ (m : Int) := by omega
  clear hu hr hc hb hlen hv hm' h0 h1
  refine (callsIn_wide (n := 2)).1 ?_
  refine callsIn_of_wp_marks Tryd.func23 rfl trivial ?_ rfl
  simp only [Tryd.ntmps23, List.size_toArray, List.length_cons, List.length_nil, Nat.reduceAdd, Nat.reduceSub, Array.replicate_succ, Array.replicate_zero, List.push_toArray, List.append_toArray, List.nil_append, List.cons_append]
  gi_wp2_with fail
  refine ⟨trivial, (callsIn_wide.2 HA.out).mono ?_⟩
  rintro e w' ⟨rfl, rfl⟩
  gi_wp2_with fail
  refine ⟨trivial, (callsIn_wide.2 (parts_any _ _ _ _ _ _)).mono ?_⟩
  rintro e w' ⟨rfl, rfl⟩
  have bY := (Boxed.new w 3 (.int .i64 0)).alloc (.cells #[.int .i64 6] 23)
  have bM := Boxed.new (w.alloc (.cells #[.int .i64 0] 3)) 23 (.int .i64 6)
  rw [World.size_alloc] at bM
  have hw2 : ((w.alloc (.cells #[.int .i64 0] 3)).alloc (.cells #[.int .i64 6] 23)).heap.size = w.heap.size + 2 := by simp
  generalize (w.alloc (.cells #[.int .i64 0] 3)).alloc (.cells #[.int .i64 6] 23) = w2 at *
  have hst := parts_stops 1 w.heap.size 0 t ca a ws w2 HU.out ((RdN.of HR.out (Nat.le_refl _)).keep hb0) (by omega) hl htl hft
  have hs := boxP_size w2 a ws.length ca (0 : Nat) t
  have hbx := boxP_below w2 a ws.length ca (0 : Nat) t
  have HW2 := Lib.hid hw2
  have HS := Lib.hid hs
  clear hw2 hs
  gi_wp2_with fail
  have hw2 : w2.heap.size ≤ w.heap.size + 2 ∧ w.heap.size + 2 ≤ w2.heap.size := by have := HW2.out; omega
  have hs : (boxP w2 a ws.length ca (0 : Nat) t).heap.size ≤ w2.heap.size + 3 ∧ w2.heap.size + 3 ≤ (boxP w2 a ws.length ca (0 : Nat) t).heap.size := by have := HS.out; omega
  have bY := bY.kept (grown0 hbx) (by simp)
  have bM := bM.kept (grown0 hbx) (by simp)
  have hB3 := hb0.trans (hbx.mono (by omega))
  rw [Int.natCast_zero] at *
  generalize boxP w2 a ws.length ca 0 t = w3 at *
  have hKE := Keeps.b (n0 := w.heap.size) (lo := w2.heap.size) (hi := w2.heap.size + 3) (w := w3) (by omega) (by omega)
  refine rangeFunc_put (fun j => [(29, .int .i64 ((ym ws 0 t j).1 : Int)), (30, .int .u64 ((ym ws 0 t j).2 : Int)), (11, .int .i64 ((ym ws 0 t j).1 : Int)), (12, .int .u64 ((ym ws 0 t j).2 : Int))]) rfl (by decide) (gf := 38) (lb := #[.pointer (some ⟨w2.heap.size, 0, Option.none⟩), .pointer (some ⟨w2.heap.size + 1, 0, Option.none⟩), .pointer (some ⟨w2.heap.size + 2, 0, Option.none⟩)]) rfl trivial (enters_of Tryd.func38 (by kernel_rfl) rfl) hst Keeps.t hKE (Below.refl _ _) (fun _ => rfl)
    (fun pre W => LastAt ws t w.heap.size pre W ∧ Below w.heap.size w W)
    (fun c pre W => False ∧ Below w.heap.size w W)
    (OwnFrom.and (Own.from (fun s A B row hs hg hr => by obtain ⟨y, z, e, h1, h2, h3, h4⟩ := hs; exact ⟨y, z, e, cell_kept h1 hg hr, (frozen_kept h1 hg hr).trans h2, cell_kept h3 hg hr, (frozen_kept h3 hg hr).trans h4⟩) _) (ownFrom_below (Nat.le_refl _) (by omega)))
    (fun c => OwnFrom.and (Own.from (fun s A B row hs hg hr => hs) _) (ownFrom_below (Nat.le_refl _) (by omega)))
    ⟨⟨0, 6, rfl, bY.cell, bY.frozen, bM.cell, bM.frozen⟩, hB3⟩ ?assign ?body ?done ?stop
  case assign =>
    intro l x W K hK
    dsimp only [encJ, encP]
    gi_wp2
    exact hK
  case body =>
    rintro l pre j W ⟨hlast, hB⟩ hN
    have hlt := ym_lt HU.out 0 t j
    have hfi := ym_first ws 0 t j hft
    have HSN := Lib.hid (bI_snoc ws 0 t pre j)
    have HBL := Lib.hid (bl_last (ym ws 0 t j).2 (ym ws 0 t j).1 · hlt)
    have HLZ := Lib.hid (Tryd.bits_LeadingZeros64 ((ym ws 0 t j).2 : Int) W (by omega) (by omega))
    rw [Int.toNat_natCast] at HLZ
    obtain ⟨y0, z0, he, hc, hf, hc2, hf2⟩ := hlast
    have HE := Lib.hid he
    clear he
    have HIX : Hid (∀ (W' : World) (y z : Int), endV (bI ws 0 t (pre ++ [j])) = (y, z) → W'.cell? ⟨w.heap.size, 0, Option.none⟩ = some (.int .i64 y) → W'.frozen? ⟨w.heap.size, 0, Option.none⟩ = false → W'.cell? ⟨w.heap.size + 1, 0, Option.none⟩ = some (.int .i64 z) → W'.frozen? ⟨w.heap.size + 1, 0, Option.none⟩ = false → LastAt ws t w.heap.size (pre ++ [j]) W') := Lib.hid (fun W' y z h0 h1 h2 h3 h4 => ⟨y, z, h0, h1, h2, h3, h4⟩)
    generalize (ym ws 0 t j).2 = x at *
    generalize (ym ws 0 t j).1 = fi at *
    by_cases hx : x = 0
    · subst hx
      have HNIL : Hid (endV (bI ws 0 t (pre ++ [j])) = (y0, z0)) := Lib.hid (by rw [HSN.out, bl_zero, List.append_nil]; exact HE.out)
      gi_wp2
      exact ⟨KeepsFrom.refl _ _, Keeps.refl _ _ _ _, ⟨HIX.out _ _ _ HNIL.out hc hf hc2 hf2, hB⟩⟩
    · obtain ⟨⟨l0, hl0⟩, hz1, hz2⟩ := HBL.out hx
      have hx2 : ((x : Int) != 0) = true := by rw [bne_iff_ne]; omega
      have HEND : Hid (endV (bI ws 0 t (pre ++ [j])) = (((fi + (Lib.bitLen x - 1) : Nat) : Int), 0)) := Lib.hid (by rw [HSN.out, hl0]; exact endV_app _ _ _)
      generalize Lib.bitLen x = z at *
      clear hx hl0
      gi_wp2_with fail
      refine ⟨trivial, rfl, (CallsIn.inRound l (callsIn_wide.2 HLZ.out)).mono ?_⟩
      rintro e w1 ⟨rfl, rfl⟩
      gi_wp2
      have hk1 : Keeps w.heap.size w2.heap.size (w2.heap.size + 3) w1 ((w1.setCell ⟨w.heap.size, 0, Option.none⟩ (.int .i64 ((fi : Int) + 64 - 1 - (64 - (z : Int))))).setCell ⟨w.heap.size + 1, 0, Option.none⟩ (.int .i64 0)) := ((Keeps.refl _ _ _ w1).setCell _ (by simp) (by simp; omega) _).setCell _ (by simp) (by simp; omega) _
      refine ⟨((KeepsOthers.setCell _ _ _).trans (KeepsOthers.setCell _ _ _)).from _, hk1, HIX.out _ _ _ HEND.out ?_ ?_ ?_ ?_, (hB.setCell (by simp) _).setCell (by simp) _⟩
      · rw [World.cell?_setCell_other _ _ _ _ (by simp), World.cell?_setCell_same' _ _ _ (by rw [hc]; rfl)]; congr 2; omega
      · rw [World.frozen?_setCell, World.frozen?_setCell]; exact hf
      · rw [World.cell?_setCell_same' _ _ _ (by rw [World.cell?_setCell_other _ _ _ _ (by simp), hc2]; rfl)]
      · rw [World.frozen?_setCell, World.frozen?_setCell]; exact hf2
  case done =>
    rintro D ys W hD rfl ⟨⟨y0, z0, he, hc, hf, hc2, hf2⟩, hB⟩ hK
    rw [HALL.out] at he
    have HE := Lib.hid he
    clear he
    gi_wp2
    refine wpIn_region_still_tail 3 mixed' (by kernel_rfl) ?_
    simp only [List.take_succ_cons, List.take_zero, List.drop_succ_cons, List.drop_zero]
    repeat still_step
    refine wpStill_nil ?_
    gi_wp2
    refine ⟨by simp, .inl ⟨_, _, rfl, run_takeDeferred (w := W.drew) hK, ?_⟩⟩
    refine ⟨.tuple #[.int .i64 y0, .int .i64 z0], by simp [results, Tryd.results23, go_sem], by rw [HE.out], ?_⟩
    exact hB.drew.trans (belowK_b (w := w) (Nat.le_refl _) W.drew D _ _ (by omega) hK rfl rfl)
  case stop =>
    rintro D c pre W hD hpre ⟨h, hB⟩ hK
    exact h.elim

end Go.Proofs.YtnfjabohnjbgbaaDoor.Occ
