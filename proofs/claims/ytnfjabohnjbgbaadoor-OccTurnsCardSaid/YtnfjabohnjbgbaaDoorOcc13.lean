/- Contracts of package occ: Next. -/
import Derived.Test.YtnfjabohnjbgbaaDoorOcc12
namespace Go.Proofs.YtnfjabohnjbgbaaDoor.Occ
open Go.RowKit Go.Shelf Go.Proofs.YtnfjabohnjbgbaaDoor
attribute [local go_sem] Oper.semAt_some

theorem firstV_cons (x : Nat) (l : List Nat) : firstV (x :: l) = ((x : Int), 0) := by unfold firstV; simp
theorem ctz_le (x : Nat) (h0 : x ≠ 0) (hx : x < 18446744073709551616) : Lib.ctz 64 x < 64 := (Lib.lowest_bit 64 x h0 hx).2
theorem bl_nil {x f : Nat} (hx : x < 18446744073709551616) (h : bl x f = []) : x = 0 := by
  by_cases h0 : x = 0
  · exact h0
  · rw [bl_head x f h0 hx] at h; cases h

/-- A round has said 'no more': the first slot has been found. -/
def NextAt (ws : List Int) (f m n0 : Nat) (c : Code) (pre : List Nat) (W : World) : Prop :=
  ∃ ini j, pre = ini ++ [j] ∧ bI ws f m ini = [] ∧ (ym ws f m j).2 ≠ 0 ∧ c = .ret ∧ W.cell? ⟨n0, 0, Option.none⟩ = some (.int .i64 (((ym ws f m j).1 + Lib.ctz 64 (ym ws f m j).2 : Nat) : Int)) ∧ W.cell? ⟨n0 + 1, 0, Option.none⟩ = some (.int .i64 0)

set_option maxRecDepth 100000 in
set_option maxHeartbeats 2000000 in
theorem next_ok (a : Option Addr) (ca : Nat) (ws : List Int) (m f : Nat) (w : World) (hT : Tab w) (hu : U64 ws) (hr : Rd .u64 w a ws) (hl : ws.length ≤ 100000) (hv : askV ws m (upB m f) = 0) :
    Calls Tryd.prog 21 #[.slice a ws.length ca, .int .i64 m, .int .i64 f] w fun e w' => e = .returned (.tuple #[.int .i64 (firstV (occs ws f (m - f))).1, .int .i64 (firstV (occs ws f (m - f))).2]) ∧ Below w.heap.size w w' := by
  obtain ⟨hc, hb⟩ := askV_ok hv
  obtain ⟨m', hm', hm, hlen, _⟩ := chkV_ok hc
  obtain rfl : m = m' := Int.ofNat_inj.1 hm'
  obtain ⟨h0, h1⟩ := upB_iff.1 hb
  have hft : f ≤ m := by omega
  have htl : m ≤ 64 * ws.length := by omega
  have hb0 : Below w.heap.size w ((w.alloc (.cells #[.int .i64 0] 3)).alloc (.cells #[.int .i64 0] 23)) := ((Below.refl _ w).alloc (Nat.le_refl _) _).alloc (by simp) _
  have HA := Lib.hid (asked_any a ca ws m true ((w.alloc (.cells #[.int .i64 0] 3)).alloc (.cells #[.int .i64 0] 23)) hu (hr.mono hb0 (Nat.le_refl _)) hl)
  rw [hb] at hv
  rw [hv] at HA
  have HT := Lib.hid hT
  have HU := Lib.hid hu
  have HR := Lib.hid hr
  have HALL := Lib.hid (bI_all ws f m hft)
  have HFT := Lib.hid hft
  have hm2 : (f : Int) ≤ (m : Int) := by omega
  clear hu hr hc hb hlen hv hm' h0 h1 hT
  refine (callsIn_wide (n := 2)).1 ?_
  refine callsIn_of_wp_marks Tryd.func21 rfl trivial ?_ rfl
  simp only [Tryd.ntmps21, List.size_toArray, List.length_cons, List.length_nil, Nat.reduceAdd, Nat.reduceSub, Array.replicate_succ, Array.replicate_zero, List.push_toArray, List.append_toArray, List.nil_append, List.cons_append]
  gi_wp2_with fail
  refine ⟨trivial, (callsIn_wide.2 HA.out).mono ?_⟩
  rintro e w' ⟨rfl, rfl⟩
  gi_wp2_with fail
  refine ⟨trivial, (callsIn_wide.2 (parts_any _ _ _ _ _ _)).mono ?_⟩
  rintro e w' ⟨rfl, rfl⟩
  have bY := (Boxed.new w 3 (.int .i64 0)).alloc (.cells #[.int .i64 0] 23)
  have bM := Boxed.new (w.alloc (.cells #[.int .i64 0] 3)) 23 (.int .i64 0)
  rw [World.size_alloc] at bM
  have hw2 : ((w.alloc (.cells #[.int .i64 0] 3)).alloc (.cells #[.int .i64 0] 23)).heap.size = w.heap.size + 2 := by simp
  generalize (w.alloc (.cells #[.int .i64 0] 3)).alloc (.cells #[.int .i64 0] 23) = w2 at *
  have hst := parts_stops 1 w.heap.size f m ca a ws w2 HU.out ((RdN.of HR.out (Nat.le_refl _)).keep hb0) (by omega) hl htl hft
  have hs := boxP_size w2 a ws.length ca f m
  have hbx := boxP_below w2 a ws.length ca f m
  have HW2 := Lib.hid hw2
  have HS := Lib.hid hs
  clear hw2 hs
  gi_wp2_with fail
  have hw2 : w2.heap.size ≤ w.heap.size + 2 ∧ w.heap.size + 2 ≤ w2.heap.size := by have := HW2.out; omega
  have hs : (boxP w2 a ws.length ca f m).heap.size ≤ w2.heap.size + 3 ∧ w2.heap.size + 3 ≤ (boxP w2 a ws.length ca f m).heap.size := by have := HS.out; omega
  have bY := bY.kept (grown0 hbx) (by simp)
  have bM := bM.kept (grown0 hbx) (by simp)
  have hB3 := hb0.trans (hbx.mono (by omega))
  generalize boxP w2 a ws.length ca f m = w3 at *
  have hKE := Keeps.b (n0 := w.heap.size) (lo := w2.heap.size) (hi := w2.heap.size + 3) (w := w3) (by omega) (by omega)
  refine rangeFunc_put (fun j => [(28, .int .i64 ((ym ws f m j).1 : Int)), (29, .int .u64 ((ym ws f m j).2 : Int)), (9, .int .i64 ((ym ws f m j).1 : Int)), (10, .int .u64 ((ym ws f m j).2 : Int))]) rfl (by decide) (gf := 38) (lb := #[.pointer (some ⟨w2.heap.size, 0, Option.none⟩), .pointer (some ⟨w2.heap.size + 1, 0, Option.none⟩), .pointer (some ⟨w2.heap.size + 2, 0, Option.none⟩)]) rfl trivial (enters_of Tryd.func38 (by kernel_rfl) rfl) hst Keeps.t hKE (Below.refl _ _) (fun _ => rfl)
    (fun pre W => (W.cell? ⟨w.heap.size, 0, Option.none⟩ = some (.int .i64 0) ∧ W.frozen? ⟨w.heap.size, 0, Option.none⟩ = false ∧ W.cell? ⟨w.heap.size + 1, 0, Option.none⟩ = some (.int .i64 0) ∧ W.frozen? ⟨w.heap.size + 1, 0, Option.none⟩ = false ∧ bI ws f m pre = []) ∧ Below w.heap.size w W)
    (fun c pre W => NextAt ws f m w.heap.size c pre W ∧ Below w.heap.size w W)
    (OwnFrom.and (Own.from (fun s A B row hs hg hr => ⟨cell_kept hs.1 hg hr, (frozen_kept hs.1 hg hr).trans hs.2.1, cell_kept hs.2.2.1 hg hr, (frozen_kept hs.2.2.1 hg hr).trans hs.2.2.2.1, hs.2.2.2.2⟩) _) (ownFrom_below (Nat.le_refl _) (by omega)))
    (fun c => OwnFrom.and (Own.from (fun s A B row hs hg hr => by obtain ⟨ini, j, e1, e2, e3, e4, e5, e6⟩ := hs; exact ⟨ini, j, e1, e2, e3, e4, cell_kept e5 hg hr, cell_kept e6 hg hr⟩) _) (ownFrom_below (Nat.le_refl _) (by omega)))
    ⟨⟨bY.cell, bY.frozen, bM.cell, bM.frozen, rfl⟩, hB3⟩ ?assign ?body ?done ?stop
  case assign =>
    intro l x W K hK
    dsimp only [encJ, encP]
    gi_wp2
    exact hK
  case body =>
    rintro l pre j W ⟨⟨hc, hf, hc2, hf2, hpre⟩, hB⟩ hN
    have hlt := ym_lt HU.out f m j
    have hfi := ym_first ws f m j hft
    have HSN := Lib.hid (bI_snoc ws f m pre j)
    have HP := Lib.hid hpre
    have HTZ := Lib.hid (Trailing_any (ym ws f m j).2 W hlt (HT.out.mono hB))
    have HCZ := Lib.hid (ctz_le (ym ws f m j).2 · hlt)
    have HIX : Hid (∀ W' : World, (ym ws f m j).2 ≠ 0 → W'.cell? ⟨w.heap.size, 0, Option.none⟩ = some (.int .i64 (((ym ws f m j).1 + Lib.ctz 64 (ym ws f m j).2 : Nat) : Int)) → W'.cell? ⟨w.heap.size + 1, 0, Option.none⟩ = some (.int .i64 0) → NextAt ws f m w.heap.size .ret (pre ++ [j]) W') := Lib.hid (fun W' h1 h2 h3 => ⟨pre, j, rfl, hpre, h1, rfl, h2, h3⟩)
    clear hpre
    generalize (ym ws f m j).2 = x at *
    generalize (ym ws f m j).1 = fi at *
    by_cases hx : x = 0
    · subst hx
      have HNIL : Hid (bI ws f m (pre ++ [j]) = []) := Lib.hid (by rw [HSN.out, HP.out, bl_zero]; rfl)
      gi_wp2
      exact ⟨KeepsFrom.refl _ _, Keeps.refl _ _ _ _, ⟨⟨hc, hf, hc2, hf2, HNIL.out⟩, hB⟩⟩
    · have hz := HCZ.out hx
      have hx2 : ((x : Int) != 0) = true := by rw [bne_iff_ne]; omega
      have HXX := Lib.hid hx
      generalize Lib.ctz 64 x = z at *
      clear hx
      gi_wp2_with fail
      refine ⟨trivial, rfl, (CallsIn.inRound l (callsIn_wide.2 HTZ.out)).mono ?_⟩
      rintro e w1 ⟨rfl, rfl⟩
      gi_wp2
      refine ⟨((KeepsOthers.setCell _ _ _).trans (KeepsOthers.setCell _ _ _)).from _, HIX.out _ HXX.out ?_ ?_, (hB.setCell (by simp) _).setCell (by simp) _⟩
      · rw [World.cell?_setCell_other _ _ _ _ (by simp), World.cell?_setCell_same' _ _ _ (by rw [hc]; rfl)]; simp
      · rw [World.cell?_setCell_same' _ _ _ (by rw [World.cell?_setCell_other _ _ _ _ (by simp), hc2]; rfl)]
  case done =>
    rintro D ys W hD rfl ⟨⟨hc, hf, hc2, hf2, hnil⟩, hB⟩ hK
    rw [HALL.out] at hnil
    have HN := Lib.hid hnil
    clear hnil
    gi_wp2
    have hK' := (KeepsOthers.setCell _ ⟨w.heap.size + 1, 0, Option.none⟩ (.int .i64 6)).same D _ ((KeepsOthers.setCell W ⟨w.heap.size, 0, Option.none⟩ (.int .i64 0)).same D _ hK rfl) rfl
    refine ⟨by simp, .inl ⟨_, _, rfl, run_takeDeferred hK', ?_⟩⟩
    have hc4 : ((W.setCell ⟨w.heap.size, 0, Option.none⟩ (.int .i64 0)).setCell ⟨w.heap.size + 1, 0, Option.none⟩ (.int .i64 6)).cell? ⟨w.heap.size, 0, Option.none⟩ = some (.int .i64 0) := by
      rw [World.cell?_setCell_other _ _ _ _ (by simp), World.cell?_setCell_same' _ _ _ (by rw [hc]; rfl)]
    have hc6 : ((W.setCell ⟨w.heap.size, 0, Option.none⟩ (.int .i64 0)).setCell ⟨w.heap.size + 1, 0, Option.none⟩ (.int .i64 6)).cell? ⟨w.heap.size + 1, 0, Option.none⟩ = some (.int .i64 6) := by
      rw [World.cell?_setCell_same' _ _ _ (by rw [World.cell?_setCell_other _ _ _ _ (by simp), hc2]; rfl)]
    have hc5 := cell_kept hc4 (grownBy_putObj' _ D (.deferred Option.none)) (fun r e => by cases e; exact ⟨_, hK', rfl⟩)
    have hc7 := cell_kept hc6 (grownBy_putObj' _ D (.deferred Option.none)) (fun r e => by cases e; exact ⟨_, hK', rfl⟩)
    refine ⟨.tuple #[.int .i64 0, .int .i64 6], by simp [results, Tryd.results21, go_sem, hc5, hc7], by rw [HN.out]; rfl, ?_⟩
    exact ((hB.setCell (by simp) _).setCell (by simp) _).trans (belowK_b (w := w) (Nat.le_refl _) _ D _ _ (by omega) hK' rfl rfl)
  case stop =>
    rintro D c pre W hD hpre ⟨⟨ini, j, rfl, h1, h2, rfl, hc, hc2⟩, hB⟩ hK
    have HV : Hid (firstV (occs ws f (m - f)) = ((((ym ws f m j).1 + Lib.ctz 64 (ym ws f m j).2 : Nat) : Int), 0)) := Lib.hid (by
      obtain ⟨r, hr⟩ := bI_pre hft hpre
      rw [hr, bI_snoc, h1, bl_head _ _ h2 (ym_lt HU.out f m j)]
      exact firstV_cons _ _)
    generalize (ym ws f m j).1 + Lib.ctz 64 (ym ws f m j).2 = z at *
    clear h1 h2
    gi_wp2
    refine ⟨by simp, .inl ⟨_, _, rfl, run_takeDeferred hK, ?_⟩⟩
    have hc5 := cell_kept hc (grownBy_putObj' _ D (.deferred Option.none)) (fun r e => by cases e; exact ⟨_, hK, rfl⟩)
    have hc7 := cell_kept hc2 (grownBy_putObj' _ D (.deferred Option.none)) (fun r e => by cases e; exact ⟨_, hK, rfl⟩)
    refine ⟨.tuple #[.int .i64 z, .int .i64 0], by simp [results, Tryd.results21, go_sem, hc5, hc7], by rw [HV.out], ?_⟩
    exact hB.trans (belowK_b (w := w) (Nat.le_refl _) _ D _ _ (by omega) hK rfl rfl)

end Go.Proofs.YtnfjabohnjbgbaaDoor.Occ
