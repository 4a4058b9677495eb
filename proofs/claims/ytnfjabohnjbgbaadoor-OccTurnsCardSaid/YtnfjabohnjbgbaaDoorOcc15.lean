/- Contracts of package occ: Nth. -/
import Derived.Test.YtnfjabohnjbgbaaDoorOcc14
namespace Go.Proofs.YtnfjabohnjbgbaaDoor.Occ
open Go.RowKit Go.Shelf Go.Proofs.YtnfjabohnjbgbaaDoor
attribute [local go_sem] Oper.semAt_some

/-- A word whose lowest bits have been cleared. -/
theorem bl_drop {x fi i : Nat} {l : List Nat} (hx : x < 18446744073709551616) (h : bl x fi = l.drop i) (hi : i < l.length) : x ≠ 0 ∧ bl (x &&& (x - 1)) fi = l.drop (i + 1) ∧ fi + Lib.ctz 64 x = l.getD i 0 := by
  have h0 : x ≠ 0 := by
    rintro rfl
    rw [bl_zero] at h
    have := congrArg List.length h
    rw [List.length_drop] at this
    simp at this; omega
  rw [bl_head x fi h0 hx] at h
  have h2 : l.drop i = l[i] :: l.drop (i + 1) := List.drop_eq_getElem_cons hi
  rw [h2] at h
  refine ⟨h0, (List.cons.inj h).2, ?_⟩
  rw [(List.cons.inj h).1]
  simp [List.getD_eq_getElem?_getD, hi]
theorem and_le (x : Nat) (hx : x < 18446744073709551616) : x &&& (x - 1) < 18446744073709551616 := Nat.lt_of_le_of_lt Nat.and_le_left hx
/-- What is left to be passed over. -/
def NthAt (ws : List Int) (t k n0 : Nat) (pre : List Nat) (W : World) : Prop :=
  ∃ kk : Nat, kk + (bI ws 0 t pre).length = k ∧ W.cell? ⟨n0, 0, Option.none⟩ = some (.int .i64 kk) ∧ W.frozen? ⟨n0, 0, Option.none⟩ = false ∧ W.cell? ⟨n0 + 1, 0, Option.none⟩ = some (.int .i64 0) ∧ W.frozen? ⟨n0 + 1, 0, Option.none⟩ = false ∧ W.cell? ⟨n0 + 1 + 1, 0, Option.none⟩ = some (.int .i64 0) ∧ W.frozen? ⟨n0 + 1 + 1, 0, Option.none⟩ = false
def NthIs (ws : List Int) (t k n0 : Nat) (c : Code) (pre : List Nat) (W : World) : Prop :=
  ∃ y : Nat, k < (bI ws 0 t pre).length ∧ (bI ws 0 t pre).getD k 0 = y ∧ c = .ret ∧ W.cell? ⟨n0 + 1, 0, Option.none⟩ = some (.int .i64 y) ∧ W.cell? ⟨n0 + 1 + 1, 0, Option.none⟩ = some (.int .i64 0)
def nthL (l : List Nat) (k : Nat) : Int × Int := if k < l.length then (((l.getD k 0 : Nat) : Int), 0) else (0, 6)

set_option maxRecDepth 100000 in
set_option maxHeartbeats 4000000 in
theorem nth_ok (a : Option Addr) (ca : Nat) (ws : List Int) (t k : Nat) (w : World) (hT : Tab w) (hu : U64 ws) (hr : Rd .u64 w a ws) (hl : ws.length ≤ 100000) (hv : chkV ws t = 0) (hk63 : k ≤ 9223372036854775807) :
    Calls Tryd.prog 11 #[.slice a ws.length ca, .int .i64 t, .int .i64 k] w fun e w' => e = .returned (.tuple #[.int .i64 (nthL (occs ws 0 t) k).1, .int .i64 (nthL (occs ws 0 t) k).2]) ∧ Below w.heap.size w w' := by
  obtain ⟨m', hm', hm, hlen, _⟩ := chkV_ok hv
  obtain rfl : t = m' := Int.ofNat_inj.1 hm'
  have hft : 0 ≤ t := Nat.zero_le _
  have htl : t ≤ 64 * ws.length := by omega
  have hb0 : Below w.heap.size w (((w.alloc (.cells #[.int .i64 k] 3)).alloc (.cells #[.int .i64 0] 3)).alloc (.cells #[.int .i64 0] 23)) := (((Below.refl _ w).alloc (Nat.le_refl _) _).alloc (by simp) _).alloc (by simp; omega) _
  have HA := Lib.hid (Check_any a ca ws t (((w.alloc (.cells #[.int .i64 k] 3)).alloc (.cells #[.int .i64 0] 3)).alloc (.cells #[.int .i64 0] 23)) hu (hr.mono hb0 (Nat.le_refl _)) hl)
  rw [hv] at HA
  have HT := Lib.hid hT
  have HU := Lib.hid hu
  have HR := Lib.hid hr
  have HALL := Lib.hid (bI_all ws 0 t hft)
  rw [Nat.sub_zero] at HALL
  clear hu hr hlen hv hm' hT
  refine (callsIn_wide (n := 2)).1 ?_
  refine callsIn_of_wp_marks Tryd.func11 rfl trivial ?_ rfl
  simp only [Tryd.ntmps11, List.size_toArray, List.length_cons, List.length_nil, Nat.reduceAdd, Nat.reduceSub, Array.replicate_succ, Array.replicate_zero, List.push_toArray, List.append_toArray, List.nil_append, List.cons_append]
  gi_wp2_with fail
  refine (wpIn_wide (n := 2)).2 (wp_scope_straight ((wpIn_wide (n := 2)).1 ?_))
  gi_wp2_with fail
  refine ⟨trivial, (callsIn_wide.2 HA.out).mono ?_⟩
  rintro e w' ⟨rfl, rfl⟩
  have bK := ((Boxed.new w 3 (.int .i64 k)).alloc (.cells #[.int .i64 0] 3)).alloc (.cells #[.int .i64 0] 23)
  have bY := (Boxed.new (w.alloc (.cells #[.int .i64 k] 3)) 3 (.int .i64 0)).alloc (.cells #[.int .i64 0] 23)
  have bM := Boxed.new ((w.alloc (.cells #[.int .i64 k] 3)).alloc (.cells #[.int .i64 0] 3)) 23 (.int .i64 0)
  rw [World.size_alloc] at bY
  rw [World.size_alloc, World.size_alloc] at bM
  have hw2 : (((w.alloc (.cells #[.int .i64 k] 3)).alloc (.cells #[.int .i64 0] 3)).alloc (.cells #[.int .i64 0] 23)).heap.size = w.heap.size + 3 := by simp
  generalize ((w.alloc (.cells #[.int .i64 k] 3)).alloc (.cells #[.int .i64 0] 3)).alloc (.cells #[.int .i64 0] 23) = w2 at *
  have ck := bK.cell
  gi_wp2_with fail
  refine wpIn_label ?_
  gi_wp2_with fail
  refine ⟨trivial, (callsIn_wide.2 (parts_any _ _ _ _ _ _)).mono ?_⟩
  rintro e w' ⟨rfl, rfl⟩
  have hst := parts_stops 1 w.heap.size 0 t ca a ws w2 HU.out ((RdN.of HR.out (Nat.le_refl _)).keep hb0) (by omega) hl htl hft
  have hs := boxP_size w2 a ws.length ca (0 : Nat) t
  have hbx := boxP_below w2 a ws.length ca (0 : Nat) t
  have HW2 := Lib.hid hw2
  have HS := Lib.hid hs
  clear hw2 hs ck
  gi_wp2_with fail
  have hw2 : w2.heap.size ≤ w.heap.size + 3 ∧ w.heap.size + 3 ≤ w2.heap.size := by have := HW2.out; omega
  have hs : (boxP w2 a ws.length ca (0 : Nat) t).heap.size ≤ w2.heap.size + 3 ∧ w2.heap.size + 3 ≤ (boxP w2 a ws.length ca (0 : Nat) t).heap.size := by have := HS.out; omega
  have bK := bK.kept (grown0 hbx) (by simp)
  have bY := bY.kept (grown0 hbx) (by simp)
  have bM := bM.kept (grown0 hbx) (by simp)
  have hB3 := hb0.trans (hbx.mono (by omega))
  rw [Int.natCast_zero] at *
  generalize boxP w2 a ws.length ca 0 t = w3 at *
  have hKE := Keeps.b (n0 := w.heap.size) (lo := w2.heap.size) (hi := w2.heap.size + 3) (w := w3) (by omega) (by omega)
  refine rangeFunc_put (fun j => [(23, .int .i64 ((ym ws 0 t j).1 : Int)), (24, .int .u64 ((ym ws 0 t j).2 : Int)), (9, .int .i64 ((ym ws 0 t j).1 : Int)), (10, .int .u64 ((ym ws 0 t j).2 : Int))]) rfl (by decide) (gf := 38) (lb := #[.pointer (some ⟨w2.heap.size, 0, Option.none⟩), .pointer (some ⟨w2.heap.size + 1, 0, Option.none⟩), .pointer (some ⟨w2.heap.size + 2, 0, Option.none⟩)]) rfl trivial (enters_of Tryd.func38 (by kernel_rfl) rfl) hst Keeps.t hKE (Below.refl _ _) (fun _ => rfl)
    (fun pre W => NthAt ws t k w.heap.size pre W ∧ Below w.heap.size w W)
    (fun c pre W => NthIs ws t k w.heap.size c pre W ∧ Below w.heap.size w W)
    (OwnFrom.and (Own.from (fun s A B row hs hg hr => by obtain ⟨kk, e, h1, h2, h3, h4, h5, h6⟩ := hs; exact ⟨kk, e, cell_kept h1 hg hr, (frozen_kept h1 hg hr).trans h2, cell_kept h3 hg hr, (frozen_kept h3 hg hr).trans h4, cell_kept h5 hg hr, (frozen_kept h5 hg hr).trans h6⟩) _) (ownFrom_below (Nat.le_refl _) (by omega)))
    (fun c => OwnFrom.and (Own.from (fun s A B row hs hg hr => by obtain ⟨y, e1, e2, e3, e4, e5⟩ := hs; exact ⟨y, e1, e2, e3, cell_kept e4 hg hr, cell_kept e5 hg hr⟩) _) (ownFrom_below (Nat.le_refl _) (by omega)))
    ⟨⟨k, rfl, bK.cell, bK.frozen, bY.cell, bY.frozen, bM.cell, bM.frozen⟩, hB3⟩ ?assign ?body ?done ?stop
  case assign =>
    intro l x W K hK
    dsimp only [encJ, encP]
    gi_wp2
    exact hK
  case body =>
    rintro l pre j W ⟨⟨kk, hsum, hc, hf, hc2, hf2, hc3, hf3⟩, hB⟩ hN
    have hlt := ym_lt HU.out 0 t j
    have hfi := ym_first ws 0 t j hft
    have HSN := Lib.hid (bI_snoc ws 0 t pre j)
    have HBL := Lib.hid (bl_length (ym ws 0 t j).2 (ym ws 0 t j).1)
    have HO := Lib.hid (fun w => OnesCount_any (ym ws 0 t j).2 w hlt)
    have HTW := Lib.hid (HT.out.mono hB)
    have HSUM := Lib.hid hsum
    have hpop : popN (ym ws 0 t j).2 ≤ 64 := by
      have := HBL.out
      unfold bl at this; rw [List.length_map] at this
      have h3 := List.length_filter_le (fun i => (ym ws 0 t j).2.testBit i) (List.range 64)
      rw [List.length_range] at h3
      unfold popN; omega
    have HPOP : Hid ((bl (ym ws 0 t j).2 (ym ws 0 t j).1).length = popN (ym ws 0 t j).2) := Lib.hid HBL.out
    have HIX : Hid (∀ (W' : World) (kk : Nat), kk + (bI ws 0 t (pre ++ [j])).length = k → W'.cell? ⟨w.heap.size, 0, Option.none⟩ = some (.int .i64 kk) → W'.frozen? ⟨w.heap.size, 0, Option.none⟩ = false → W'.cell? ⟨w.heap.size + 1, 0, Option.none⟩ = some (.int .i64 0) → W'.frozen? ⟨w.heap.size + 1, 0, Option.none⟩ = false → W'.cell? ⟨w.heap.size + 1 + 1, 0, Option.none⟩ = some (.int .i64 0) → W'.frozen? ⟨w.heap.size + 1 + 1, 0, Option.none⟩ = false → NthAt ws t k w.heap.size (pre ++ [j]) W') := Lib.hid (fun W' kk h0 h1 h2 h3 h4 h5 h6 => ⟨kk, h0, h1, h2, h3, h4, h5, h6⟩)
    have HIS : Hid (∀ (W' : World) (y : Nat), k < (bI ws 0 t (pre ++ [j])).length → (bI ws 0 t (pre ++ [j])).getD k 0 = y → W'.cell? ⟨w.heap.size + 1, 0, Option.none⟩ = some (.int .i64 y) → W'.cell? ⟨w.heap.size + 1 + 1, 0, Option.none⟩ = some (.int .i64 0) → NthIs ws t k w.heap.size .ret (pre ++ [j]) W') := Lib.hid (fun W' y h0 h1 h2 h3 => ⟨y, h0, h1, rfl, h2, h3⟩)
    clear HBL
    generalize (ym ws 0 t j).2 = x at *
    generalize (ym ws 0 t j).1 = fi at *
    generalize popN x = p at *
    have hkk : kk ≤ 9223372036854775807 := by omega
    clear hsum
    gi_wp2_with fail
    refine ⟨trivial, rfl, (CallsIn.inRound l (callsIn_wide.2 (HO.out _))).mono ?_⟩
    rintro e w1 ⟨rfl, rfl⟩
    by_cases hge : p ≤ kk
    · have hkp : (kk : Int) - (p : Int) = ((kk - p : Nat) : Int) := by omega
      have HL : Hid (kk - p + (bI ws 0 t (pre ++ [j])).length = k) := Lib.hid (by
        rw [HSN.out, List.length_append, HPOP.out]; have := HSUM.out; omega)
      have hkp2 : kk - p ≤ 9223372036854775807 := by omega
      have hge2 : (p : Int) ≤ (kk : Int) := by omega
      generalize kk - p = kp at *
      gi_wp2
      have hk1 : Keeps w.heap.size w2.heap.size (w2.heap.size + 3) w1 (w1.setCell ⟨w.heap.size, 0, Option.none⟩ (.int .i64 (kp : Int))) := (Keeps.refl _ _ _ w1).setCell _ (by simp) (by simp; omega) _
      refine ⟨(KeepsOthers.setCell _ _ _).from _, hk1, HIX.out _ _ HL.out ?_ ?_ ?_ ?_ ?_ ?_, hB.setCell (by simp) _⟩
      · exact World.cell?_setCell_same' _ _ _ (by rw [hc]; rfl)
      · rw [World.frozen?_setCell]; exact hf
      · rw [World.cell?_setCell_other _ _ _ _ (by simp)]; exact hc2
      · rw [World.frozen?_setCell]; exact hf2
      · rw [World.cell?_setCell_other _ _ _ _ (by simp)]; exact hc3
      · rw [World.frozen?_setCell]; exact hf3
    · have hge2 : ¬ (p : Int) ≤ (kk : Int) := by omega
      have HLEN : Hid (k < (bI ws 0 t (pre ++ [j])).length ∧ (bI ws 0 t (pre ++ [j])).getD k 0 = (bl x fi).getD kk 0) := Lib.hid (by
        have h1 := HSUM.out
        rw [HSN.out, List.length_append, HPOP.out]
        refine ⟨by omega, ?_⟩
        simp only [List.getD_eq_getElem?_getD]
        rw [List.getElem?_append_right (by omega), show k - (bI ws 0 t pre).length = kk by omega])
      have HPL := Lib.hid (show kk < (bl x fi).length by rw [HPOP.out]; omega)
      clear hge
      gi_wp2
      gi_loopw [10, 34] (fun x' i wr => ∃ (c : Nat) (xc : Nat), c ≤ kk ∧ i = .int .i64 c ∧ x' = .int .u64 xc ∧ xc < 18446744073709551616 ∧ bl xc fi = (bl x fi).drop c ∧ wr = w1) (fun _ i _ => kk - (intOf i).toNat)
      case atStart => exact ⟨0, x, Nat.zero_le _, rfl, rfl, hlt, by simp, rfl⟩
      case round =>
        obtain ⟨c, xc, hck, rfl, rfl, hxc, hbl, rfl⟩ := hrel
        have HD := Lib.hid (fun h => bl_drop hxc hbl h)
        clear hbl
        by_cases hlt2 : c < kk
        · obtain ⟨h0, h1, _⟩ := HD.out (by have := HPL.out; omega)
          have hand := bits_and_u64_nat xc (xc - 1) hxc (by omega)
          have hsub : ((xc - 1 : Nat) : Int) = (xc : Int) - 1 := by omega
          rw [hsub] at hand
          have H1 := Lib.hid h1
          have H2 := Lib.hid (and_le xc hxc)
          have hpos : 0 < xc := by omega
          clear h1 hsub h0
          generalize xc &&& (xc - 1) = xd at *
          have hcl : (c : Int) < (kk : Int) := by omega
          gi_wp2
          go_roundw
          case rel => exact ⟨c + 1, xd, by omega, by go_num, rfl, H2.out, H1.out, (by first | rfl | trivial)⟩
          case measure => simp [intOf]; omega
        · obtain rfl : c = kk := by omega
          obtain ⟨h0, _, h2⟩ := HD.out HPL.out
          have HTZ := Lib.hid (Trailing_any xc wr hxc HTW.out)
          have hz := ctz_le xc h0 hxc
          have HV := Lib.hid (HLEN.out.2.trans h2.symm)
          clear h2
          generalize Lib.ctz 64 xc = z at *
          gi_wp2_with fail
          refine ⟨trivial, rfl, (CallsIn.inRound l (callsIn_wide.2 HTZ.out)).mono ?_⟩
          rintro e w1 ⟨rfl, rfl⟩
          gi_wp2
          refine ⟨((KeepsOthers.setCell _ _ _).trans (KeepsOthers.setCell _ _ _)).from _, HIS.out _ _ HLEN.out.1 HV.out ?_ ?_, (hB.setCell (by simp) _).setCell (by simp; omega) _⟩
          · rw [World.cell?_setCell_other _ _ _ _ (by simp), World.cell?_setCell_same' _ _ _ (by rw [hc2]; rfl)]; simp
          · rw [World.cell?_setCell_same' _ _ _ (by rw [World.cell?_setCell_other _ _ _ _ (by simp), hc3]; rfl)]
  case done =>
    rintro D ys W hD rfl ⟨⟨kk, hsum, hc, hf, hc2, hf2, hc3, hf3⟩, hB⟩ hK
    rw [HALL.out] at hsum
    have HV : Hid (nthL (occs ws 0 t) k = (0, 6)) := Lib.hid (by unfold nthL; rw [if_neg (by omega)])
    clear hsum
    gi_wp2
    rw [Exit.noGoto_ret]
    have hK' := (KeepsOthers.setCell _ ⟨w.heap.size + 1 + 1, 0, Option.none⟩ (.int .i64 6)).same D _ ((KeepsOthers.setCell W ⟨w.heap.size + 1, 0, Option.none⟩ (.int .i64 0)).same D _ hK rfl) rfl
    refine ⟨by simp, .inl ⟨_, _, rfl, run_takeDeferred hK', ?_⟩⟩
    have hc4 : ((W.setCell ⟨w.heap.size + 1, 0, Option.none⟩ (.int .i64 0)).setCell ⟨w.heap.size + 1 + 1, 0, Option.none⟩ (.int .i64 6)).cell? ⟨w.heap.size + 1, 0, Option.none⟩ = some (.int .i64 0) := by
      rw [World.cell?_setCell_other _ _ _ _ (by simp), World.cell?_setCell_same' _ _ _ (by rw [hc2]; rfl)]
    have hc6 : ((W.setCell ⟨w.heap.size + 1, 0, Option.none⟩ (.int .i64 0)).setCell ⟨w.heap.size + 1 + 1, 0, Option.none⟩ (.int .i64 6)).cell? ⟨w.heap.size + 1 + 1, 0, Option.none⟩ = some (.int .i64 6) := by
      rw [World.cell?_setCell_same' _ _ _ (by rw [World.cell?_setCell_other _ _ _ _ (by simp), hc3]; rfl)]
    have hc5 := cell_kept hc4 (grownBy_putObj' _ D (.deferred Option.none)) (fun r e => by cases e; exact ⟨_, hK', rfl⟩)
    have hc7 := cell_kept hc6 (grownBy_putObj' _ D (.deferred Option.none)) (fun r e => by cases e; exact ⟨_, hK', rfl⟩)
    refine ⟨.tuple #[.int .i64 0, .int .i64 6], by simp [results, Tryd.results11, go_sem, hc5, hc7], by rw [HV.out], ?_⟩
    exact ((hB.setCell (by simp) _).setCell (by simp; omega) _).trans (belowK_b (w := w) (Nat.le_refl _) _ D _ _ (by omega) hK' rfl rfl)
  case stop =>
    rintro D c pre W hD hpre ⟨⟨y, h1, h2, rfl, hc, hc2⟩, hB⟩ hK
    have HV : Hid (nthL (occs ws 0 t) k = ((y : Int), 0)) := Lib.hid (by
      obtain ⟨r, hr⟩ := bI_pre hft hpre
      rw [Nat.sub_zero] at hr
      unfold nthL
      rw [hr, if_pos (by rw [List.length_append]; omega), ← h2]
      simp only [List.getD_eq_getElem?_getD]
      rw [List.getElem?_append_left h1])
    clear h1 h2
    gi_wp2
    rw [Exit.noGoto_ret]
    refine ⟨by simp, .inl ⟨_, _, rfl, run_takeDeferred hK, ?_⟩⟩
    have hc5 := cell_kept hc (grownBy_putObj' _ D (.deferred Option.none)) (fun r e => by cases e; exact ⟨_, hK, rfl⟩)
    have hc7 := cell_kept hc2 (grownBy_putObj' _ D (.deferred Option.none)) (fun r e => by cases e; exact ⟨_, hK, rfl⟩)
    refine ⟨.tuple #[.int .i64 y, .int .i64 0], by simp [results, Tryd.results11, go_sem, hc5, hc7], by rw [HV.out], ?_⟩
    exact hB.trans (belowK_b (w := w) (Nat.le_refl _) _ D _ _ (by omega) hK rfl rfl)

end Go.Proofs.YtnfjabohnjbgbaaDoor.Occ
