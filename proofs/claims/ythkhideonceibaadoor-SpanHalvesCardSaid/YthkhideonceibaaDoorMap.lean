/- Contracts of package span: the iterator of the pairs from a slot on. Contracts of package span: Scan. Package span, in plain Lean: the document's run, built pair by pair. Contracts of the document's chapter 12: RunOf. Contracts of the document's chapter 12: Fits, Scan. Pairs of the law's own, while their keys are turned (as in SloTells). -/
import Derived.Test.YthkhideonceibaaDoorMao
set_option linter.unusedSimpArgs false
set_option linter.unusedVariables false
namespace Go.Proofs.YthkhideonceibaaDoor.Span
open Go.RowKit Go.Shelf Go.Sort Go.Proofs.YthkhideonceibaaDoor Go.Proofs.YthkhideonceibaaDoor.Occ Go.Proofs.YthkhideonceibaaDoor.Slo Go.Proofs.YthkhideonceibaaDoor.Seek
attribute [local go_sem] sval Oper.semAt_some

/-- Its slices, and the table, lie below n. -/
structure SRdM (n : Nat) (w : World) (s : Sl) (h : Hd) : Prop where
  r3 : SRdN n w s h
  fc : RdN n .i64 w h.ac s.cs
  tab : TabAt 0 Lib.deBruijn64tab w ∧ 0 < n
theorem SRdM.keep {n : Nat} {w w1 : World} {s : Sl} {h : Hd} (r : SRdM n w s h) (hb : Below n w w1) : SRdM n w1 s h :=
  ⟨r.r3.keep hb, r.fc.keep hb, fun j hj => (hb.cell (p := ⟨0, j, Option.none⟩) r.tab.2).trans (r.tab.1 j hj), r.tab.2⟩
theorem SRdM.of {w : World} {s : Sl} {h : Hd} (r : SRd w s h) (hT : Tab w) : SRdM w.heap.size w s h := ⟨SRdN.of r (Nat.le_refl _), RdN.of r.fc (Nat.le_refl _), hT⟩
theorem SRdM.rd {n : Nat} {w : World} {s : Sl} {h : Hd} (r : SRdM n w s h) (hn : n ≤ w.heap.size) : SRd w s h := ⟨r.r3.fw.rd hn, r.r3.fk.rd hn, r.r3.fv.rd hn, r.fc.rd hn⟩
theorem SRdM.tb {n : Nat} {w : World} {s : Sl} {h : Hd} (r : SRdM n w s h) (hn : n ≤ w.heap.size) : Tab w := ⟨r.tab.1, Nat.lt_of_lt_of_le r.tab.2 hn⟩

/-- The place p is the one at which the i-th of the occupied slots is looked for. -/
structure AtN (s : Sl) (i p : Nat) : Prop where
  le : p ≤ s.ks.length
  top : i ≤ (slotsL s).length
  iff : ∀ j, j < (slotsL s).length → (p ≤ (slotsL s).getD j 0 ↔ i ≤ j)
theorem AtN.at (s : Sl) {i : Nat} (h : i < (slotsL s).length) : AtN s i ((slotsL s).getD i 0) :=
  ⟨Nat.le_of_lt (slots_mem s h).1, Nat.le_of_lt h, fun j hj => ⟨fun h1 => by
    rcases Nat.lt_or_ge j i with g | g
    · have := slots_lt s g h; omega
    · exact g, fun h1 => by
    rcases Nat.eq_or_lt_of_le h1 with g | g
    · rw [g]; exact Nat.le_refl _
    · exact Nat.le_of_lt (slots_lt s g hj)⟩⟩
theorem AtN.next {s : Sl} {i p : Nat} (_h : AtN s i p) (hi : i < (slotsL s).length) : AtN s (i + 1) ((slotsL s).getD i 0 + 1) :=
  ⟨(slots_mem s hi).1, hi, fun j hj => ⟨fun h1 => by
    rcases Nat.lt_or_ge i j with g | g
    · exact g
    · rcases Nat.eq_or_lt_of_le g with g2 | g2
      · rw [g2] at h1; omega
      · have := slots_lt s g2 hi; omega, fun h1 => slots_lt s h1 hj⟩⟩
theorem AtN.val {s : Sl} {i p : Nat} (h : AtN s i p) (hok : okS s = true) : nextV s.ws s.ks.length p = if i < (slotsL s).length then (((((slotsL s).getD i 0 : Nat) : Int), (0 : Int)) : Int × Int) else (0, 6) := by
  rcases next_cases hok h.le with ⟨e, hno⟩ | ⟨a, e, h1, h2, h3, h4⟩
  · rw [e, if_neg]
    intro hi
    have hm := slots_mem s hi
    have := hno _ ((h.iff i hi).2 (Nat.le_refl _)) hm.1
    rw [this] at hm
    exact absurd hm.2 (by decide)
  · obtain ⟨j, hj, ej⟩ := slots_at s h2 h3
    have hij := (h.iff j hj).1 (by rw [ej]; exact h1)
    have e2 : i = j := by
      rcases Nat.eq_or_lt_of_le hij with g | g
      · exact g
      · have hm := slots_mem s (show i < (slotsL s).length by omega)
        have h5 := h4 _ ((h.iff i (by omega)).2 (Nat.le_refl _)) (by have := slots_lt s g hj; omega)
        rw [h5] at hm
        exact absurd hm.2 (by decide)
    rw [e2, if_pos hj, e, ej]

def cellN (w : World) (b : Nat) : Nat := match w.cell? ⟨b, 0, Option.none⟩ with | some v => (intOf v).toNat | Option.none => 0
theorem cellN_of {w : World} {b p : Nat} (h : w.cell? ⟨b, 0, Option.none⟩ = some (.int .i64 (p : Int))) : cellN w b = p := by unfold cellN; rw [h]; simp [intOf]
theorem keeps_frz {n0 lo hi : Nat} {W W' : World} (h : Keeps n0 lo hi W W') {b o : Nat} (hl : lo ≤ b) (hh : b < hi) : W'.frozen? ⟨b, o, Option.none⟩ = W.frozen? ⟨b, o, Option.none⟩ := by
  unfold World.frozen?
  show (match W'.heap[b]? with | some (.cells _ _ (lo, hi)) => _ | _ => _) = (match W.heap[b]? with | some (.cells _ _ (lo, hi)) => _ | _ => _)
  rw [h.kept b hl hh]
def encP (p : Int × Int) : Array Value := #[.agg #[.int .i64 p.1, .int .i64 p.2]]
theorem take_snoc (L : List (Int × Int)) {k : Nat} (h : k < L.length) : L.take k ++ [L.getD k (0, 0)] = L.take (k + 1) := by
  rw [List.take_add_one]; simp [List.getD_eq_getElem?_getD, h]

set_option maxRecDepth 100000 in
set_option maxHeartbeats 4000000 in
theorem from1_in (m l Bs Bt n0 lo hi b : Nat) (s : Sl) (h : Hd) (hok : okS s = true) (wf : s.Wf) (b1 : lo ≤ Bs ∧ Bs < hi) (b2 : lo ≤ Bt ∧ Bt < hi) (hne : Bs ≠ Bt) (hlo : n0 ≤ lo) (hb : b < (allP s).length) (J Jx : List (Int × Int) → World → Prop)
    (hJg : ∀ pre W W', J pre W → Below W.heap.size W W' → J pre W') (hJs : ∀ pre W1 v, J pre W1 → J pre (W1.setCell ⟨Bt, 0, Option.none⟩ v))
    (hY : ∀ pre x W, J pre W → pre ++ [x] <+: (allP s).drop b → YieldAt Fence.wide (m - 1) Tryd.prog l (encP x) W fun e W' =>
      (e = .returned (.bool true) ∧ J (pre ++ [x]) W' ∧ Keeps n0 lo hi W W') ∨ (e = .returned (.bool false) ∧ Jx (pre ++ [x]) W'))
    (W : World) (hnz : hi ≤ W.heap.size) (hrw : SRdM n0 W s h)
    (hcs : W.cell? ⟨Bs, 0, Option.none⟩ = some (.int .i64 s.seg) ∧ W.cell? ⟨Bs, 1, Option.none⟩ = some (.slice h.aw s.ws.length h.cw) ∧ W.cell? ⟨Bs, 2, Option.none⟩ = some (.slice h.ak s.ks.length h.ck) ∧
      W.cell? ⟨Bs, 3, Option.none⟩ = some (.slice h.av s.vs.length h.cv) ∧ W.cell? ⟨Bs, 4, Option.none⟩ = some (.slice h.ac s.cs.length h.cc) ∧ W.cell? ⟨Bs, 5, Option.none⟩ = some (.int .u64 s.laid))
    (hca : W.cell? ⟨Bt, 0, Option.none⟩ = some (.int .i64 (((slotsL s).getD b 0 : Nat) : Int))) (hcf : W.frozen? ⟨Bt, 0, Option.none⟩ = false) (h0 : J [] W) :
    CallsIn Fence.wide m Tryd.prog 53 #[.func (.yield l) #[] #[], .pointer (some ⟨Bt, 0, Option.none⟩), .pointer (some ⟨Bs, 0, Option.none⟩)] W fun e W' => (∃ v, e = .returned v) ∧
      (J ((allP s).drop b) W' ∨ ∃ pre, pre <+: (allP s).drop b ∧ Jx pre W') := by
  have HL := Lib.hid (allP_length s)
  have HA0 := Lib.hid (AtN.at s (by rw [← allP_length]; exact hb) : AtN s b _)
  have HN1 : Hid (∀ (i p : Nat) (_ : AtN s i p) (_ : i < (slotsL s).length) (w1 : World) (_ : Tab w1) (_ : SRd w1 s h), Calls Tryd.prog 46 #[.slice h.aw s.ws.length h.cw, .int .i64 s.ks.length, .int .i64 p] w1 fun e w' => e = .returned (.tuple #[.int .i64 (((slotsL s).getD i 0 : Nat) : Int), .int .i64 0]) ∧ Below w1.heap.size w1 w') := Lib.hid (fun i p a hi w1 hT R => by
    have := Next_any h.aw h.cw s.ws s.ks.length p w1 hT wf.u R.fw wf.lw
    rw [a.val hok, if_pos hi] at this
    exact this)
  have HN2 : Hid (∀ (i p : Nat) (_ : AtN s i p) (_ : ¬ i < (slotsL s).length) (w1 : World) (_ : Tab w1) (_ : SRd w1 s h), Calls Tryd.prog 46 #[.slice h.aw s.ws.length h.cw, .int .i64 s.ks.length, .int .i64 p] w1 fun e w' => e = .returned (.tuple #[.int .i64 0, .int .i64 6]) ∧ Below w1.heap.size w1 w') := Lib.hid (fun i p a hi w1 hT R => by
    have := Next_any h.aw h.cw s.ws s.ks.length p w1 hT wf.u R.fw wf.lw
    rw [a.val hok, if_neg hi] at this
    exact this)
  have HP : Hid (∀ (i : Nat) (_ : i < (allP s).length) (w1 : World) (_ : SRd w1 s h), Calls Tryd.prog 41 #[pval s h (((slotsL s).getD i 0 : Nat) : Int)] w1 fun e w' => e = .returned (.agg #[.int .i64 ((allP s).getD i (0, 0)).1, .int .i64 ((allP s).getD i (0, 0)).2]) ∧ Below w1.heap.size w1 w') := Lib.hid (fun i hi w1 R => by
    obtain ⟨g, q, o⟩ := okS_iff.1 hok
    have := place_any s h ((slotsL s).getD i 0) w1 R (slot_lt s hi) o.v
    rw [pair_num s hi] at this
    exact this)
  have HAN := Lib.hid (fun (i p : Nat) (a : AtN s i p) (hi : i < (slotsL s).length) => a.next hi)
  have HS : Hid (∀ i, i < (allP s).length → (slotsL s).getD i 0 < 65537 ∧ (slotsL s).getD i 0 < s.ks.length) := Lib.hid (fun i hi => by
    obtain ⟨g, q, o⟩ := okS_iff.1 hok
    have := o.n1; have := slot_lt s hi; omega)
  have HPRE : Hid (∀ k, b + k < (allP s).length → ((allP s).drop b).take k ++ [(allP s).getD (b + k) (0, 0)] = ((allP s).drop b).take (k + 1)) := Lib.hid (fun k hk => by
    have := take_snoc ((allP s).drop b) (k := k) (by rw [List.length_drop]; omega)
    simpa [List.getD_eq_getElem?_getD] using this)
  have HAL : Hid (∀ k, (allP s).length ≤ b + k → ((allP s).drop b).take k = (allP s).drop b) := Lib.hid (fun k hk => List.take_of_length_le (by rw [List.length_drop]; omega))
  have HLE : Hid (∀ i p, AtN s i p → i < (allP s).length → p ≤ (slotsL s).getD i 0) := Lib.hid (fun i p a hi => (a.iff i (by rw [← allP_length]; exact hi)).2 (Nat.le_refl _))
  have HRW := Lib.hid hrw
  have HCS := Lib.hid hcs
  have HJG := Lib.hid hJg
  have HJT := Lib.hid hJs
  have HY := Lib.hid hY
  clear hrw hcs hJg hJs hY hok wf
  generalize allP s = L at *
  unfold pval at HP
  rw [← HL.out] at HN1 HN2 HAN
  clear HL
  have HB1 := Lib.hid b1
  refine callsIn_of_wp Tryd.func53 rfl trivial ?_ rfl
  simp only [Tryd.ntmps53, List.size_toArray, List.length_cons, List.length_nil, Nat.reduceAdd, Nat.reduceSub, Array.replicate_succ, Array.replicate_zero, List.push_toArray, List.append_toArray, List.nil_append, List.cons_append]
  gi_wp2
  gi_loopw [4] (fun _ wr => ∃ k p : Nat, b + k ≤ L.length ∧ AtN s (b + k) p ∧ wr.cell? ⟨Bt, 0, Option.none⟩ = some (.int .i64 (p : Int)) ∧ wr.frozen? ⟨Bt, 0, Option.none⟩ = false ∧ J ((L.drop b).take k) wr ∧ SRdM n0 wr s h ∧ hi ≤ wr.heap.size ∧ (∀ o, wr.cell? ⟨Bs, o, Option.none⟩ = W.cell? ⟨Bs, o, Option.none⟩)) (fun _ wr => s.ks.length + 1 - cellN wr Bt)
  case atStart => exact ⟨0, _, by omega, HA0.out, hca, hcf, h0, HRW.out, hnz, fun _ => rfl⟩
  case round =>
    obtain ⟨k, p, hk, ha, cb, fb, hJ, hrd, hwz, hsame⟩ := hrel
    have s0 := (hsame 0).trans HCS.out.1
    have s1 := (hsame 1).trans HCS.out.2.1
    have s2 := (hsame 2).trans HCS.out.2.2.1
    have s3 := (hsame 3).trans HCS.out.2.2.2.1
    have s4 := (hsame 4).trans HCS.out.2.2.2.2.1
    have s5 := (hsame 5).trans HCS.out.2.2.2.2.2
    have HA := Lib.hid ha
    have HJ := Lib.hid hJ
    have HRD := Lib.hid hrd
    have HSM := Lib.hid hsame
    have hn0 : n0 ≤ wr.heap.size := by omega
    have zs : Bs < wr.heap.size := by omega
    have zt : Bt < wr.heap.size := by omega
    have HCB := Lib.hid (cellN_of cb)
    clear ha hJ hrd hsame
    by_cases hlt : b + k < L.length
    · have HNx := Lib.hid (HN1.out (b + k) p HA.out hlt)
      have HPx := Lib.hid (HP.out (b + k) hlt)
      have HAx := Lib.hid (HAN.out (b + k) p HA.out hlt)
      have HPk := Lib.hid (HPRE.out k hlt)
      have hpx : Hid (p ≤ (slotsL s).getD (b + k) 0 ∧ (slotsL s).getD (b + k) 0 < 65537 ∧ (slotsL s).getD (b + k) 0 < s.ks.length) := Lib.hid ⟨HLE.out _ _ HA.out hlt, (HS.out _ hlt).1, (HS.out _ hlt).2⟩
      generalize (slotsL s).getD (b + k) 0 = x at *
      generalize L.getD (b + k) (0, 0) = pr at *
      obtain ⟨pr1, pr2⟩ := pr
      dsimp only at HPx
      gi_wp2
      refine ⟨trivial, fun h => (by cases h), (callsIn_wide.2 (HNx.out wr (HRD.out.tb hn0) (HRD.out.rd hn0))).mono ?_⟩
      rintro e w1 ⟨rfl, hb1⟩
      have HB := Lib.hid (Keeps.of_below (lo := lo) (hi := hi) hb1 hn0 hwz)
      have HBG := Lib.hid hb1
      have c1 := (hb1.cell (p := ⟨Bt, 0, Option.none⟩) zt).trans cb
      have f1 := (hb1.frozen (p := ⟨Bt, 0, Option.none⟩) zt).trans fb
      have q0 := (hb1.cell (p := ⟨Bs, 0, Option.none⟩) zs).trans s0
      have q1 := (hb1.cell (p := ⟨Bs, 1, Option.none⟩) zs).trans s1
      have q2 := (hb1.cell (p := ⟨Bs, 2, Option.none⟩) zs).trans s2
      have q3 := (hb1.cell (p := ⟨Bs, 3, Option.none⟩) zs).trans s3
      have q4 := (hb1.cell (p := ⟨Bs, 4, Option.none⟩) zs).trans s4
      have q5 := (hb1.cell (p := ⟨Bs, 5, Option.none⟩) zs).trans s5
      have z1 := hb1.size
      have eBs : ∀ (w : World) (o : Nat) (v : Value), (w.setCell ⟨Bt, 0, Option.none⟩ v).cell? ⟨Bs, o, Option.none⟩ = w.cell? ⟨Bs, o, Option.none⟩ := fun w o v => World.cell?_setCell_other _ _ _ _ (by simp [hne])
      have HE := Lib.hid eBs
      have HSZ : Hid (∀ (w : World) (v : Value), (w.setCell ⟨Bt, 0, Option.none⟩ v).heap.size = w.heap.size) := Lib.hid (fun w v => by simp)
      have q0 := (eBs w1 0 (.int .i64 (x : Int))).trans q0
      have q1 := (eBs w1 1 (.int .i64 (x : Int))).trans q1
      have q2 := (eBs w1 2 (.int .i64 (x : Int))).trans q2
      have q3 := (eBs w1 3 (.int .i64 (x : Int))).trans q3
      have q4 := (eBs w1 4 (.int .i64 (x : Int))).trans q4
      have q5 := (eBs w1 5 (.int .i64 (x : Int))).trans q5
      have HC2 := Lib.hid (World.cell?_setCell_same w1 ⟨Bt, 0, Option.none⟩ (.int .i64 (x : Int)) c1)
      have HJ2 := Lib.hid (HJT.out _ _ (.int .i64 (x : Int)) (HJG.out _ _ _ HJ.out HBG.out))
      have HR2 := Lib.hid (HRD.out.keep ((hb1.mono hn0).setCell (p := ⟨Bt, 0, Option.none⟩) (show n0 ≤ Bt by omega) (.int .i64 (x : Int))))
      have HSM2 : Hid (∀ o, (w1.setCell ⟨Bt, 0, Option.none⟩ (.int .i64 (x : Int))).cell? ⟨Bs, o, Option.none⟩ = W.cell? ⟨Bs, o, Option.none⟩) := Lib.hid (fun o => (eBs w1 o _).trans ((hb1.cell (p := ⟨Bs, o, Option.none⟩) zs).trans (HSM.out o)))
      have HZ2 : Hid (wr.heap.size ≤ (w1.setCell ⟨Bt, 0, Option.none⟩ (.int .i64 (x : Int))).heap.size) := Lib.hid (by rw [HSZ.out]; exact z1)
      clear eBs
      have HF2 := Lib.hid ((World.frozen?_setCell w1 ⟨Bt, 0, Option.none⟩ ⟨Bt, 0, Option.none⟩ (.int .i64 (x : Int))).trans f1)
      clear hb1 cb fb s0 s1 s2 s3 s4 s5 hca hcf
      gi_wp2
      clear q0 q1 q2 q3 q4 q5
      refine ⟨trivial, fun h => (by cases h), (callsIn_wide.2 (HPx.out _ (HR2.out.rd (by have := HZ2.out; omega)))).mono ?_⟩
      clear c1 f1
      generalize w1.setCell ⟨Bt, 0, Option.none⟩ (.int .i64 (x : Int)) = w2 at *
      rintro e w3 ⟨rfl, hb3⟩
      have hz2 := HZ2.out
      have HB3 := Lib.hid hb3
      have c3 := (hb3.cell (p := ⟨Bt, 0, Option.none⟩) (by show Bt < w2.heap.size; omega)).trans HC2.out
      have f3 := (hb3.frozen (p := ⟨Bt, 0, Option.none⟩) (by show Bt < w2.heap.size; omega)).trans HF2.out
      obtain ⟨fn, tmps, assign, body, hy, hR⟩ := HY.out _ (pr1, pr2) w3 (HJG.out _ _ _ HJ2.out hb3) (by rw [HPk.out]; exact List.take_prefix _ _)
      unfold encP at hy
      rw [HPk.out] at hR
      have HRR := Lib.hid hR
      have z3 := hb3.size
      clear hb3 hR
      have hxx := hpx.out
      gi_wp2
      refine ⟨fun h => (by cases h), HRR.out.mono ?_⟩
      rintro e W4 (⟨rfl, hJ4, hk4⟩ | ⟨rfl, hJx4⟩)
      · have c4 := (hk4.cell b2.1 b2.2).trans c3
        have f4 := (keeps_frz hk4 (o := 0) b2.1 b2.2).trans f3
        have HJ4 := Lib.hid hJ4
        have HK4 := Lib.hid hk4
        have z4 := hk4.below.size
        have ew : IntKind.i64.wrap ((x : Int) + 1) = ((x + 1 : Nat) : Int) := by rw [IntKind.wrap_i64]; omega
        clear hJ4 hk4 hy
        gi_wp2
        go_roundw
        case rel => exact ⟨k + 1, x + 1, by omega, HAx.out, World.cell?_setCell_same _ _ _ c4, (World.frozen?_setCell _ _ _ _).trans f4, HJT.out _ _ _ HJ4.out, (HR2.out.keep ((HB3.out.mono (by omega)).trans HK4.out.below)).keep ((Below.refl n0 W4).setCell (p := ⟨Bt, 0, Option.none⟩) (show n0 ≤ Bt by omega) _), by rw [HSZ.out]; omega, fun o => (HE.out _ o _).trans ((HK4.out.cell HB1.out.1 HB1.out.2).trans ((HB3.out.cell (p := ⟨Bs, o, Option.none⟩) (by show Bs < w2.heap.size; omega)).trans (HSM2.out o)))⟩
        case measure => rw [HCB.out, show ((x : Int) + 1) = ((x + 1 : Nat) : Int) by omega, cellN_of (World.cell?_setCell_same _ _ _ c4)]; omega
      · gi_wp2
        refine bodyPost_ret (results_none rfl _ _ _) rfl ?_
        exact ⟨⟨_, rfl⟩, .inr ⟨_, List.take_prefix _ _, hJx4⟩⟩
    · have HNx := Lib.hid (HN2.out (b + k) p HA.out hlt)
      have HLL := Lib.hid (HAL.out k (by omega))
      gi_wp2
      refine ⟨trivial, fun h => (by cases h), (callsIn_wide.2 (HNx.out wr (HRD.out.tb hn0) (HRD.out.rd hn0))).mono ?_⟩
      rintro e w1 ⟨rfl, hb1⟩
      have c1 := (hb1.cell (p := ⟨Bt, 0, Option.none⟩) zt).trans cb
      have f1 := (hb1.frozen (p := ⟨Bt, 0, Option.none⟩) zt).trans fb
      have HBG := Lib.hid hb1
      clear hb1 cb fb s0 s1 s2 s3 s4 s5 hca hcf
      gi_wp2
      refine ⟨trivial, ?_⟩
      gi_wp2
      refine ⟨fun f h => (by cases h), ?_⟩
      gi_wp2
      refine bodyPost_ret (results_none rfl _ _ _) rfl ?_
      exact ⟨⟨_, rfl⟩, .inl (by rw [← HLL.out]; exact HJT.out _ _ _ (HJG.out _ _ _ HJ.out HBG.out))⟩

/-- The iterator's value: two boxes. -/
def fromW (w : World) (s : Sl) (h : Hd) (p : Int) : World := (allocS w s h).alloc (.cells #[.int .i64 p] 3)
theorem fromW_size (w : World) (s : Sl) (h : Hd) (p : Int) : (fromW w s h p).heap.size = w.heap.size + 2 := by simp [fromW, allocS_size]
theorem fromW_below (w : World) (s : Sl) (h : Hd) (p : Int) : Below w.heap.size w (fromW w s h p) := (allocS_below w s h).alloc (by rw [allocS_size]; omega) _
theorem fromW_bs (w : World) (s : Sl) (h : Hd) (p : Int) : BS (fromW w s h p) w.heap.size s h := (allocS_bs w s h).next ((Below.refl _ _).alloc (Nat.le_refl _) _)
theorem fromW_at (w : World) (s : Sl) (h : Hd) (p : Int) : (fromW w s h p).cell? ⟨w.heap.size + 1, 0, Option.none⟩ = some (.int .i64 p) ∧ (fromW w s h p).frozen? ⟨w.heap.size + 1, 0, Option.none⟩ = false := by
  have := Boxed.new (allocS w s h) 3 (.int .i64 p)
  rw [allocS_size] at this
  exact ⟨this.cell, this.frozen⟩
set_option maxRecDepth 100000 in
set_option maxHeartbeats 1000000 in
theorem spanFrom_any (s : Sl) (h : Hd) (p : Int) (w : World) :
    Calls Tryd.prog 31 #[sval s h, .int .i64 p] w fun e w' => e = .returned (.func (.func 53) #[] #[.pointer (some ⟨w.heap.size + 1, 0, Option.none⟩), .pointer (some ⟨w.heap.size, 0, Option.none⟩)]) ∧
      fromW w s h p = w' := by
  go_enter Tryd.func31, Tryd.ntmps31
  go_wp2
  go_ret
  exact ⟨rfl, rfl⟩
/-- The pairs come one behind the other. -/
theorem from_cells (m b n0 : Nat) (s : Sl) (h : Hd) (w : World) (R : SRdM n0 w s h) (hn : n0 ≤ w.heap.size) (hok : okS s = true) (wf : s.Wf) (hb : b < (allP s).length) :
    SeqCell m Tryd.prog 53 #[.pointer (some ⟨w.heap.size + 1, 0, Option.none⟩), .pointer (some ⟨w.heap.size, 0, Option.none⟩)] encP ((allP s).drop b) (Keeps n0 w.heap.size (w.heap.size + 2)) (w.heap.size + 1) (fromW w s h (((slotsL s).getD b 0 : Nat) : Int)) := fun l J Jx W hW hJ hJz hY h0 => by
  have hs := fromW_size w s h (((slotsL s).getD b 0 : Nat) : Int)
  have hbw := fromW_below w s h (((slotsL s).getD b 0 : Nat) : Int)
  obtain ⟨⟨c0, c1, c2, c3, c4, c5, -⟩, -⟩ := fromW_bs w s h (((slotsL s).getD b 0 : Nat) : Int)
  obtain ⟨ca, fa⟩ := fromW_at w s h (((slotsL s).getD b 0 : Nat) : Int)
  have k := fun o => hW.cell (p := ⟨w.heap.size, o, Option.none⟩) (by show w.heap.size < _; omega)
  exact from1_in m l _ _ n0 w.heap.size (w.heap.size + 2) b s h hok wf (by omega) (by omega) (by omega) hn hb J Jx (fun pre A B hA hAB => hJ pre A B Option.none hA (grown0 hAB) (fun r e => by cases e)) hJz
    hY W (by have := hW.size; omega) (R.keep ((hbw.mono hn).trans (hW.mono (by omega))))
    ⟨(k 0).trans c0, (k 1).trans c1, (k 2).trans c2, (k 3).trans c3, (k 4).trans c4, (k 5).trans c5⟩
    ((hW.cell (p := ⟨w.heap.size + 1, 0, Option.none⟩) (by show w.heap.size + 1 < _; omega)).trans ca) ((hW.frozen (p := ⟨w.heap.size + 1, 0, Option.none⟩) (by show w.heap.size + 1 < _; omega)).trans fa) h0
end Go.Proofs.YthkhideonceibaaDoor.Span

namespace Go.Proofs.YthkhideonceibaaDoor.Span
open Go.RowKit Go.Shelf Go.Sort Go.Proofs.YthkhideonceibaaDoor Go.Proofs.YthkhideonceibaaDoor.Occ Go.Proofs.YthkhideonceibaaDoor.Slo Go.Proofs.YthkhideonceibaaDoor.Seek
attribute [local go_sem] sval Oper.semAt_some

theorem AnsPr.none {w w' : World} {c : Int} (hb : Below w.heap.size w w') : AnsPr ([], c) w (.returned (.tuple #[.slice Option.none 0 0, .int .i64 c])) w' := ⟨_, rfl, World.ownsRow_nil _ _ _ _, hb⟩
/-- The boxes of Scan's start. -/
def scW (w : World) (s : Sl) (h : Hd) (b n : Int) : World := (((allocS w s h).alloc (.cells #[.int .i64 b] 2)).alloc (.cells #[.int .i64 n] 3)).alloc (.cells #[.slice Option.none 0 0] 30)
theorem scW_fold (w : World) (s : Sl) (h : Hd) (b n : Int) : (((allocS w s h).alloc (.cells #[.int .i64 b] 2)).alloc (.cells #[.int .i64 n] 3)).alloc (.cells #[.slice Option.none 0 0] 30) = scW w s h b n := rfl
theorem scW_size (w : World) (s : Sl) (h : Hd) (b n : Int) : (scW w s h b n).heap.size = w.heap.size + 4 := by simp [scW, allocS_size]
theorem scW_below (w : World) (s : Sl) (h : Hd) (b n : Int) : Below w.heap.size w (scW w s h b n) := (((allocS_below w s h).alloc (by rw [allocS_size]; omega) _).alloc (by simp [allocS_size]; omega) _).alloc (by simp [allocS_size]; omega) _
structure ScB (W : World) (n : Nat) (s : Sl) (h : Hd) (b m : Int) : Prop where
  bs : BS W n s h
  to : Boxed W (n + 1) 2 (.int .i64 b)
  most : Boxed W (n + 2) 3 (.int .i64 m)
  out : Boxed W (n + 3) 30 (.slice Option.none 0 0)
  lt : n + 3 < W.heap.size
theorem scW_b (w : World) (s : Sl) (h : Hd) (b n : Int) : ScB (scW w s h b n) w.heap.size s h b n := by
  have t0 := ((Boxed.new (allocS w s h) 2 (.int .i64 b)).alloc (.cells #[.int .i64 n] 3)).alloc (.cells #[.slice Option.none 0 0] 30)
  have t1 := (Boxed.new ((allocS w s h).alloc (.cells #[.int .i64 b] 2)) 3 (.int .i64 n)).alloc (.cells #[.slice Option.none 0 0] 30)
  have t2 := Boxed.new (((allocS w s h).alloc (.cells #[.int .i64 b] 2)).alloc (.cells #[.int .i64 n] 3)) 30 (.slice Option.none 0 0)
  simp only [World.size_alloc, allocS_size] at t0 t1 t2
  refine ⟨(allocS_bs w s h).next ((((Below.refl _ _).alloc (Nat.le_refl _) _).alloc (by simp) _).alloc (by simp; omega) _), t0, t1, t2, by rw [scW_size]; omega⟩
theorem ScB.next {W W' : World} {n : Nat} {s : Sl} {h : Hd} {b m : Int} (x : ScB W n s h b m) (hb : Below W.heap.size W W') : ScB W' n s h b m :=
  ⟨x.bs.next hb, x.to.kept (grown0 hb) (by simp), x.most.kept (grown0 hb) (by simp), x.out.kept (grown0 hb) (by simp), Nat.lt_of_lt_of_le x.lt hb.size⟩
theorem St.sc {W : World} {n : Nat} {s : Sl} {h : Hd} {b m : Int} (x : ScB W n s h b m) : St (fun W => ScB W n s h b m) W := ⟨x, fun _ _ x hb => x.next hb⟩

set_option maxRecDepth 100000 in
set_option maxHeartbeats 4000000 in
/-- What is answered with no pair. -/
theorem scan_no (s : Sl) (h : Hd) (a b n : Int) (w : World) (hT : Tab w) (W : s.Wf) (R : SRd w s h) (x e0 c : Int) (hn : nxtV s a = (x, e0))
    (hv : (e0 ≠ 0 ∧ e0 ≠ 6 ∧ c = e0) ∨ ((e0 = 0 ∨ e0 = 6) ∧ (n < 0 ∨ 1000 < n) ∧ c = 2) ∨ (e0 = 6 ∧ 0 ≤ n ∧ n ≤ 1000 ∧ c = 0)) :
    Calls Tryd.prog 11 #[sval s h, .int .i64 a, .int .i64 b, .int .i64 n] w fun e w' => AnsPr ([], c) w e w' := by
  have HN := Lib.hid (fun w1 (hT : Tab w1) (R : SRd w1 s h) => kNext_any s h a w1 hT W R)
  rw [hn] at HN
  have E0 := Lib.hid ((((St.below' (scW_below w s h b n)).and (St.rd (R.next (scW_below w s h b n)))).and ((St.tab hT).next (scW_below w s h b n))).and (St.sc (scW_b w s h b n)))
  clear R hT W hn
  unfold sval at *
  go_enter Tryd.func11, Tryd.ntmps11
  go_wp2_with fail
  rw [allocS_fold, scW_fold]
  generalize scW w s h b n = w0 at *
  obtain ⟨⟨⟨⟨bs_0, bs_1, bs_2, bs_3, bs_4, bs_5, -⟩, bs_l⟩, bto, bm, bo, -⟩, -, -, -⟩ := E0.out.now
  clear bto
  refine wp_scope_straight ?_
  go_wp2_with fail
  clear bs_0 bs_1 bs_2 bs_3 bs_4 bs_5 bs_l bm bo
  refine (HN.out _ E0.out.now.2.1 E0.out.now.2.2.1).mono ?_
  rintro e w1 ⟨rfl, hb⟩
  have E1 := Lib.hid (E0.out.next hb)
  clear hb
  have bm := E1.out.now.1.most
  have bo := E1.out.now.1.out
  have cm := bm.cell
  have fo := bo.frozen
  have co := bo.cell
  have FIN : Hid (∀ c : Int, AnsPr ([], c) w (.returned (.tuple #[.slice Option.none 0 0, .int .i64 c])) (w1.setCell ⟨w.heap.size + 1 + 1 + 1, 0, Option.none⟩ (.slice Option.none 0 0))) := Lib.hid (fun c => AnsPr.none (E1.out.now.2.2.2.setCell (by show w.heap.size ≤ w.heap.size + 1 + 1 + 1; omega) _))
  have RC : Hid ((w1.setCell ⟨w.heap.size + 1 + 1 + 1, 0, Option.none⟩ (.slice Option.none 0 0)).cell? ⟨w.heap.size + 1 + 1 + 1, 0, Option.none⟩ = some (.slice Option.none 0 0)) := Lib.hid (World.cell?_setCell_same _ _ _ co)
  clear bm bo
  rcases hv with ⟨h1, h2, rfl⟩ | ⟨h1, h2, rfl⟩ | ⟨rfl, h2, h3, rfl⟩
  · have b0 : (c != 0) = true := by rw [bne_iff_ne]; exact h1
    have b6 : (c != 6) = true := by rw [bne_iff_ne]; exact h2
    go_wp2
    (try simp only [Exit.noGoto])
    refine bodyPost_ret (v := .tuple #[.slice Option.none 0 0, .int .i64 c]) (by simp [results, Tryd.results11, go_sem, RC.out]) rfl (FIN.out _)
  · rcases h1 with rfl | rfl
    · rcases h2 with h2 | h2
      · go_wp2
        (try simp only [Exit.noGoto])
        refine bodyPost_ret (v := .tuple #[.slice Option.none 0 0, .int .i64 2]) (by simp [results, Tryd.results11, go_sem, RC.out]) rfl (FIN.out _)
      · have h0 : ¬ n < 0 := by omega
        go_wp2
        (try simp only [Exit.noGoto])
        refine bodyPost_ret (v := .tuple #[.slice Option.none 0 0, .int .i64 2]) (by simp [results, Tryd.results11, go_sem, RC.out]) rfl (FIN.out _)
    · rcases h2 with h2 | h2
      · go_wp2
        (try simp only [Exit.noGoto])
        refine bodyPost_ret (v := .tuple #[.slice Option.none 0 0, .int .i64 2]) (by simp [results, Tryd.results11, go_sem, RC.out]) rfl (FIN.out _)
      · have h0 : ¬ n < 0 := by omega
        go_wp2
        (try simp only [Exit.noGoto])
        refine bodyPost_ret (v := .tuple #[.slice Option.none 0 0, .int .i64 2]) (by simp [results, Tryd.results11, go_sem, RC.out]) rfl (FIN.out _)
  · have h0 : ¬ n < 0 := by omega
    have h4 : ¬ 1000 < n := by omega
    go_wp2
    (try simp only [Exit.noGoto])
    refine bodyPost_ret (v := .tuple #[.slice Option.none 0 0, .int .i64 0]) (by simp [results, Tryd.results11, go_sem, RC.out]) rfl (FIN.out _)

theorem scan_stop {D pre : List (Int × Int)} {x : Int × Int} {to : Int} {N : Nat} (hp : pre ++ [x] <+: D) (ha : ∀ p ∈ pre, p.1 ≤ to) (hl : pre.length ≤ N) (h : to < x.1 ∨ pre.length = N) : (D.takeWhile (fun p => decide (p.1 ≤ to))).take N = pre := by
  obtain ⟨t, rfl⟩ := hp
  rw [List.append_assoc, List.takeWhile_append_of_pos (by simpa using ha)]
  rcases h with h | h
  · rw [show [x] ++ t = x :: t from rfl, List.takeWhile_cons, if_neg (by simp; omega), List.append_nil, List.take_of_length_le hl]
  · rw [← h, List.take_left']
    rfl
theorem scan_all {D : List (Int × Int)} {to : Int} {N : Nat} (ha : ∀ p ∈ D, p.1 ≤ to) (hl : D.length ≤ N) : (D.takeWhile (fun p => decide (p.1 ≤ to))).take N = D := by
  have h : D.takeWhile (fun p => decide (p.1 ≤ to)) = D := by
    have := List.takeWhile_append_of_pos (p := fun p : Int × Int => decide (p.1 ≤ to)) (l₁ := D) (l₂ := []) (by simpa using ha)
    simpa using this
  rw [h, List.take_of_length_le hl]

theorem boxed_keep {A B : World} {b : Nat} {t : TypeId} {v : Value} {row : Option Nat} (h : Boxed A b t v) (hg : A.grownBy B row) (hr : ∀ r, row = some r → ∃ o : Obj, A.heap[r]? = some o ∧ o.isCells = false) : Boxed B b t v :=
  h.kept hg (fun e => by
    obtain ⟨o, ho, hc⟩ := hr b e.symm
    rw [show A.heap[b]? = _ from h] at ho; cases ho; cases hc)
/-- Between two rounds: what has been collected; the boxes of the function, and of the iterator. -/
structure ScanC (n0 B2 m3 : Nat) (so : Array Value) (to : Int) (N : Nat) (out : List (Int × Int)) (W : World) : Prop where
  row : ∃ v, Boxed W (n0 + 3) 30 v ∧ W.ownsRow n0 38 2 v out.length (pcells out) ∧ True
  bto : Boxed W (n0 + 1) 2 (.int .i64 to)
  bm : Boxed W (n0 + 2) 3 (.int .i64 N)
  bx : W.heap[B2]? = some (.cells so 27 (0, 0))
  bat : ∃ v, Boxed W (B2 + 1) 3 v
  size : m3 ≤ W.heap.size
theorem ScanC.kept {n0 B2 m3 N : Nat} {so : Array Value} {to : Int} {out : List (Int × Int)} {A B : World} {row : Option Nat} (h : ScanC n0 B2 m3 so to N out A) (hg : A.grownBy B row) (hr : ∀ r, row = some r → ∃ o : Obj, A.heap[r]? = some o ∧ o.isCells = false) : ScanC n0 B2 m3 so to N out B :=
  ⟨holdsRow_own n0 (n0 + 3) 30 38 2 (fun o : List (Int × Int) => o.length) (fun o => pcells o) (fun _ _ => True) out A B row h.row hg hr, boxed_keep h.bto hg hr, boxed_keep h.bm hg hr,
    (hg.block B2 (Array.getElem?_eq_some_iff.1 h.bx).1 (fun e => by obtain ⟨o, ho, hc⟩ := hr B2 e.symm; rw [h.bx] at ho; cases ho; cases hc)).trans h.bx,
    by obtain ⟨v, hv⟩ := h.bat; exact ⟨v, boxed_keep hv hg hr⟩, Nat.le_trans h.size hg.size⟩
theorem ScanC.set {n0 B2 m3 N : Nat} {so : Array Value} {to : Int} {out : List (Int × Int)} {A : World} (h : ScanC n0 B2 m3 so to N out A) (hB : n0 + 3 < B2) (u : Value) : ScanC n0 B2 m3 so to N out (A.setCell ⟨B2 + 1, 0, Option.none⟩ u) := by
  obtain ⟨v, hv, hrow, -⟩ := h.row
  obtain ⟨y, hy⟩ := h.bat
  refine ⟨⟨v, hv.other (by omega) u, hrow.kept (grownBy_setCell' A (B2 + 1) u) (.inr (hy.not_row (by decide) hrow).symm), trivial⟩, h.bto.other (by omega) u, h.bm.other (by omega) u, ?_, ⟨u, hy.set u⟩, by simpa using h.size⟩
  exact ((grownBy_setCell' A (B2 + 1) u).block B2 (Array.getElem?_eq_some_iff.1 h.bx).1 (by simp)).trans h.bx
/-- One pair more. -/
theorem ScanC.more {n0 B2 m3 N : Nat} {so : Array Value} {to : Int} {out : List (Int × Int)} {x : Int × Int} {A w1 : World} {v v' : Value} {tmp : Obj} (h : ScanC n0 B2 m3 so to N out A) (hv : Boxed A (n0 + 3) 30 v) (hrow : A.ownsRow n0 38 2 v out.length (pcells out)) (hn : n0 ≤ A.heap.size) (hB : n0 + 3 < B2)
    (hown : w1.ownsRow n0 38 2 v' (out.length + 1) (pcells (out ++ [x]))) (hgrow : (A.alloc tmp).grownBy w1 v.ownBlock) :
    ScanC n0 B2 m3 so to N (out ++ [x]) (w1.setCell ⟨n0 + 3, 0, Option.none⟩ v') ∧ KeepsOthers A (w1.setCell ⟨n0 + 3, 0, Option.none⟩ v') ∧ Below n0 A (w1.setCell ⟨n0 + 3, 0, Option.none⟩ v') ∧ Keeps n0 B2 (B2 + 2) A (w1.setCell ⟨n0 + 3, 0, Option.none⟩ v') := by
  obtain ⟨hv1, hv2, hr2, hk2, hb2⟩ := hv.appended (by decide) hrow hn (Nat.le_add_right _ _) hown hgrow
  have far : ∀ {b : Nat} {t : TypeId} {u : Value}, Boxed A b t u → t ≠ 38 → b ≠ n0 + 3 → Boxed (w1.setCell ⟨n0 + 3, 0, Option.none⟩ v') b t u := fun {b t u} hb ht hne =>
    ((hb.alloc tmp).kept hgrow (hb.not_row ht hrow)).kept (grownBy_setCell' w1 (n0 + 3) v') (by simpa using hne)
  obtain ⟨y, hy⟩ := h.bat
  have f2 := far hy (by decide) (by omega)
  have hlt := (Array.getElem?_eq_some_iff.1 h.bx).1
  have fx : (w1.setCell ⟨n0 + 3, 0, Option.none⟩ v').heap[B2]? = A.heap[B2]? := by
    have e1 : (A.alloc tmp).heap[B2]? = A.heap[B2]? := (World.grownBy_alloc A tmp Option.none).block B2 hlt (by simp)
    have e2 : w1.heap[B2]? = (A.alloc tmp).heap[B2]? := hgrow.block B2 (by simp; omega) (fun e => by
      rcases hrow.2 with ⟨rfl, _⟩ | ⟨g, cap, cur, rfl, _, hgb, _⟩
      · simp [Value.ownBlock] at e
      · obtain rfl : B2 = g := by simpa [Value.ownBlock] using e
        have := h.bx.symm.trans hgb
        simp at this)
    exact (((grownBy_setCell' w1 (n0 + 3) v').block B2 (by have := hgrow.size; simp at this; omega) (by simp; omega)).trans e2).trans e1
  refine ⟨⟨⟨v', hv2, by rw [List.length_append]; exact hr2, trivial⟩, far h.bto (by decide) (by omega), far h.bm (by decide) (by omega), fx.trans h.bx, ⟨y, f2⟩, Nat.le_trans h.size hb2.size⟩, hk2, hb2, hb2, fun i h1 h2 => ?_⟩
  rcases (show i = B2 ∨ i = B2 + 1 by omega) with rfl | rfl
  · exact fx
  · exact f2.trans hy.symm

def allLe (to : Int) (l : List (Int × Int)) : Prop := ∀ q ∈ l, q.1 ≤ to
theorem row_form {W : World} {base : Nat} {e : TypeId} {size : Nat} {v : Value} {k : Nat} {xs : List Value} (h : W.ownsRow base e size v k xs) : ∃ al cap, v = .slice al k cap := by
  rcases h.2 with ⟨h1, h0⟩ | ⟨g, cap, _, h1, _⟩
  · exact ⟨_, _, by rw [h1, h0]⟩
  · exact ⟨_, _, h1⟩
theorem fromW_bx (w : World) (s : Sl) (h : Hd) (p : Int) : (fromW w s h p).heap[w.heap.size]? = some (.cells #[.int .i64 s.seg, .slice h.aw s.ws.length h.cw, .slice h.ak s.ks.length h.ck, .slice h.av s.vs.length h.cv, .slice h.ac s.cs.length h.cc, .int .u64 s.laid] 27 (0, 0)) :=
  ((World.grownBy_alloc (allocS w s h) _ Option.none).block w.heap.size (by rw [allocS_size]; omega) (by simp)).trans (World.alloc_heap_new w _)
theorem fromW_ab (w : World) (s : Sl) (h : Hd) (p : Int) : Boxed (fromW w s h p) (w.heap.size + 1) 3 (.int .i64 p) := by
  have := Boxed.new (allocS w s h) 3 (.int .i64 p)
  rwa [allocS_size] at this

set_option maxRecDepth 100000 in
set_option maxHeartbeats 4000000 in
theorem scan_ok (s : Sl) (h : Hd) (a to : Int) (N b : Nat) (w : World) (hT : Tab w) (W : s.Wf) (R : SRd w s h) (hok : okS s = true) (hb : b < (allP s).length) (hN : N ≤ 1000) (hn : nxtV s a = ((((slotsL s).getD b 0 : Nat) : Int), 0)) :
    Calls Tryd.prog 11 #[sval s h, .int .i64 a, .int .i64 to, .int .i64 N] w fun e w' => AnsPr ((((allP s).drop b).takeWhile (fun p => decide (p.1 ≤ to))).take N, 0) w e w' := by
  have HN := Lib.hid (fun w1 (hT : Tab w1) (R : SRd w1 s h) => kNext_any s h a w1 hT W R)
  rw [hn] at HN
  have HFR := Lib.hid (fun w1 => spanFrom_any s h (((slotsL s).getD b 0 : Nat) : Int) w1)
  have HFC := Lib.hid (fun w1 (R : SRdM w.heap.size w1 s h) (hn : w.heap.size ≤ w1.heap.size) => from_cells 1 b w.heap.size s h w1 R hn hok W hb)
  have HM := Lib.hid (SRdM.of R hT)
  have E0 := Lib.hid ((((St.below' (scW_below w s h to N)).and (St.rd (R.next (scW_below w s h to N)))).and ((St.tab hT).next (scW_below w s h to N))).and (St.sc (scW_b w s h to N)))
  clear R hT W hn hok
  generalize allP s = L at *
  generalize (slotsL s).getD b 0 = p at *
  have h0 : ¬ (N : Int) < 0 := by omega
  have h4 : ¬ (1000 : Int) < (N : Int) := by omega
  unfold sval at *
  refine (callsIn_wide (n := 2)).1 ?_
  refine callsIn_of_wp_marks Tryd.func11 rfl trivial ?_ rfl
  simp only [Tryd.ntmps11, List.size_toArray, List.length_cons, List.length_nil, Nat.reduceAdd, Nat.reduceSub, Array.replicate_succ, Array.replicate_zero, List.push_toArray, List.append_toArray, List.nil_append, List.cons_append]
  gi_wp2_with fail
  rw [allocS_fold, scW_fold]
  generalize scW w s h to N = w0 at *
  obtain ⟨⟨⟨⟨bs_0, bs_1, bs_2, bs_3, bs_4, bs_5, -⟩, bs_l⟩, -, -, -, -⟩, -, -, -⟩ := E0.out.now
  refine (wpIn_wide (n := 2)).2 (wp_scope_straight ((wpIn_wide (n := 2)).1 ?_))
  gi_wp2_with fail
  clear bs_0 bs_1 bs_2 bs_3 bs_4 bs_5 bs_l
  refine ⟨trivial, (callsIn_wide.2 (HN.out _ E0.out.now.2.1 E0.out.now.2.2.1)).mono ?_⟩
  rintro e w1 ⟨rfl, hb1⟩
  have E1 := Lib.hid (E0.out.next hb1)
  clear hb1
  have cm := E1.out.now.1.most.cell
  gi_wp2_with fail
  refine wpIn_label ?_
  clear cm
  obtain ⟨⟨⟨⟨bs_0, bs_1, bs_2, bs_3, bs_4, bs_5, -⟩, bs_l⟩, -, -, -, -⟩, -, -, -⟩ := E1.out.now
  gi_wp2_with fail
  clear bs_0 bs_1 bs_2 bs_3 bs_4 bs_5 bs_l
  refine ⟨trivial, (callsIn_wide.2 (HFR.out _)).mono ?_⟩
  rintro e w2 ⟨rfl, rfl⟩
  gi_wp2_with fail
  have hz1 := E1.out.now.1.lt
  have hst := HFC.out w1 (HM.out.keep E1.out.now.2.2.2) (by omega)
  have HV := Lib.hid (rfl : ((L.drop b).takeWhile (fun p => decide (p.1 ≤ to))).take N = ((L.drop b).takeWhile (fun p => decide (p.1 ≤ to))).take N)
  have hbf := fromW_below w1 s h (p : Int)
  have hsz := fromW_size w1 s h (p : Int)
  have hB2 := E1.out.now.2.2.2.trans (hbf.mono (by omega))
  obtain ⟨so, c0⟩ : ∃ so, ScanC w.heap.size w1.heap.size (fromW w1 s h p).heap.size so to N [] (fromW w1 s h p) :=
    ⟨_, ⟨_, E1.out.now.1.out.kept (grown0 hbf) (by simp), World.ownsRow_nil _ _ _ _, trivial⟩, E1.out.now.1.to.kept (grown0 hbf) (by simp), E1.out.now.1.most.kept (grown0 hbf) (by simp), fromW_bx w1 s h p, ⟨_, fromW_ab w1 s h p⟩, Nat.le_refl _⟩
  generalize fromW w1 s h p = w2 at *
  obtain ⟨i0, hi, hiz0, hiz1, hiz2⟩ := info_parts infoP
  refine rangeFunc_cellB (fun x Bx => [(39, .agg #[.int .i64 x.1, .int .i64 x.2]), (11, .pointer (some ⟨Bx, 0, Option.none⟩))])
    (fun x Bx W => w2.heap.size ≤ Bx ∧ W.heap[Bx]? = some (.cells #[.int .i64 x.1, .int .i64 x.2] 38 (0, 0)))
    (gf := 53) (lb := #[.pointer (some ⟨w1.heap.size + 1, 0, Option.none⟩), .pointer (some ⟨w1.heap.size, 0, Option.none⟩)]) rfl (enters_of Tryd.func53 (by kernel_rfl) rfl) hst (by omega) Keeps.t (Keeps.b (by omega) (by omega)) (fun _ => rfl)
    (fun pre W => (allLe to pre ∧ pre.length ≤ N ∧ ScanC w.heap.size w1.heap.size w2.heap.size so to N pre W) ∧ Below w.heap.size w W)
    (fun j pre W => (j = .exit 1 ∧ ScanC w.heap.size w1.heap.size w2.heap.size so to N (((L.drop b).takeWhile (fun p => decide (p.1 ≤ to))).take N) W) ∧ Below w.heap.size w W)
    (OwnFrom.and (Own.from (fun s A B row hs hg hr => ⟨hs.1, hs.2.1, hs.2.2.kept hg hr⟩) _) (ownFrom_below (Nat.le_refl _) (by omega)))
    (fun j => OwnFrom.and (Own.from (fun s A B row hs hg hr => ⟨hs.1, hs.2.kept hg hr⟩) _) (ownFrom_below (Nat.le_refl _) (by omega)))
    (fun pre W v h => ⟨⟨h.1.1, h.1.2.1, h.1.2.2.set (by omega) v⟩, h.2.setCell (by show w.heap.size ≤ w1.heap.size + 1; omega) _⟩)
    ⟨⟨fun q hq => (by cases hq), Nat.zero_le _, c0⟩, hB2⟩
    ?hBp ?assign ?body ?done ?stop
  case hBp =>
    rintro x Bx u A B row ⟨h1, h2⟩ hg hr
    exact ⟨h1, (grownBy_keeps_cells hg (fun r e => (hr r e).2) h2 rfl).trans h2⟩
  case assign =>
    rintro l pre ⟨x1, x2⟩ W K hx ⟨⟨hk, hlen, hC⟩, hB⟩ hK
    dsimp only [encP]
    have HK := Lib.hid hK
    have HC := Lib.hid hC
    clear hx hK hC
    gi_wp2
    have h3 := HC.out.size
    refine HK.out W.heap.size _ ((KeepsOthers.alloc W _).from _) ⟨(Below.refl _ W).alloc (by have := hB.size; omega) _, fun k _ hk => Below.heap_alloc W _ k (by omega)⟩ ⟨⟨hk, hlen, HC.out.kept (World.grownBy_alloc W _ Option.none) (fun r e => by cases e)⟩, hB.alloc hB.size _⟩ ⟨h3, heap_alloc_new W _⟩
  case body =>
    rintro l pre ⟨x1, x2⟩ Bx W hx ⟨⟨hk, hlen, hC⟩, hB⟩ ⟨hbx, hcx⟩
    clear hsz
    dsimp only at hcx
    obtain ⟨v, hv, hrow, -⟩ := hC.row
    have hc1 : W.cell? ⟨Bx, 0, Option.none⟩ = some (.int .i64 x1) := by rw [cell_of_row W Bx 0 _ _ _ hcx]; rfl
    have hc2 : W.cell? ⟨Bx, 1, Option.none⟩ = some (.int .i64 x2) := by rw [cell_of_row W Bx 1 _ _ _ hcx]; rfl
    have hcv := hv.cell
    have hct := hC.bto.cell
    have hcm := hC.bm.cell
    have HC := Lib.hid hC
    have HP : Hid (pcells (pre ++ [(x1, x2)]) = pcells pre ++ [.int .i64 x1, .int .i64 x2]) := Lib.hid (by rw [pcells_append]; rfl)
    have HST := Lib.hid (fun h => scan_stop (to := to) (N := N) hx hk hlen h)
    have HK := Lib.hid hk
    clear hx hC hcx hk
    by_cases hgt : to < x1
    · have HE := Lib.hid (HST.out (.inl hgt))
      clear HST
      gi_wp2_with fail
      exact ⟨KeepsFrom.refl _ _, ⟨rfl, by rw [HE.out]; exact HC.out⟩, hB⟩
    · obtain ⟨al, cap, rfl⟩ := row_form hrow
      by_cases heq : pre.length = N
      · have HE := Lib.hid (HST.out (.inr heq))
        clear HST
        have heb : ((pre.length : Int) == (N : Int)) = true := by rw [beq_iff_eq]; omega
        gi_wp2_with fail
        exact ⟨KeepsFrom.refl _ _, ⟨rfl, by rw [HE.out]; exact HC.out⟩, hB⟩
      · have heb : ((pre.length : Int) == (N : Int)) = false := by rw [beq_eq_false_iff_ne]; omega
        clear HST
        gi_wp2_with (gi_at_builtin; refine wpListIn_append_own _ rfl _ _ 30 rfl w.heap.size 38 i0 (.agg #[.int .i64 0, .int .i64 0]) 2 16 Tryd.underlying30 hi hiz0 hiz1 hiz2 rfl (by decide) _ _ _ rfl (hrow.alloc _) ⟨W.heap.size, 0, Option.none⟩ 1 1 [.int .i64 x1, .int .i64 x2] rfl rfl (two_cells _ _ _ _) (by intro u hu; simp at hu; rcases hu with rfl | rfl <;> rfl) (by unfold maxLen; omega) (by omega) (by have := hB.size; simp; omega) ?_; intro v' w3 hown' hgrow _; obtain ⟨g', cap', rfl⟩ := ownsRow_succ hown'; obtain ⟨hv1, _, _, _, _⟩ := hv.appended (by decide) hrow hB.size (Nat.le_add_right _ _) hown' hgrow; have hcv1 := hv1.cell; have hfv1 := hv1.frozen)
        rw [← HP.out] at hown'
        obtain ⟨m1, m2, m3, m4⟩ := HC.out.more hv hrow hB.size (by omega) hown' hgrow
        exact ⟨m2.from _, m4, ⟨fun (q : Int × Int) hq => by
          rcases List.mem_append.1 hq with g | g
          · exact HK.out q g
          · have e := List.mem_singleton.1 g
            rw [e]; show x1 ≤ to; omega, by rw [List.length_append]; simp; omega, m1⟩, hB.trans m3⟩
  case done =>
    rintro D W hD ⟨⟨hk, hlen, hC⟩, hB⟩ hK
    have HE := Lib.hid (scan_all hk hlen)
    rw [← HE.out] at hC
    have HSZ := Lib.hid hsz
    clear hsz hk hlen HE
    generalize hVV : ((L.drop b).takeWhile (fun p => decide (p.1 ≤ to))).take N = V at *
    have HVV := Lib.hid hVV
    clear hVV HV
    obtain ⟨v, hv, hrow, -⟩ := hC.row
    have hcv := hv.cell
    have hfv := hv.frozen
    obtain ⟨al, cap, rfl⟩ := row_form hrow
    have HR := Lib.hid hrow
    have HNR := Lib.hid (hv.not_row (by decide) hrow)
    clear hC hrow
    have HBB := Lib.hid hB
    have HKK := Lib.hid hK
    clear hB hK
    gi_wp2
    have hK' := (KeepsOthers.setCell W ⟨w.heap.size + 3, 0, Option.none⟩ (.slice al V.length cap)).same D _ HKK.out rfl
    have hrow2 := HR.out.kept (grownBy_setCell' W (w.heap.size + 3) (.slice al V.length cap)) (.inr HNR.out.symm)
    have hrow3 := ownsRow_putObj hrow2 (.deferred Option.none) hK' rfl
    have hc5 := cell_kept (World.cell?_setCell_same' W ⟨w.heap.size + 3, 0, Option.none⟩ (.slice al V.length cap) (by rw [hcv]; rfl)) (grownBy_putObj' _ D (.deferred Option.none)) (fun r e => by cases e; exact ⟨_, hK', rfl⟩)
    refine ⟨by simp, .inl ⟨_, _, rfl, run_takeDeferred hK', ?_⟩⟩
    rw [HVV.out]
    refine ⟨.tuple #[.slice al V.length cap, .int .i64 0], by simp [results, Tryd.results11, go_sem, hc5], _, rfl, hrow3, ?_⟩
    exact (HBB.out.setCell (by show w.heap.size ≤ w.heap.size + 3; omega) _).trans (belowK_b (w := w) (Nat.le_refl _) _ D _ _ (by have := HSZ.out; omega) hK' rfl rfl)
  case stop =>
    rintro D j pre W hD - ⟨⟨rfl, hC⟩, hB⟩ hK
    have HSZ := Lib.hid hsz
    clear hsz
    generalize hVV : ((L.drop b).takeWhile (fun p => decide (p.1 ≤ to))).take N = V at *
    have HVV := Lib.hid hVV
    clear hVV HV
    obtain ⟨v, hv, hrow, -⟩ := hC.row
    have hcv := hv.cell
    have hfv := hv.frozen
    obtain ⟨al, cap, rfl⟩ := row_form hrow
    have HR := Lib.hid hrow
    have HNR := Lib.hid (hv.not_row (by decide) hrow)
    clear hC hrow
    have HBB := Lib.hid hB
    have HKK := Lib.hid hK
    clear hB hK
    gi_wp2
    have hK' := (KeepsOthers.setCell W ⟨w.heap.size + 3, 0, Option.none⟩ (.slice al V.length cap)).same D _ HKK.out rfl
    have hrow2 := HR.out.kept (grownBy_setCell' W (w.heap.size + 3) (.slice al V.length cap)) (.inr HNR.out.symm)
    have hrow3 := ownsRow_putObj hrow2 (.deferred Option.none) hK' rfl
    have hc5 := cell_kept (World.cell?_setCell_same' W ⟨w.heap.size + 3, 0, Option.none⟩ (.slice al V.length cap) (by rw [hcv]; rfl)) (grownBy_putObj' _ D (.deferred Option.none)) (fun r e => by cases e; exact ⟨_, hK', rfl⟩)
    refine ⟨by simp, .inl ⟨_, _, rfl, run_takeDeferred hK', ?_⟩⟩
    rw [HVV.out]
    refine ⟨.tuple #[.slice al V.length cap, .int .i64 0], by simp [results, Tryd.results11, go_sem, hc5], _, rfl, hrow3, ?_⟩
    exact (HBB.out.setCell (by show w.heap.size ≤ w.heap.size + 3; omega) _).trans (belowK_b (w := w) (Nat.le_refl _) _ D _ _ (by have := HSZ.out; omega) hK' rfl rfl)

theorem chkK_ne6 (s : Sl) : chkK s ≠ 6 := by
  cases h : okS s
  · rw [chkK_no h]; decide
  · rw [chkK_yes h]; split <;> decide
theorem Scan_any (s : Sl) (h : Hd) (a to n : Int) (w : World) (hT : Tab w) (W : s.Wf) (R : SRd w s h) :
    Calls Tryd.prog 11 #[sval s h, .int .i64 a, .int .i64 to, .int .i64 n] w fun e w' => AnsPr (scanV s a to n) w e w' := by
  by_cases hk : chkK s = 0
  · obtain ⟨hok, hri⟩ := chkK_ok hk
    by_cases hn : n < 0 ∨ 1000 < n
    · have e : scanV s a to n = ([], 2) := by unfold scanV; rw [if_neg (by simpa using hk), if_pos hn]
      rw [e]
      by_cases hb : bel (allP s) a < (slotsL s).length
      · exact scan_no s h a to n w hT W R _ 0 2 (by unfold nxtV; rw [if_pos hk, if_pos hb]) (.inr (.inl ⟨.inl rfl, hn, rfl⟩))
      · exact scan_no s h a to n w hT W R _ 6 2 (by unfold nxtV; rw [if_pos hk, if_neg hb]) (.inr (.inl ⟨.inr rfl, hn, rfl⟩))
    · have e : scanV s a to n = ((((allP s).drop (bel (allP s) a)).takeWhile (fun p => decide (p.1 ≤ to))).take n.toNat, 0) := by unfold scanV; rw [if_neg (by simpa using hk), if_neg hn, run_drop hri]
      rw [e]
      by_cases hb : bel (allP s) a < (slotsL s).length
      · have hN : ((n.toNat : Nat) : Int) = n := Int.toNat_of_nonneg (by omega)
        have := scan_ok s h a to n.toNat (bel (allP s) a) w hT W R hok (by rw [allP_length]; exact hb) (by omega) (by unfold nxtV; rw [if_pos hk, if_pos hb])
        rwa [hN] at this
      · rw [List.drop_of_length_le (by rw [allP_length]; omega), List.takeWhile_nil, List.take_nil]
        exact scan_no s h a to n w hT W R _ 6 0 (by unfold nxtV; rw [if_pos hk, if_neg hb]) (.inr (.inr ⟨rfl, by omega, by omega, rfl⟩))
  · have e : scanV s a to n = ([], chkK s) := by unfold scanV; rw [if_pos (by simpa using hk)]
    rw [e]
    exact scan_no s h a to n w hT W R _ (chkK s) (chkK s) (by unfold nxtV; rw [if_neg hk]) (.inl ⟨hk, chkK_ne6 s, rfl⟩)
end Go.Proofs.YthkhideonceibaaDoor.Span

namespace Go.Proofs.YthkhideonceibaaDoor.Span
open Go.RowKit Go.Shelf Go.Sort Go.Proofs.YthkhideonceibaaDoor Go.Proofs.YthkhideonceibaaDoor.Occ Go.Proofs.YthkhideonceibaaDoor.Slo Go.Proofs.YthkhideonceibaaDoor.Seek

/-- The document's run of the first i pairs, at most n. -/
def runN (l : List (Int × Int)) (a b : Int) (n i : Nat) : List (Int × Int) := (runL (l.take i) a b).take n
theorem runN_zero (l : List (Int × Int)) (a b : Int) (n : Nat) : runN l a b n 0 = [] := by simp [runN, runL]
theorem runL_take (l : List (Int × Int)) (a b : Int) {i : Nat} (h : i < l.length) : runL (l.take (i + 1)) a b = runL (l.take i) a b ++ (if a ≤ (l.getD i (0, 0)).1 ∧ (l.getD i (0, 0)).1 ≤ b then [l.getD i (0, 0)] else []) := by
  rw [← take_snoc l h]
  unfold runL
  rw [List.filter_append]
  congr 1
  by_cases h1 : a ≤ (l.getD i (0, 0)).1 <;> by_cases h2 : (l.getD i (0, 0)).1 ≤ b <;> simp [List.filter_cons, h1, h2]
theorem runN_more (l : List (Int × Int)) (a b : Int) (n : Nat) {i : Nat} (h : i < l.length) (h1 : a ≤ (l.getD i (0, 0)).1) (h2 : (l.getD i (0, 0)).1 ≤ b) (h3 : (runN l a b n i).length < n) : runN l a b n (i + 1) = runN l a b n i ++ [l.getD i (0, 0)] := by
  unfold runN at h3 ⊢
  rw [List.length_take] at h3
  have hl : (runL (l.take i) a b).length < n := by omega
  rw [runL_take l a b h, if_pos ⟨h1, h2⟩, List.take_of_length_le (Nat.le_of_lt hl), List.take_of_length_le (by simp; omega)]
theorem runN_less (l : List (Int × Int)) (a b : Int) (n : Nat) {i : Nat} (h : i < l.length) (h1 : ¬ (a ≤ (l.getD i (0, 0)).1 ∧ (l.getD i (0, 0)).1 ≤ b)) : runN l a b n (i + 1) = runN l a b n i := by
  unfold runN
  rw [runL_take l a b h, if_neg h1, List.append_nil]
theorem runN_full (l : List (Int × Int)) (a b : Int) (n : Nat) {i : Nat} (h : i < l.length) (h1 : ¬ (runN l a b n i).length < n) : runN l a b n (i + 1) = runN l a b n i := by
  unfold runN at h1 ⊢
  rw [List.length_take] at h1
  rw [runL_take l a b h, List.take_append_of_le_length (by omega)]
theorem runN_all (l : List (Int × Int)) (a b : Int) (n : Nat) : runN l a b n l.length = (runL l a b).take n := by unfold runN; rw [List.take_length]
theorem runN_le (l : List (Int × Int)) (a b : Int) (n i : Nat) : (runN l a b n i).length ≤ l.length := by
  unfold runN runL
  rw [List.length_take]
  have := List.length_filter_le (fun p : Int × Int => decide (a ≤ p.1) && decide (p.1 ≤ b)) (l.take i)
  rw [List.length_take] at this
  omega
end Go.Proofs.YthkhideonceibaaDoor.Span

namespace Go.Proofs.YthkhideonceibaaDoor.Span
open Go.RowKit Go.Shelf Go.Sort Go.Proofs.YthkhideonceibaaDoor Go.Proofs.YthkhideonceibaaDoor.Occ Go.Proofs.YthkhideonceibaaDoor.Slo Go.Proofs.YthkhideonceibaaDoor.Seek
attribute [local go_sem] sval Oper.semAt_some

set_option maxRecDepth 100000 in
set_option maxHeartbeats 4000000 in
theorem RunOf_any (al : Option Addr) (cl : Nat) (L : List (Int × Int)) (a b : Int) (N : Nat) (w : World) (hr : Rd2 w al L) (hl : L.length ≤ 1000000) :
    Calls Tryd.prog 34 #[.slice al L.length cl, .int .i64 a, .int .i64 b, .int .i64 N] w fun e w' => ∃ v, e = .returned v ∧ w'.ownsRow w.heap.size 38 2 v ((runL L a b).take N).length (pcells ((runL L a b).take N)) ∧ Below w.heap.size w w' := by
  obtain ⟨i0, hi, hz0, hz1, hz2⟩ := info_parts infoP
  have HR := Lib.hid hr
  have HM := Lib.hid (fun i (h : i < L.length) => runN_more L a b N h)
  have HLs := Lib.hid (fun i (h : i < L.length) => runN_less L a b N h)
  have HF := Lib.hid (fun i (h : i < L.length) => runN_full L a b N h)
  have HA := Lib.hid (runN_all L a b N)
  have HLE := Lib.hid (fun i => runN_le L a b N i)
  have H0 := Lib.hid (runN_zero L a b N)
  clear hr
  generalize ((runL L a b).take N) = V at *
  generalize runN L a b N = RN at *
  go_enter Tryd.func34, Tryd.ntmps34
  go_wp2
  go_loopw [9, 10] (fun v i wr => ∃ k : Nat, k ≤ L.length ∧ i = .int .i64 (k : Int) ∧ wr.ownsRow w.heap.size 38 2 v (RN k).length (pcells (RN k)) ∧ Below w.heap.size w wr) (fun _ i _ => L.length - (intOf i).toNat)
  case atStart => exact ⟨0, by omega, by go_num, by rw [H0.out]; exact World.ownsRow_nil w w.heap.size 38 2, Below.refl _ _⟩
  case round =>
    obtain ⟨k, hk, rfl, hown, hbl⟩ := hrel
    have HO := Lib.hid hown
    have HB := Lib.hid hbl
    have hle := HLE.out k
    obtain ⟨av, cv, rfl⟩ := row_form hown
    clear hown hbl
    by_cases hlt : k < L.length
    · obtain ⟨bl, ol, rfl, ca, cb⟩ := Rd2.at HR.out HB.out (Nat.le_refl _) hlt
      have HMk := Lib.hid (HM.out k hlt)
      have HLk := Lib.hid (HLs.out k hlt)
      have HFk := Lib.hid (HF.out k hlt)
      generalize L.getD k (0, 0) = x at *
      obtain ⟨x1, x2⟩ := x
      dsimp only at ca cb HMk HLk
      by_cases h1 : a ≤ x1
      · by_cases h2 : x1 ≤ b
        · by_cases h3 : (RN k).length < N
          · have HE := Lib.hid (HMk.out h1 h2 h3)
            go_wp2_with (at_builtin; refine wpList_append_pair HO.out HB.out.size rfl _ _ 30 rfl i0 Tryd.underlying30 hi hz0 hz1 hz2 _ _ 1 rfl rfl (by unfold maxLen; omega) (by omega) ?_)
            intro v' w5 hown' hb'
            have HO2 := Lib.hid hown'
            have HB2 := Lib.hid (HB.out.trans hb')
            clear hown' hb'
            go_wp2
            go_roundw
            case rel => exact ⟨k + 1, by omega, by go_num, by rw [HE.out, List.length_append]; exact HO2.out, HB2.out⟩
            case measure => simp [intOf]; omega
          · have HE := Lib.hid (HFk.out h3)
            go_wp2
            go_roundw
            case rel => exact ⟨k + 1, by omega, by go_num, by rw [HE.out]; exact HO.out, HB.out⟩
            case measure => simp [intOf]; omega
        · have HE := Lib.hid (HLk.out (by omega))
          go_wp2
          go_roundw
          case rel => exact ⟨k + 1, by omega, by go_num, by rw [HE.out]; exact HO.out, HB.out⟩
          case measure => simp [intOf]; omega
      · have HE := Lib.hid (HLk.out (by omega))
        go_wp2
        go_roundw
        case rel => exact ⟨k + 1, by omega, by go_num, by rw [HE.out]; exact HO.out, HB.out⟩
        case measure => simp [intOf]; omega
    · obtain rfl : k = L.length := by omega
      go_wp2
      go_ret
      exact ⟨_, rfl, by rw [← HA.out]; exact HO.out, HB.out⟩
end Go.Proofs.YthkhideonceibaaDoor.Span

namespace Go.Proofs.YthkhideonceibaaDoor.Span
open Go.RowKit Go.Shelf Go.Sort Go.Proofs.YthkhideonceibaaDoor Go.Proofs.YthkhideonceibaaDoor.Occ Go.Proofs.YthkhideonceibaaDoor.Slo Go.Proofs.YthkhideonceibaaDoor.Seek
attribute [local go_sem] sval Oper.semAt_some

set_option maxRecDepth 100000 in
theorem Fits_any (n : Int) (w : World) : Calls Tryd.prog 33 #[.int .i64 n] w fun e w' => e = .returned (.bool (decide (0 ≤ n) && decide (n ≤ 1000))) ∧ w = w' := by
  by_cases h : 0 ≤ n
  · have HV : Hid ((decide (0 ≤ n) && decide (n ≤ 1000)) = decide (n ≤ 1000)) := Lib.hid (by simp [h])
    rw [HV.out]
    go_enter Tryd.func33, Tryd.ntmps33
    go_wp2
    go_ret
    exact ⟨rfl, rfl⟩
  · have HV : Hid ((decide (0 ≤ n) && decide (n ≤ 1000)) = false) := Lib.hid (by simp [h])
    rw [HV.out]
    go_enter Tryd.func33, Tryd.ntmps33
    go_wp2
    go_ret
    exact ⟨rfl, rfl⟩

set_option maxRecDepth 100000 in
set_option maxHeartbeats 4000000 in
theorem refScan_any (s : Sl) (h : Hd) (a b n : Int) (w : World) (W : s.Wf) (R : SRd w s h) :
    Calls Tryd.prog 12 #[sval s h, .int .i64 a, .int .i64 b, .int .i64 n] w fun e w' => AnsPr (scanV s a b n) w e w' := by
  have E0 := Lib.hid (((St.below' (allocS_below w s h))).and (St.rd (R.next (allocS_below w s h))))
  have HA := Lib.hid (fun w1 (R : SRd w1 s h) => asked12_any s h w1 W R)
  have HF := Lib.hid (fun w1 => Fits_any n w1)
  by_cases hk : chkK s = 0
  · have hsm := all_small (chkK_ok hk).1
    rw [show askL s = (allP s, 0) from if_pos hk] at HA
    by_cases hn : n < 0 ∨ 1000 < n
    · have e : scanV s a b n = ([], 2) := by unfold scanV; rw [if_neg (by simpa using hk), if_pos hn]
      rw [show (decide (0 ≤ n) && decide (n ≤ 1000)) = false by rw [Bool.and_eq_false_iff]; simp; omega] at HF
      rw [e]
      generalize allP s = L at *
      clear hk hn R W e
      unfold sval at *
      go_enter Tryd.func12, Tryd.ntmps12
      go_wp2_with fail
      rw [allocS_fold]
      generalize allocS w s h = w0 at *
      refine (HA.out _ E0.out.now.1).mono ?_
      rintro e w1 ⟨v, rfl, ho, hb⟩
      have E1 := Lib.hid (E0.out.next hb)
      clear ho hb
      go_wp2_with fail
      refine (HF.out _).mono ?_
      rintro e w2 ⟨rfl, rfl⟩
      go_wp2
      refine bodyPost_ret (v := .tuple #[.slice Option.none 0 0, .int .i64 2]) (by simp [results, Tryd.results12, go_sem]) rfl ?_
      exact AnsPr.none E1.out.now.2
    · have hN : ((n.toNat : Nat) : Int) = n := Int.toNat_of_nonneg (by omega)
      have e : scanV s a b n = ((runL (allP s) a b).take n.toNat, 0) := by unfold scanV; rw [if_neg (by simpa using hk), if_neg hn]
      rw [show (decide (0 ≤ n) && decide (n ≤ 1000)) = true by rw [Bool.and_eq_true]; simp; omega] at HF
      rw [e]
      generalize n.toNat = N at *
      obtain rfl := hN
      have HRO := Lib.hid (fun al cl w1 (hr : Rd2 w1 al (allP s)) => RunOf_any al cl (allP s) a b N w1 hr (by omega))
      generalize ((runL (allP s) a b).take N) = V at *
      generalize allP s = L at *
      clear hk hn R W e
      unfold sval at *
      go_enter Tryd.func12, Tryd.ntmps12
      go_wp2_with fail
      rw [allocS_fold]
      generalize allocS w s h = w0 at *
      refine (HA.out _ E0.out.now.1).mono ?_
      rintro e w1 ⟨v, rfl, ho, hb⟩
      obtain ⟨al, cl, rfl, -, hr2, hcl, -⟩ := owns2_arg ho
      have E1 := Lib.hid ((E0.out.next hb).and (St.rd2 hr2))
      clear ho hb
      go_wp2_with fail
      refine (HF.out _).mono ?_
      rintro e w2 ⟨rfl, rfl⟩
      go_wp2_with fail
      refine (HRO.out _ _ _ E1.out.now.1).mono ?_
      rintro e w3 ⟨v, rfl, hrow, hb⟩
      have HRW := Lib.hid hrow
      have HB := Lib.hid (E1.out.now.2.2.trans (hb.mono E1.out.now.2.2.size))
      have HS := Lib.hid E1.out.now.2.2.size
      clear hrow hb
      go_wp2
      refine bodyPost_ret (v := .tuple #[v, .int .i64 0]) (by simp [results, Tryd.results12, go_sem]) rfl ?_
      exact ⟨_, rfl, HRW.out.mono HS.out, HB.out⟩
  · have e : scanV s a b n = ([], chkK s) := by unfold scanV; rw [if_pos (by simpa using hk)]
    rw [show askL s = ([], chkK s) from if_neg hk] at HA
    rw [e]
    generalize chkK s = c at *
    have b0 : (c != 0) = true := by rw [bne_iff_ne]; exact hk
    clear R W e
    unfold sval at *
    go_enter Tryd.func12, Tryd.ntmps12
    go_wp2_with fail
    rw [allocS_fold]
    generalize allocS w s h = w0 at *
    refine (HA.out _ E0.out.now.1).mono ?_
    rintro e w1 ⟨v, rfl, ho, hb⟩
    have E1 := Lib.hid (E0.out.next hb)
    clear ho hb
    go_wp2
    refine bodyPost_ret (v := .tuple #[.slice Option.none 0 0, .int .i64 c]) (by simp [results, Tryd.results12, go_sem]) rfl ?_
    exact AnsPr.none E1.out.now.2
end Go.Proofs.YthkhideonceibaaDoor.Span

namespace Go.Proofs.YthkhideonceibaaDoor.Span
open Go.RowKit Go.Shelf Go.Sort Go.Proofs.YthkhideonceibaaDoor Go.Proofs.YthkhideonceibaaDoor.Occ Go.Proofs.YthkhideonceibaaDoor.Slo Go.Proofs.YthkhideonceibaaDoor.Seek
theorem pcells_set (P : List (Int × Int)) (k : Nat) (u : Int) (hk : k < P.length) : (pcells P).set (k * 2) (.int .i64 u) = pcells (P.set k (u, (P.getD k (0, 0)).2)) := by
  induction P generalizing k with
  | nil => simp at hk
  | cons p P ih =>
    have e : ∀ (p : Int × Int) P, pcells (p :: P) = .int .i64 p.1 :: .int .i64 p.2 :: pcells P := fun _ _ => rfl
    cases k with
    | zero => simp [e]
    | succ k =>
      rw [e, show (k + 1) * 2 = k * 2 + 1 + 1 by omega, List.set_cons_succ, List.set_cons_succ, ih k (by simpa using hk), List.set_cons_succ, e]
      simp
/-- Pairs of the law's own, while their keys are turned. -/
def XInv (n : Nat) (w wr : World) (a : Option Addr) (l c : Nat) : Prop := ∃ P : List (Int × Int), P.length = l ∧ wr.ownsRow n 38 2 (.slice a l c) l (pcells P) ∧ Below n w wr
theorem XInv.at {n l c k : Nat} {w wr : World} {a : Option Addr} (h : XInv n w wr a l c) (hk : k < l) : ∃ g u, a = some ⟨g, 0, Option.none⟩ ∧ wr.cell? ⟨g, k * 2, Option.none⟩ = some (.int .i64 u) ∧ wr.frozen? ⟨g, k * 2, Option.none⟩ = false ∧
    ∀ x, XInv n w (wr.setCell ⟨g, k * 2, Option.none⟩ (.int .i64 x)) a l c := by
  obtain ⟨P, rfl, ho, hb⟩ := h
  rcases ho.2 with ⟨h1, h2⟩ | ⟨g, cap, cur, h1, hg, _⟩
  · have := pcells_length P
    rw [h2] at this; simp at this; omega
  · simp only [Value.slice.injEq] at h1
    obtain ⟨rfl, -, -⟩ := h1
    refine ⟨g, _, rfl, by rw [ho.cellAt (k * 2) (by omega), (pcells_get P k hk).1], ho.frozenAt _, fun x => ⟨P.set k (x, (P.getD k (0, 0)).2), List.length_set, ?_, hb.setCell hg _⟩⟩
    have := (ho.stored (k * 2) (.int .i64 x)).1
    rwa [pcells_set P k x hk] at this
theorem XInv.below {n l c : Nat} {w wr : World} {a : Option Addr} (h : XInv n w wr a l c) : Below n w wr := by
  obtain ⟨P, _, _, hb⟩ := h; exact hb
end Go.Proofs.YthkhideonceibaaDoor.Span
