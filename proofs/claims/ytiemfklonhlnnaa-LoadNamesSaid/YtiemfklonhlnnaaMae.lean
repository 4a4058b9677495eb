/- Contracts of package slots and of the document's answer: fits, Great, Is. Contracts of package slots: Check. Contracts of package slots: Check, to its end. Contracts of the document's answer: May, Check. Contracts of package slots and of the document's answer: the document's Check; Same. Contracts of package slots: Twin. A gapped array of one's own, behind a pointer: what a store leaves. -/
import Derived.Test.YtiemfklonhlnnaaMad
import Derived.Deep.RegionHeld
import Derived.Deep.DrawnRows
import Derived.Deep.Onto
set_option linter.unusedSimpArgs false
set_option linter.unusedVariables false
namespace Go.Proofs.Ytiemfklonhlnnaa.Slo
open Go.RowKit Go.Proofs.Ytiemfklonhlnnaa Go.Proofs.Ytiemfklonhlnnaa.Occ Go.Proofs.Ytiemfklonhlnnaa.Frac
attribute [local go_sem] sval

set_option maxRecDepth 100000 in
set_option maxHeartbeats 1000000 in
theorem fits_any (g n : Int) (w : World) (wg : (Lit.int .i64 g).wf = true) (wn : (Lit.int .i64 n).wf = true) :
    Calls Try.prog 44 #[.int .i64 g, .int .i64 n] w fun e w' => e = .returned (.bool (fitsB g n)) ∧ w = w' := by
  have HG := Lib.hid (power_any g w wg)
  have bn := bd64 wn
  clear wg wn
  by_cases h1 : 4 ≤ g
  · by_cases h2 : g ≤ 64
    · by_cases h3 : powB g = true
      · by_cases h4 : g ≤ n
        · by_cases h5 : n ≤ 65536
          · have t1 : n.tmod g = n % g := Int.tmod_eq_emod_of_nonneg (by omega)
            have t2 : n.tdiv g = n / g := Int.tdiv_eq_ediv_of_nonneg (by omega)
            have g0 : g ≠ 0 := by omega
            have g1 : (g == 0) = false := by rw [beq_eq_false_iff_ne]; exact g0
            have q1 : 0 ≤ n / g := Int.ediv_nonneg (by omega) (by omega)
            have q2 : n / g ≤ n := Int.ediv_le_self _ (by omega)
            have m1 : 0 ≤ n % g := Int.emod_nonneg _ g0
            have m2 : n % g < g := Int.emod_lt_of_pos _ (by omega)
            have HQ := Lib.hid (power_any (n / g) w (by simp [Lit.wf, IntKind.min, IntKind.max, IntKind.signed, IntKind.bits]; omega))
            by_cases h6 : n % g = 0
            · have HV : Hid (fitsB g n = powB (n / g)) := Lib.hid (by unfold fitsB; simp [h1, h2, h3, h4, h5, h6])
              have w1 : IntKind.i64.wrap (n / g) = n / g := by rw [IntKind.wrap_i64]; omega
              rw [HV.out]
              rw [h3] at HG
              rw [h6] at t1
              clear h6 m1 m2 HV
              generalize n / g = q at *
              generalize powB q = b at *
              go_enter Try.func44, Try.ntmps44
              go_wp2_with fail
              refine HG.out.mono ?_
              rintro e w' ⟨rfl, rfl⟩
              go_wp2_with fail
              refine HQ.out.mono ?_
              rintro e w' ⟨rfl, rfl⟩
              go_wp2
              go_ret
              exact ⟨rfl, rfl⟩
            · have HV : Hid (fitsB g n = false) := Lib.hid (by unfold fitsB; simp [h6])
              have w1 : IntKind.i64.wrap (n % g) = n % g := by rw [IntKind.wrap_i64]; omega
              rw [HV.out]
              rw [h3] at HG
              have hne : (n % g == 0) = false := by rw [beq_eq_false_iff_ne]; exact h6
              clear HV q1 q2 HQ t2
              generalize n % g = q at *
              go_enter Try.func44, Try.ntmps44
              go_wp2_with fail
              refine HG.out.mono ?_
              rintro e w' ⟨rfl, rfl⟩
              go_wp2
              go_ret
              exact ⟨rfl, rfl⟩
          · have HV : Hid (fitsB g n = false) := Lib.hid (by unfold fitsB; simp [h5])
            rw [HV.out]
            rw [h3] at HG
            go_enter Try.func44, Try.ntmps44
            go_wp2_with fail
            refine HG.out.mono ?_
            rintro e w' ⟨rfl, rfl⟩
            go_wp2
            go_ret
            exact ⟨rfl, rfl⟩
        · have HV : Hid (fitsB g n = false) := Lib.hid (by unfold fitsB; simp [h4])
          rw [HV.out]
          rw [h3] at HG
          go_enter Try.func44, Try.ntmps44
          go_wp2_with fail
          refine HG.out.mono ?_
          rintro e w' ⟨rfl, rfl⟩
          go_wp2
          go_ret
          exact ⟨rfl, rfl⟩
      · have HV : Hid (fitsB g n = false) := Lib.hid (by unfold fitsB; simp [h3])
        rw [HV.out]
        rw [Bool.not_eq_true] at h3
        rw [h3] at HG
        go_enter Try.func44, Try.ntmps44
        go_wp2_with fail
        refine HG.out.mono ?_
        rintro e w' ⟨rfl, rfl⟩
        go_wp2
        go_ret
        exact ⟨rfl, rfl⟩
    · have HV : Hid (fitsB g n = false) := Lib.hid (by unfold fitsB; simp [h2])
      rw [HV.out]
      go_enter Try.func44, Try.ntmps44
      go_wp2
      go_ret
      exact ⟨rfl, rfl⟩
  · have HV : Hid (fitsB g n = false) := Lib.hid (by unfold fitsB; simp [h1])
    rw [HV.out]
    go_enter Try.func44, Try.ntmps44
    go_wp2
    go_ret
    exact ⟨rfl, rfl⟩

end Go.Proofs.Ytiemfklonhlnnaa.Slo

namespace Go.Proofs.Ytiemfklonhlnnaa.Slo
open Go.RowKit Go.Sort Go.Proofs.Ytiemfklonhlnnaa Go.Proofs.Ytiemfklonhlnnaa.Occ Go.Proofs.Ytiemfklonhlnnaa.Frac
attribute [local go_sem] sval

/-- The cells of a struct of six that was laid into a new block. -/
theorem box6 {w wr : World} {v0 v1 v2 v3 v4 v5 : Value} {t : TypeId} (h : Below (w.heap.size + 1) (w.alloc (.cells #[v0, v1, v2, v3, v4, v5] t)) wr) :
    wr.cell? ⟨w.heap.size, 0, Option.none⟩ = some v0 ∧ wr.cell? ⟨w.heap.size, 1, Option.none⟩ = some v1 ∧ wr.cell? ⟨w.heap.size, 2, Option.none⟩ = some v2 ∧
    wr.cell? ⟨w.heap.size, 3, Option.none⟩ = some v3 ∧ wr.cell? ⟨w.heap.size, 4, Option.none⟩ = some v4 ∧ wr.cell? ⟨w.heap.size, 5, Option.none⟩ = some v5 := by
  have H : ∀ j u, [v0, v1, v2, v3, v4, v5][j]? = some u → wr.cell? ⟨w.heap.size, j, Option.none⟩ = some u := fun j u hj => by
    rw [h.cell (p := ⟨w.heap.size, j, Option.none⟩) (by show w.heap.size < w.heap.size + 1; omega)]
    have := new_cells w t #[v0, v1, v2, v3, v4, v5] j u (by simpa using hj)
    rwa [Addr.add_lit, Nat.zero_add] at this
  exact ⟨H 0 _ rfl, H 1 _ rfl, H 2 _ rfl, H 3 _ rfl, H 4 _ rfl, H 5 _ rfl⟩

/-- Why one may not be. -/
theorem okS_no {s : Sl} (h : ¬ (fitsB s.seg s.ks.length = true ∧ s.vs.length = s.ks.length ∧ mayB s.ws s.ks.length = true ∧ s.cs.length = s.ks.length / s.seg.toNat)) : okS s = false := by
  rw [Bool.eq_false_iff]
  intro g
  unfold okS at g
  simp only [Bool.and_eq_true, decide_eq_true_eq] at g
  exact h ⟨g.1, g.2.1, g.2.2.1, g.2.2.2.1⟩
theorem okS_blank {s : Sl} {i : Nat} (hi : i < s.ks.length) (ho : occB s.ws i = false) (h : ¬ (s.ks.getD i 0 = 0 ∧ s.vs.getD i 0 = 0)) : okS s = false := by
  rw [Bool.eq_false_iff]
  intro g
  obtain ⟨_, _, o⟩ := okS_iff.1 g
  exact h (o.blank i hi ho)
theorem okS_cnt {s : Sl} {k g : Nat} (hg : s.seg = (g : Int)) (hk : k < s.cs.length) (h : ¬ ((occs s.ws (k * g) g).length : Int) = s.cs.getD k 0) : okS s = false := by
  rw [Bool.eq_false_iff]
  intro h1
  unfold okS at h1
  simp only [Bool.and_eq_true] at h1
  have := cntB_iff.1 h1.2.2.2.2.2 k hk
  rw [hg, Int.toNat_natCast] at this
  exact h this.symm
theorem okS_yes {s : Sl} (h : fitsB s.seg s.ks.length = true ∧ s.vs.length = s.ks.length ∧ mayB s.ws s.ks.length = true ∧ s.cs.length = s.ks.length / s.seg.toNat)
    (hb : ∀ i, i < s.ks.length → occB s.ws i = false → s.ks.getD i 0 = 0 ∧ s.vs.getD i 0 = 0) {g : Nat} (hg : s.seg = (g : Int)) (hc : ∀ k, k < s.cs.length → ((occs s.ws (k * g) g).length : Int) = s.cs.getD k 0) : okS s = true := by
  unfold okS
  simp only [Bool.and_eq_true, decide_eq_true_eq]
  exact ⟨h.1, h.2.1, h.2.2.1, h.2.2.2, blankB_iff.2 hb, cntB_iff.2 fun k hk => by rw [hg, Int.toNat_natCast]; exact (hc k hk).symm⟩

/-- What is told when the first tests are passed. -/
structure Pre (s : Sl) (g q : Nat) : Prop where
  seg : s.seg = (g : Int)
  g4 : 4 ≤ g
  g64 : g ≤ 64
  n : s.ks.length = q * g
  n1 : s.ks.length ≤ 65536
  v : s.vs.length = s.ks.length
  may : mayB s.ws s.ks.length = true
  w : s.ws.length = (s.ks.length + 63) / 64
  c : s.cs.length = q
theorem pre_of {s : Sl} (h : fitsB s.seg s.ks.length = true ∧ s.vs.length = s.ks.length ∧ mayB s.ws s.ks.length = true ∧ s.cs.length = s.ks.length / s.seg.toNat) : ∃ g q, Pre s g q := by
  obtain ⟨hf, hv, hm, hc⟩ := h
  obtain ⟨g, hg⟩ := Int.eq_ofNat_of_zero_le (show 0 ≤ s.seg by have := (fitsB_iff.1 hf).1; omega)
  rw [hg] at hf
  obtain ⟨h1, h2, h3, q, h4, h5, h6, h7, h8⟩ := fits_nat hf
  rw [hg, Int.toNat_natCast, h6] at hc
  exact ⟨g, q, hg, h1, h2, h4, h3, hv, hm, (mayB_iff.1 hm).1, hc⟩
theorem cnt_seg {s : Sl} {g q : Nat} (p : Pre s g q) {k : Nat} (hk : k < q) : k * g + g ≤ s.ks.length ∧ cntV s.ws (s.ks.length : Int) ((k * g : Nat) : Int) ((k * g + g : Nat) : Int) = (((occs s.ws (k * g) g).length : Int), 0) := by
  have h1 : (k + 1) * g ≤ q * g := Nat.mul_le_mul_right _ hk
  have e1 : (k + 1) * g = k * g + g := Nat.succ_mul _ _
  have h2 := p.n
  have h3 := p.n1
  refine ⟨by omega, ?_⟩
  unfold cntV
  have hc : chkV s.ws (s.ks.length : Int) = 0 := by rw [chkV_in p.n1, if_pos p.may]
  rw [if_pos (ask_ok hc (inB_iff.2 ⟨by omega, by omega, by omega⟩)), Int.toNat_natCast, show (((k * g + g : Nat) : Int) - ((k * g : Nat) : Int)).toNat = g by omega]

theorem ret_i {k : IntKind} {a b : Int} (h : a = b) : Ending.returned (.int k a) = .returned (.int k b) := by rw [h]

set_option maxRecDepth 100000 in
set_option maxHeartbeats 4000000 in
theorem check_no (s : Sl) (h : Hd) (w : World) (W : s.Wf) (R : SRd w s h) (hn : ¬ (fitsB s.seg s.ks.length = true ∧ s.vs.length = s.ks.length ∧ mayB s.ws s.ks.length = true ∧ s.cs.length = s.ks.length / s.seg.toNat)) :
    Calls Try.prog 30 #[sval s h] w fun e w' => e = .returned (.int .i64 8) ∧ Below w.heap.size w w' := by
  have HB : Hid (∀ o, Below w.heap.size w (w.alloc o)) := Lib.hid fun o => (Below.refl _ w).alloc (Nat.le_refl _) _
  have HF := Lib.hid (fun w1 => fits_any s.seg s.ks.length w1 W.seg (by have := W.lk; simp [Lit.wf, IntKind.min, IntKind.max, IntKind.signed, IntKind.bits]; omega))
  have HC := Lib.hid (fun w1 (hb : Below w.heap.size w w1) => Check_any h.aw h.cw s.ws s.ks.length w1 W.u (R.fw.mono hb (Nat.le_refl _)) W.lw)
  by_cases h1 : fitsB s.seg s.ks.length = true
  · by_cases h2 : s.vs.length = s.ks.length
    · by_cases h3 : mayB s.ws s.ks.length = true
      · have h4 : ¬ s.cs.length = s.ks.length / s.seg.toNat := fun h4 => hn ⟨h1, h2, h3, h4⟩
        obtain ⟨g, hg⟩ := Int.eq_ofNat_of_zero_le (show 0 ≤ s.seg by have := (fitsB_iff.1 h1).1; omega)
        rw [h1] at HF
        rw [hg] at h1 h4
        obtain ⟨g1, g2, g3, q, g4, g5, g6, _⟩ := fits_nat h1
        rw [Int.toNat_natCast, g6] at h4
        rw [chkV_in g3, if_pos h3] at HC
        have t2 : (s.ks.length : Int).tdiv s.seg = (q : Int) := by rw [Int.tdiv_eq_ediv_of_nonneg (by omega), hg, ← g6]; simp
        have s0 : (s.seg == 0) = false := by rw [beq_eq_false_iff_ne]; omega
        have s1 : s.seg ≠ 0 := by omega
        have n1 : ((s.vs.length : Int) != (s.ks.length : Int)) = false := by simp [h2]
        have n2 : ((s.cs.length : Int) != (q : Int)) = true := by rw [bne_iff_ne]; omega
        have hq : q ≤ 65536 := by rw [← g6]; exact Nat.le_trans (Nat.div_le_self _ _) g3
        have w1 : IntKind.i64.wrap (q : Int) = (q : Int) := by rw [IntKind.wrap_i64]; omega
        clear W R hn h1 h2 h3 h4 g4 g5 g6 hg
        unfold sval
        generalize s.seg = sg at *
        generalize s.ks.length = n at *
        generalize s.vs.length = nv at *
        generalize s.cs.length = nc at *
        generalize s.ws.length = nw at *
        go_enter Try.func30, Try.ntmps30
        go_wp2
        refine region_qb' _ (w.heap.size + 1) (Below.refl _ _) mixed' (by kernel_rfl) fun w5 hB hz => ?_
        obtain ⟨c0, c1, c2, c3, c4, c5⟩ := box6 hB
        have k0 := cell_regrown c0; have k1 := cell_regrown c1; have k2 := cell_regrown c2; have k3 := cell_regrown c3; have k4 := cell_regrown c4
        have HB5 := Lib.hid (Below.regrown hB (by simpa using hz))
        clear hB c0 c1 c2 c3 c4 c5 hz
        repeat (go_big_quiet_step (first | exact Calls.regrown_of (same_below (HF.out _)) | exact Calls.regrown_of (same_below (HC.out _ ((HB.out _).trans ((HB5.out _ _).mono (Nat.le_succ _)))))))
        refine wpQuiet_nil ?_
        rintro _ ⟨⟨dq, osq⟩, rfl⟩
        have HB6 := Lib.hid (HB5.out dq osq)
        generalize grow (redrawn w5 dq) osq = w6 at *
        clear k0 k1 k2 k3 k4
        go_wp2
        go_ret
        exact ⟨rfl, (HB.out _).trans (HB6.out.mono (Nat.le_succ _))⟩
      · have g3 := (fitsB_iff.1 h1).2.2.2.2.1
        rw [h1] at HF
        rw [chkV_in (by omega), if_neg h3] at HC
        have n1 : ((s.vs.length : Int) != (s.ks.length : Int)) = false := by simp [h2]
        clear W R hn h1 h2 h3 g3
        unfold sval
        generalize s.seg = sg at *
        generalize s.ks.length = n at *
        generalize s.vs.length = nv at *
        generalize s.cs.length = nc at *
        generalize s.ws.length = nw at *
        go_enter Try.func30, Try.ntmps30
        go_wp2
        refine region_qb' _ (w.heap.size + 1) (Below.refl _ _) mixed' (by kernel_rfl) fun w5 hB hz => ?_
        obtain ⟨c0, c1, c2, c3, c4, c5⟩ := box6 hB
        have k0 := cell_regrown c0; have k1 := cell_regrown c1; have k2 := cell_regrown c2; have k3 := cell_regrown c3; have k4 := cell_regrown c4
        have HB5 := Lib.hid (Below.regrown hB (by simpa using hz))
        clear hB c0 c1 c2 c3 c4 c5 hz
        repeat (go_big_quiet_step (first | exact Calls.regrown_of (same_below (HF.out _)) | exact Calls.regrown_of (same_below (HC.out _ ((HB.out _).trans ((HB5.out _ _).mono (Nat.le_succ _)))))))
        refine wpQuiet_nil ?_
        rintro _ ⟨⟨dq, osq⟩, rfl⟩
        have HB6 := Lib.hid (HB5.out dq osq)
        generalize grow (redrawn w5 dq) osq = w6 at *
        clear k0 k1 k2 k3 k4
        go_wp2
        go_ret
        exact ⟨rfl, (HB.out _).trans (HB6.out.mono (Nat.le_succ _))⟩
    · rw [h1] at HF
      have n1 : ((s.vs.length : Int) != (s.ks.length : Int)) = true := by rw [bne_iff_ne]; omega
      clear W R hn h1 h2
      unfold sval
      generalize s.seg = sg at *
      generalize s.ks.length = n at *
      generalize s.vs.length = nv at *
      generalize s.cs.length = nc at *
      generalize s.ws.length = nw at *
      go_enter Try.func30, Try.ntmps30
      go_wp2
      refine region_qb' _ (w.heap.size + 1) (Below.refl _ _) mixed' (by kernel_rfl) fun w5 hB hz => ?_
      obtain ⟨c0, c1, c2, c3, c4, c5⟩ := box6 hB
      have k0 := cell_regrown c0; have k1 := cell_regrown c1; have k2 := cell_regrown c2; have k3 := cell_regrown c3; have k4 := cell_regrown c4
      have HB5 := Lib.hid (Below.regrown hB (by simpa using hz))
      clear hB c0 c1 c2 c3 c4 c5 hz
      repeat (go_big_quiet_step (first | exact Calls.regrown_of (same_below (HF.out _)) | exact Calls.regrown_of (same_below (HC.out _ ((HB.out _).trans ((HB5.out _ _).mono (Nat.le_succ _)))))))
      refine wpQuiet_nil ?_
      rintro _ ⟨⟨dq, osq⟩, rfl⟩
      have HB6 := Lib.hid (HB5.out dq osq)
      generalize grow (redrawn w5 dq) osq = w6 at *
      clear k0 k1 k2 k3 k4
      go_wp2
      go_ret
      exact ⟨rfl, (HB.out _).trans (HB6.out.mono (Nat.le_succ _))⟩
  · rw [Bool.not_eq_true] at h1
    rw [h1] at HF
    clear W R hn h1
    unfold sval
    generalize s.seg = sg at *
    generalize s.ks.length = n at *
    generalize s.vs.length = nv at *
    generalize s.cs.length = nc at *
    generalize s.ws.length = nw at *
    go_enter Try.func30, Try.ntmps30
    go_wp2
    refine region_qb' _ (w.heap.size + 1) (Below.refl _ _) mixed' (by kernel_rfl) fun w5 hB hz => ?_
    obtain ⟨c0, c1, c2, c3, c4, c5⟩ := box6 hB
    have k0 := cell_regrown c0; have k1 := cell_regrown c1; have k2 := cell_regrown c2; have k3 := cell_regrown c3; have k4 := cell_regrown c4
    have HB5 := Lib.hid (Below.regrown hB (by simpa using hz))
    clear hB c0 c1 c2 c3 c4 c5 hz
    repeat (go_big_quiet_step (first | exact Calls.regrown_of (same_below (HF.out _)) | exact Calls.regrown_of (same_below (HC.out _ ((HB.out _).trans ((HB5.out _ _).mono (Nat.le_succ _)))))))
    refine wpQuiet_nil ?_
    rintro _ ⟨⟨dq, osq⟩, rfl⟩
    have HB6 := Lib.hid (HB5.out dq osq)
    generalize grow (redrawn w5 dq) osq = w6 at *
    clear k0 k1 k2 k3 k4
    go_wp2
    go_ret
    exact ⟨rfl, (HB.out _).trans (HB6.out.mono (Nat.le_succ _))⟩
end Go.Proofs.Ytiemfklonhlnnaa.Slo

namespace Go.Proofs.Ytiemfklonhlnnaa.Slo
open Go.RowKit Go.Sort Go.Proofs.Ytiemfklonhlnnaa Go.Proofs.Ytiemfklonhlnnaa.Occ Go.Proofs.Ytiemfklonhlnnaa.Frac
attribute [local go_sem] sval

theorem bne_int {a b : Int} (h : a = b) : (a != b) = false := by simp [h]
theorem bne_int' {a b : Int} (h : ¬ a = b) : (a != b) = true := by rw [bne_iff_ne]; exact h
theorem occ_and (x k : Nat) (hx : x < 18446744073709551616) : (((x / 2 ^ k % 2 : Nat) : Int) == 0) = !(x.testBit k) := by
  rw [testBit_is]
  rcases Nat.mod_two_eq_zero_or_one (x / 2 ^ k) with h | h <;> rw [h] <;> rfl
set_option maxRecDepth 100000 in
set_option maxHeartbeats 8000000 in
theorem check_yes (s : Sl) (h : Hd) (w : World) (W : s.Wf) (R : SRd w s h) (hy : fitsB s.seg s.ks.length = true ∧ s.vs.length = s.ks.length ∧ mayB s.ws s.ks.length = true ∧ s.cs.length = s.ks.length / s.seg.toNat) :
    Calls Try.prog 30 #[sval s h] w fun e w' => e = .returned (.int .i64 (chkS s)) ∧ Below w.heap.size w w' := by
  obtain ⟨g, q, p⟩ := pre_of hy
  have HY := Lib.hid hy
  have HP := Lib.hid p
  have HB : Hid (∀ o, Below w.heap.size w (w.alloc o)) := Lib.hid fun o => (Below.refl _ w).alloc (Nat.le_refl _) _
  have HF := Lib.hid (fun w1 => fits_any s.seg s.ks.length w1 W.seg (by have := W.lk; simp [Lit.wf, IntKind.min, IntKind.max, IntKind.signed, IntKind.bits]; omega))
  have HC := Lib.hid (fun w1 (hb : Below w.heap.size w w1) => Check_any h.aw h.cw s.ws s.ks.length w1 W.u (R.fw.mono hb (Nat.le_refl _)) W.lw)
  have HN := Lib.hid (fun w1 (hb : Below w.heap.size w w1) f t => Count_any h.aw h.cw s.ws s.ks.length f t w1 W.u (R.fw.mono hb (Nat.le_refl _)) W.lw)
  have HR : Hid (∀ w1, Below w.heap.size w w1 → SRd w1 s h) := Lib.hid (fun w1 hb => R.mono hb (Nat.le_refl _))
  rw [hy.1] at HF
  rw [chkV_in p.n1, if_pos p.may] at HC
  have HU := Lib.hid W.u
  have hqn : q ≤ 65536 := by
    have h1 := p.n1
    rw [p.n] at h1
    have := Nat.mul_le_mul_left q p.g4
    omega
  have t2 : (s.ks.length : Int).tdiv s.seg = (q : Int) := by
    rw [Int.tdiv_eq_ediv_of_nonneg (by omega), p.seg, p.n]
    have : (((q * g) / g : Nat) : Int) = (q : Int) := by rw [Nat.mul_div_cancel _ (by have := p.g4; omega)]
    rw [← this]; simp
  have s0 : (s.seg == 0) = false := by rw [beq_eq_false_iff_ne]; have := p.seg; have := p.g4; omega
  have s1 : s.seg ≠ 0 := by have := p.seg; have := p.g4; omega
  have n1 : ((s.vs.length : Int) != (s.ks.length : Int)) = false := by simp [p.v]
  have n2 : ((s.cs.length : Int) != (q : Int)) = false := by simp [p.c]
  have w1 : IntKind.i64.wrap (q : Int) = (q : Int) := by rw [IntKind.wrap_i64]; omega
  have hn0 : s.ks.length ≤ 65536 := p.n1
  have hw0 : s.ks.length ≤ 64 * s.ws.length := by have := p.w; omega
  have hv0 : s.vs.length = s.ks.length := p.v
  have hlw := W.lw
  clear W R hy p
  unfold sval
  have HV0 := Lib.hid hv0
  generalize hsg : s.seg = sg at *
  generalize hn : s.ks.length = n at *
  generalize hnv : s.vs.length = nv at *
  generalize hnc : s.cs.length = nc at *
  generalize hnw : s.ws.length = nw at *
  have HSG := Lib.hid hsg; have HN0 := Lib.hid hn; have HNV := Lib.hid hnv; have HNC := Lib.hid hnc; have HNW := Lib.hid hnw
  clear hsg hn hnv hnc hnw hv0
  go_enter Try.func30, Try.ntmps30
  go_wp2
  refine region_qb' _ (w.heap.size + 1) (Below.refl _ _) mixed' (by kernel_rfl) fun w5 hB hz => ?_
  obtain ⟨c0, c1, c2, c3, c4, c5⟩ := box6 hB
  have k0 := cell_regrown c0; have k1 := cell_regrown c1; have k2 := cell_regrown c2; have k3 := cell_regrown c3; have k4 := cell_regrown c4
  have HB5 := Lib.hid (Below.regrown hB (by simpa using hz))
  clear hB c0 c1 c2 c3 c4 c5 hz
  repeat (go_big_quiet_step (first | exact Calls.regrown_of (same_below (HF.out _)) | exact Calls.regrown_of (same_below (HC.out _ ((HB.out _).trans ((HB5.out _ _).mono (Nat.le_succ _)))))))
  refine wpQuiet_nil ?_
  rintro _ ⟨⟨dq, osq⟩, rfl⟩
  have HB6 := Lib.hid (HB5.out dq osq)
  generalize grow (redrawn w5 dq) osq = w6 at *
  clear k0 k1 k2 k3 k4 HB5 HC HF n1 n2 t2 w1
  go_wp2
  go_loopw [4, 42] (fun _ i wr => ∃ k : Nat, k ≤ n ∧ i = .int .i64 k ∧ (∀ i, i < k → occB s.ws i = false → s.ks.getD i 0 = 0 ∧ s.vs.getD i 0 = 0) ∧ wr = w6) (fun _ i _ => n - (intOf i).toNat)
  case atStart => exact ⟨0, Nat.zero_le _, rfl, fun i hi => by omega, rfl⟩
  case round =>
    obtain ⟨k, hk, rfl, hall, rfl⟩ := hrel
    have HA := Lib.hid hall
    clear hall
    obtain ⟨c0, c1, c2, c3, c4, c5⟩ := box6 HB6.out
    by_cases hlt : k < n
    · have HR6 := HR.out wr ((HB.out _).trans (HB6.out.mono (Nat.le_succ _)))
      obtain ⟨bw, ow, haw, cw0⟩ := Rd.word HU.out HR6.fw (k / 64) (by rw [HNW.out]; omega)
      obtain ⟨bk, ok, hak, ck0⟩ := Rd.at HR6.fk (Below.refl _ _) (Nat.le_refl _) (show k < s.ks.length by rw [HN0.out]; exact hlt)
      obtain ⟨bv, ov, hav, cv0⟩ := Rd.at HR6.fv (Below.refl _ _) (Nat.le_refl _) (show k < s.vs.length by rw [HNV.out, HV0.out]; exact hlt)
      clear HR6
      rw [haw] at c1
      rw [hak] at c2
      rw [hav] at c3
      have hx := wd_of HU.out (k / 64)
      have hb1 := and_one (wd s.ws (k / 64)) (k % 64) hx
      have ho := occ_and (wd s.ws (k / 64)) (k % 64) hx
      have HO : Hid ((wd s.ws (k / 64)).testBit (k % 64) = occB s.ws k) := Lib.hid rfl
      rw [HO.out] at ho
      have hd : (k : Int) / 64 = ((k / 64 : Nat) : Int) := rfl
      have hm : (k : Int) % 64 = ((k % 64 : Nat) : Int) := rfl
      have hq1 : k / 64 < nw := by omega
      have hnv2 : k < nv := by have := HV0.out; omega
      have HKEY : Hid (∀ (_ : occB s.ws k = false) (_ : ¬ (s.ks.getD k 0 = 0 ∧ s.vs.getD k 0 = 0)), okS s = false) := Lib.hid fun h1 h2 => okS_blank (by rw [HN0.out]; exact hlt) h1 h2
      have HNEXT : Hid (∀ (_ : occB s.ws k = false → s.ks.getD k 0 = 0 ∧ s.vs.getD k 0 = 0), ∀ i, i < k + 1 → occB s.ws i = false → s.ks.getD i 0 = 0 ∧ s.vs.getD i 0 = 0) := Lib.hid fun h i hi => by
        by_cases hik : i = k
        · rw [hik]; exact h
        · exact HA.out i (by omega)
      have hk64 : k % 64 < 64 := Nat.mod_lt _ (by decide)
      clear haw hak hav c0 c4 c5 HO
      generalize wd s.ws (k / 64) = x at *
      generalize k / 64 = kq at *
      generalize k % 64 = km at *
      generalize s.ks.getD k 0 = y at *
      generalize s.vs.getD k 0 = z at *
      generalize x / 2 ^ km % 2 = d at *
      cases hoc : occB s.ws k
      · rw [hoc] at ho HKEY HNEXT
        rw [Bool.not_false] at ho
        by_cases hy0 : y = 0
        · have e1 := bne_int hy0
          by_cases hz0 : z = 0
          · have e2 := bne_int hz0
            have HX := Lib.hid (HNEXT.out (fun _ => ⟨hy0, hz0⟩))
            clear HKEY HNEXT hy0 hz0 hoc
            go_wp2
            go_roundw
            case rel => exact ⟨k + 1, by omega, by go_num, HX.out, trivial⟩
            case measure => simp [intOf]; omega
          · have e2 := bne_int' hz0
            have HX := Lib.hid (HKEY.out rfl (fun h => hz0 h.2))
            clear HKEY HNEXT hz0 hy0 hoc
            go_wp2
            go_ret
            exact ⟨by rw [chkS, HX.out]; rfl, (HB.out _).trans (HB6.out.mono (Nat.le_succ _))⟩
        · have e1 := bne_int' hy0
          have HX := Lib.hid (HKEY.out rfl (fun h => hy0 h.1))
          clear HKEY HNEXT hy0 hoc
          go_wp2
          go_ret
          exact ⟨by rw [chkS, HX.out]; rfl, (HB.out _).trans (HB6.out.mono (Nat.le_succ _))⟩
      · rw [hoc] at ho HKEY HNEXT
        rw [Bool.not_true] at ho
        have HX := Lib.hid (HNEXT.out (fun h => by cases h))
        clear HKEY HNEXT hoc
        go_wp2
        go_roundw
        case rel => exact ⟨k + 1, by omega, by go_num, HX.out, trivial⟩
        case measure => simp [intOf]; omega
    · obtain rfl : k = n := by omega
      obtain ⟨w7, rfl⟩ : ∃ w7 : World, w7 = wr := ⟨_, rfl⟩
      obtain rfl : sg = (g : Int) := by have := HSG.out; have := HP.out.seg; omega
      obtain rfl : nc = q := by have := HNC.out; have := HP.out.c; omega
      have hg4 := HP.out.g4
      have hg64 := HP.out.g64
      have hsz := HB6.out.size
      have HSZ : Hid (w.heap.size + 1 ≤ w7.heap.size) := Lib.hid (by simpa using hsz)
      clear hsz s0 s1 hlt hk c0 c1 c2 c3 c5
      go_wp2
      clear c4
      go_loopw [5, 6, 7, 8, 76] (fun _ _ _ _ i w2 => ∃ j : Nat, j ≤ nc ∧ i = .int .i64 j ∧ (∀ i, i < j → ((occs s.ws (i * g) g).length : Int) = s.cs.getD i 0) ∧ RowKit.Below w7.heap.size w7 w2) (fun _ _ _ _ i _ => nc - (intOf i).toNat)
      case atStart => exact ⟨0, Nat.zero_le _, rfl, fun i hi => by omega, Below.refl _ _⟩
      case round =>
        obtain ⟨j, hj, rfl, hcnt, hbl⟩ := hrel
        have HCN := Lib.hid hcnt
        have HBL := Lib.hid hbl
        clear hcnt hbl
        have HB7 : Hid (RowKit.Below (w.heap.size + 1) _ wr) := Lib.hid (HB6.out.trans (HBL.out.mono HSZ.out))
        by_cases hlt : j < nc
        · obtain ⟨c0, c1, c2, c3, c4, c5⟩ := box6 HB7.out
          have HB8 : Hid (RowKit.Below w.heap.size w wr) := Lib.hid ((HB.out _).trans (HB7.out.mono (Nat.le_succ _)))
          obtain ⟨bc, oc, hac, cc0⟩ := Rd.at (HR.out wr HB8.out).fc (Below.refl _ _) (Nat.le_refl _) (show j < s.cs.length by rw [HNC.out]; exact hlt)
          rw [hac] at c4 ⊢
          obtain ⟨e1, e2⟩ := cnt_seg HP.out hlt
          rw [HN0.out] at e1 e2
          have HCL := Lib.hid (HN.out wr HB8.out ((j * g : Nat) : Int) ((j * g + g : Nat) : Int))
          rw [e2] at HCL
          have HNO : Hid (¬ ((occs s.ws (j * g) g).length : Int) = s.cs.getD j 0 → okS s = false) := Lib.hid fun h => okS_cnt HP.out.seg (by rw [HNC.out]; exact hlt) h
          have HYES : Hid (((occs s.ws (j * g) g).length : Int) = s.cs.getD j 0 → ∀ i, i < j + 1 → ((occs s.ws (i * g) g).length : Int) = s.cs.getD i 0) := Lib.hid fun h i hi => by
            by_cases hij : i = j
            · rw [hij]; exact h
            · exact HCN.out i (by omega)
          have m1 : (j : Int) * (g : Int) = ((j * g : Nat) : Int) := by simp
          have m2 : ((j : Int) + 1) * (g : Int) = ((j * g + g : Nat) : Int) := by rw [← Nat.succ_mul]; simp
          have hmg : j * g + g ≤ 65536 := by omega
          have HOC := Lib.hid (occs_length s.ws (j * g) g)
          clear hac e1 e2 c3 c5
          generalize (occs s.ws (j * g) g).length = L at *
          generalize hG : j * g = G at *
          have HG := Lib.hid hG
          clear hG
          have u1 : IntKind.i64.wrap (G : Int) = (G : Int) := by rw [IntKind.wrap_i64]; omega
          have u2 : IntKind.i64.wrap ((G + g : Nat) : Int) = ((G + g : Nat) : Int) := by rw [IntKind.wrap_i64]; omega
          generalize hT : ((G + g : Nat) : Int) = T at *
          clear hT
          generalize s.cs.getD j 0 = y at *
          by_cases hy0 : (L : Int) = y
          · have e1 := bne_int hy0
            have HX := Lib.hid (HYES.out hy0)
            clear HNO HYES hy0
            go_wp2_with fail
            refine HCL.out.mono ?_
            rintro e w3 ⟨rfl, hb⟩
            have HB9 := Lib.hid (HBL.out.trans (hb.mono HBL.out.size))
            clear hb
            go_wp2
            go_roundw
            case rel => exact ⟨j + 1, by omega, by go_num, HX.out, HB9.out⟩
            case measure => simp [intOf]; omega
          · have e1 := bne_int' hy0
            have HX := Lib.hid (HNO.out hy0)
            clear HNO HYES hy0
            go_wp2_with fail
            refine HCL.out.mono ?_
            rintro e w3 ⟨rfl, hb⟩
            have HB9 := Lib.hid (HB8.out.trans (hb.mono HB8.out.size))
            clear hb
            go_wp2
            go_ret
            exact ⟨by rw [chkS, HX.out]; rfl, HB9.out⟩
        · obtain rfl : j = nc := by omega
          have HOK : Hid (okS s = true) := Lib.hid (okS_yes (by rw [HSG.out, HN0.out, HNV.out, HNC.out]; exact HY.out) (fun i hi => HA.out i (by have := HN0.out; omega)) HP.out.seg (fun k hk => HCN.out k (by have := HNC.out; omega)))
          clear hlt hj
          go_wp2
          go_ret
          exact ⟨by rw [chkS, HOK.out]; rfl, (HB.out _).trans (HB7.out.mono (Nat.le_succ _))⟩
theorem sCheck_any (s : Sl) (h : Hd) (w : World) (W : s.Wf) (R : SRd w s h) :
    Calls Try.prog 30 #[sval s h] w fun e w' => e = .returned (.int .i64 (chkS s)) ∧ RowKit.Below w.heap.size w w' := by
  by_cases hy : fitsB s.seg s.ks.length = true ∧ s.vs.length = s.ks.length ∧ mayB s.ws s.ks.length = true ∧ s.cs.length = s.ks.length / s.seg.toNat
  · exact check_yes s h w W R hy
  · have := check_no s h w W R hy
    rwa [show chkS s = 8 by rw [chkS, okS_no hy]; rfl]
end Go.Proofs.Ytiemfklonhlnnaa.Slo

namespace Go.Proofs.Ytiemfklonhlnnaa.Slo
open Go.RowKit Go.Sort Go.Proofs.Ytiemfklonhlnnaa Go.Proofs.Ytiemfklonhlnnaa.Occ Go.Proofs.Ytiemfklonhlnnaa.Frac
attribute [local go_sem] sval
attribute [local go_sem ↓] Go.wp_at_zero Go.wp_at_succ

end Go.Proofs.Ytiemfklonhlnnaa.Slo

namespace Go.Proofs.Ytiemfklonhlnnaa.Slo
open Go.RowKit Go.Proofs.Ytiemfklonhlnnaa Go.Proofs.Ytiemfklonhlnnaa.Occ Go.Proofs.Ytiemfklonhlnnaa.Frac
attribute [local go_sem] sval

/-- The cells of two structs of six. -/
theorem box66 {w wr : World} {v0 v1 v2 v3 v4 v5 u0 u1 u2 u3 u4 u5 : Value} {t : TypeId} (h : Below (w.heap.size + 1 + 1) ((w.alloc (.cells #[v0, v1, v2, v3, v4, v5] t)).alloc (.cells #[u0, u1, u2, u3, u4, u5] t)) wr) :
    (wr.cell? ⟨w.heap.size, 0, Option.none⟩ = some v0 ∧ wr.cell? ⟨w.heap.size, 1, Option.none⟩ = some v1 ∧ wr.cell? ⟨w.heap.size, 2, Option.none⟩ = some v2 ∧
    wr.cell? ⟨w.heap.size, 3, Option.none⟩ = some v3 ∧ wr.cell? ⟨w.heap.size, 4, Option.none⟩ = some v4 ∧ wr.cell? ⟨w.heap.size, 5, Option.none⟩ = some v5) ∧
    wr.cell? ⟨w.heap.size + 1, 0, Option.none⟩ = some u0 ∧ wr.cell? ⟨w.heap.size + 1, 1, Option.none⟩ = some u1 ∧ wr.cell? ⟨w.heap.size + 1, 2, Option.none⟩ = some u2 ∧
    wr.cell? ⟨w.heap.size + 1, 3, Option.none⟩ = some u3 ∧ wr.cell? ⟨w.heap.size + 1, 4, Option.none⟩ = some u4 ∧ wr.cell? ⟨w.heap.size + 1, 5, Option.none⟩ = some u5 := by
  have a1 : Below (w.heap.size + 1) (w.alloc (.cells #[v0, v1, v2, v3, v4, v5] t)) wr := ((Below.refl _ _).alloc (by simp) _).trans (h.mono (by omega))
  have a2 : Below ((w.alloc (.cells #[v0, v1, v2, v3, v4, v5] t)).heap.size + 1) ((w.alloc (.cells #[v0, v1, v2, v3, v4, v5] t)).alloc (.cells #[u0, u1, u2, u3, u4, u5] t)) wr := by simpa using h
  have b2 := box6 a2
  simp only [World.size_alloc] at b2
  exact ⟨box6 a1, b2⟩

end Go.Proofs.Ytiemfklonhlnnaa.Slo

namespace Go.Proofs.Ytiemfklonhlnnaa.Slo
open Go.RowKit Go.Sort Go.Proofs.Ytiemfklonhlnnaa Go.Proofs.Ytiemfklonhlnnaa.Occ Go.Proofs.Ytiemfklonhlnnaa.Frac
attribute [local go_sem] sval

theorem below_eq {n : Nat} {a b : World} (h : a = b) : RowKit.Below n a b := by subst h; exact RowKit.Below.refl _ _
def bl (a : Option Addr) : Option Nat := a.map (·.block)
theorem ownBlock_slice (a : Option Addr) (n c : Nat) : (Value.slice a n c).ownBlock = bl a := by cases a <;> rfl
/-- Two slices that share no block. -/
def Ap (a b : Option Addr) : Prop := ∀ k, bl a = some k → bl b ≠ some k
theorem Ap.symm {a b : Option Addr} (h : Ap a b) : Ap b a := fun k h1 h2 => h k h2 h1
theorem Ap.of {a b : Option Addr} {n : Nat} (h1 : ∀ k, bl a = some k → k < n) (h2 : ∀ k, bl b = some k → n ≤ k) : Ap a b := fun k e1 e2 => by have := h1 k e1; have := h2 k e2; omega
/-- A gapped array whose slices are the holder's own: four rows apart, in blocks from lo on, ahead of hi. -/
structure SOwn (w : World) (lo hi : Nat) (s : Sl) (h : Hd) : Prop where
  ow : w.ownsRow lo 27 1 (.slice h.aw s.ws.length h.cw) s.ws.length (numsK .u64 s.ws)
  ok : w.ownsRow lo 2 1 (.slice h.ak s.ks.length h.ck) s.ks.length (numsK .i64 s.ks)
  ov : w.ownsRow lo 2 1 (.slice h.av s.vs.length h.cv) s.vs.length (numsK .i64 s.vs)
  oc : w.ownsRow lo 3 1 (.slice h.ac s.cs.length h.cc) s.cs.length (numsK .i64 s.cs)
  hw : ∀ k, bl h.aw = some k → k < hi
  hk : ∀ k, bl h.ak = some k → k < hi
  hv : ∀ k, bl h.av = some k → k < hi
  hc : ∀ k, bl h.ac = some k → k < hi
  wk : Ap h.aw h.ak
  wv : Ap h.aw h.av
  wc : Ap h.aw h.ac
  kv : Ap h.ak h.av
  kc : Ap h.ak h.ac
  vc : Ap h.av h.ac
theorem own_lt {w : World} {lo n m c : Nat} {e : TypeId} {a : Option Addr} {xs : List Value} (h : w.ownsRow lo e 1 (.slice a n c) m xs) : ∀ k, bl a = some k → lo ≤ k ∧ k < w.heap.size := fun k hk => h.lt k (by rw [ownBlock_slice]; exact hk)
theorem SOwn.below {w w' : World} {lo hi : Nat} {s : Sl} {h : Hd} (o : SOwn w lo hi s h) (hb : RowKit.Below w.heap.size w w') : SOwn w' lo hi s h :=
  ⟨owns_below o.ow hb, owns_below o.ok hb, owns_below o.ov hb, owns_below o.oc hb, o.hw, o.hk, o.hv, o.hc, o.wk, o.wv, o.wc, o.kv, o.kc, o.vc⟩
theorem rd_owns {k : IntKind} {w : World} {lo n c : Nat} {e : TypeId} {a : Option Addr} {zs : List Int} (h : w.ownsRow lo e 1 (.slice a zs.length c) n (numsK k zs)) : Rd k w a zs := by
  obtain ⟨a2, c2, e2, _, hr, _⟩ := owns_arg (k := k) h
  cases e2
  exact hr
theorem SOwn.rd {w : World} {lo hi : Nat} {s : Sl} {h : Hd} (o : SOwn w lo hi s h) : SRd w s h := ⟨rd_owns o.ow, rd_owns o.ok, rd_owns o.ov, rd_owns o.oc⟩
/-- Its slices' addresses are rows' beginnings, or none. -/
structure HPl (h : Hd) : Prop where
  w : Plain h.aw
  k : Plain h.ak
  v : Plain h.av
  c : Plain h.ac
theorem SOwn.pl {w : World} {lo hi : Nat} {s : Sl} {h : Hd} (o : SOwn w lo hi s h) : HPl h := ⟨Plain.of_owns o.ow, Plain.of_owns o.ok, Plain.of_owns o.ov, Plain.of_owns o.oc⟩

theorem own_slice {w : World} {lo n : Nat} {e : TypeId} {v : Value} {xs : List Value} (h : w.ownsRow lo e 1 v n xs) : ∃ a c, v = .slice a n c := by
  rcases h.2 with ⟨h1, h2⟩ | ⟨g, cap, cur, h1, _⟩
  · exact ⟨Option.none, 0, by rw [h1, h2]⟩
  · exact ⟨_, _, h1⟩
theorem grown_setCell (w : World) (p : Addr) (u : Value) : w.grownBy (w.setCell p u) (some p.block) :=
  ⟨rfl, rfl, rfl, by simp, fun k _ hk => heap_setCell_other w p k u (fun e => hk (by simp [e]))⟩
/-- A store ahead of a row's blocks. -/
theorem own_set {w : World} {lo n m : Nat} {e : TypeId} {v : Value} {xs : List Value} (h : w.ownsRow lo e m v n xs) (p : Addr) (u : Value) (hp : p.block < lo) : (w.setCell p u).ownsRow lo e m v n xs :=
  h.kept (grown_setCell w p u) (by
    cases hv : v.ownBlock with
    | none => exact .inl rfl
    | some k => right; intro h2; have := h.lt k hv; cases h2; omega)
theorem frozen_new (w : World) (cs : Array Value) (t : TypeId) (j : Nat) : (w.alloc (.cells cs t)).frozen? ⟨w.heap.size, j, Option.none⟩ = false := by
  exact frozen_of_row _ _ _ _ _ (heap_alloc_new w _)
theorem box_frozen {w wr : World} {cs : Array Value} {t : TypeId} (h : RowKit.Below (w.heap.size + 1) (w.alloc (.cells cs t)) wr) (j : Nat) : wr.frozen? ⟨w.heap.size, j, Option.none⟩ = false := by
  rw [h.frozen (p := ⟨w.heap.size, j, Option.none⟩) (by show w.heap.size < w.heap.size + 1; omega)]
  exact frozen_new w cs t j
theorem box66_frozen {w wr : World} {cs ds : Array Value} {t u : TypeId} (h : RowKit.Below (w.heap.size + 1 + 1) ((w.alloc (.cells cs t)).alloc (.cells ds u)) wr) (j : Nat) : wr.frozen? ⟨w.heap.size, j, Option.none⟩ = false ∧ wr.frozen? ⟨w.heap.size + 1, j, Option.none⟩ = false := by
  have a1 : RowKit.Below (w.heap.size + 1) (w.alloc (.cells cs t)) wr := ((RowKit.Below.refl _ _).alloc (by simp) _).trans (h.mono (by omega))
  have a2 : RowKit.Below ((w.alloc (.cells cs t)).heap.size + 1) ((w.alloc (.cells cs t)).alloc (.cells ds u)) wr := by simpa using h
  have b2 := box_frozen a2 j
  simp only [World.size_alloc] at b2
  exact ⟨box_frozen a1 j, b2⟩

set_option maxRecDepth 100000 in
set_option maxHeartbeats 4000000 in
theorem sTwin_any (s : Sl) (h : Hd) (w : World) (W : s.Wf) (R : SRd w s h) (Pl : HPl h) :
    Calls Try.prog 71 #[sval s h] w fun e w' => ∃ h', e = .returned (sval s h') ∧ SOwn w' w.heap.size w'.heap.size s h' ∧ RowKit.Below w.heap.size w w' := by
  have HC1 := Lib.hid (fun w1 (hb : RowKit.Below w.heap.size w w1) => cloneU_any h.aw h.cw s.ws w1 (R.fw.mono hb (Nat.le_refl _)) Pl.w W.lw)
  have HC2 := Lib.hid (fun w1 (hb : RowKit.Below w.heap.size w w1) => cloneK_any h.ak h.ck s.ks w1 (R.fk.mono hb (Nat.le_refl _)) Pl.k W.lk)
  have HC3 := Lib.hid (fun w1 (hb : RowKit.Below w.heap.size w w1) => cloneK_any h.av h.cv s.vs w1 (R.fv.mono hb (Nat.le_refl _)) Pl.v W.lv)
  have HC4 := Lib.hid (fun w1 (hb : RowKit.Below w.heap.size w w1) => cloneI_any h.ac h.cc s.cs w1 (R.fc.mono hb (Nat.le_refl _)) Pl.c W.lc)
  have HB : Hid (∀ x y, RowKit.Below w.heap.size w ((w.alloc x).alloc y)) := Lib.hid fun x y => ((RowKit.Below.refl _ w).alloc (Nat.le_refl _) _).alloc (by simp) _
  clear W R Pl
  unfold sval
  generalize hsw : s.ws.length = nw at *
  generalize hsk : s.ks.length = nk at *
  generalize hsv : s.vs.length = nv at *
  generalize hsc : s.cs.length = nc at *
  have HSW := Lib.hid hsw; have HSK := Lib.hid hsk; have HSV := Lib.hid hsv; have HSC := Lib.hid hsc
  clear hsw hsk hsv hsc
  go_enter Try.func71, Try.ntmps71
  go_wp2
  generalize hw0 : (World.alloc (World.alloc w _) _) = w0
  have HB0 : Hid (RowKit.Below (w.heap.size + 1 + 1) _ w0) := Lib.hid (below_eq hw0)
  have hsz : w0.heap.size = w.heap.size + 2 := by rw [← hw0]; simp
  have HBw : Hid (RowKit.Below w.heap.size w w0) := Lib.hid (by rw [← hw0]; exact HB.out _ _)
  clear hw0
  obtain ⟨⟨c0, c1, c2, c3, c4, c5⟩, -⟩ := box66 HB0.out
  have k1 := cell_regrown c1; have k2 := cell_regrown c2; have k3 := cell_regrown c3; have k4 := cell_regrown c4
  refine Mix.wp_region_plan (fun w' => ∃ p : Regrown, w' = grow (redrawn w0 p.d) p.os) [11] [.free [true, false, false, true, false, false, true, false, false, true], .dep [false, true, false, false, true, false, false, true, false, false, true], .run [false, false, true], .free [false, false, false, false, false, false, false, false, false, false, false, false, true], .run [false, false, false, false, false, true, false, false, true]]
    #[true, true, true, true, true, true, true, true, true, true, true, false, true, false, false, false, false, false, false, false] 8 mixed' (by kernel_rfl) (by kernel_rfl) (by kernel_rfl) (fun _ _ _ _ _ h => h) ⟨⟨w0.drawn + 1, #[]⟩, by rw [grow_empty]; rfl⟩ ?_
  simp only [Mix.wpPlan, Mix.maskL]
  repeat (go_big_quiet_step (fail))
  refine wpQuiet_nil ?_
  repeat (go_big_quiet_step (fail))
  refine wpQuiet_nil ?_
  unfold Mix.wpListS
  go_wp2_with fail
  refine (HC1.out _ (HBw.out.drew)).mono ?_
  rintro e w1 ⟨v1, rfl, ho1, hb1⟩
  obtain ⟨a1, p1, rfl⟩ := own_slice ho1
  have HO1 := Lib.hid ho1
  have HB1 : Hid (RowKit.Below w0.heap.size w0 w1) := Lib.hid ((RowKit.Below.refl _ w0).drew.trans hb1)
  clear ho1 hb1
  go_wp2_with fail
  refine ⟨regrown_of_below HB1.out, ?_⟩
  unfold Mix.wpListS
  repeat (go_big_quiet_step (fail))
  refine wpQuiet_nil ?_
  unfold Mix.wpListS
  go_wp2_with fail
  refine (HC2.out _ (HBw.out.trans (HB1.out.mono HBw.out.size))).mono ?_
  rintro e w2 ⟨v2, rfl, ho2, hb2⟩
  obtain ⟨a2, p2, rfl⟩ := own_slice ho2
  have HO2 := Lib.hid (And.intro (owns_below HO1.out hb2) ho2)
  have HB2 : Hid (RowKit.Below w0.heap.size w0 w2) := Lib.hid (HB1.out.trans (hb2.mono HB1.out.size))
  have HZ2 := Lib.hid hb2.size
  clear ho2 hb2
  go_wp2_with fail
  refine ⟨regrown_of_below HB2.out, ?_⟩
  unfold Mix.wpListS
  go_wp2_with fail
  refine (HC3.out _ (HBw.out.trans (HB2.out.mono HBw.out.size))).mono ?_
  rintro e w3 ⟨v3, rfl, ho3, hb3⟩
  obtain ⟨a3, p3, rfl⟩ := own_slice ho3
  have HO3 := Lib.hid (And.intro (owns_below HO2.out.1 hb3) (And.intro (owns_below HO2.out.2 hb3) ho3))
  have HB3 : Hid (RowKit.Below w0.heap.size w0 w3) := Lib.hid (HB2.out.trans (hb3.mono HB2.out.size))
  have HZ3 := Lib.hid hb3.size
  clear ho3 hb3
  go_wp2_with fail
  refine ⟨regrown_of_below HB3.out, ?_⟩
  unfold Mix.wpListS
  refine Mix.wpAny_tail [false, false, false, false, false, false, false, false, false, false, false, true, false, true, true, true, true, true, true, true] (Array.replicate 20 true) (by kernel_rfl) (by kernel_rfl) ?_
  simp only [Mix.maskL]
  go_wp2_with fail
  refine (HC4.out _ (HBw.out.trans (HB3.out.mono HBw.out.size))).mono ?_
  rintro e w4 ⟨v4, rfl, ho4, hb4⟩
  obtain ⟨a4, p4, rfl⟩ := own_slice ho4
  have HO4 := Lib.hid (And.intro (owns_below HO3.out.1 hb4) (And.intro (owns_below HO3.out.2.1 hb4) (And.intro (owns_below HO3.out.2.2 hb4) ho4)))
  have HB4 : Hid (RowKit.Below w0.heap.size w0 w4) := Lib.hid (HB3.out.trans (hb4.mono HB3.out.size))
  have HZ4 := Lib.hid hb4.size
  clear ho4 hb4 c0 c1 c2 c3 c4 c5 k1 k2 k3 k4 HC1 HC2 HC3 HC4
  have HBX := Lib.hid (HB0.out.trans (HB4.out.mono (show w.heap.size + 1 + 1 ≤ w0.heap.size by omega)))
  obtain ⟨⟨c0, c1, c2, c3, c4, c5⟩, d0, d1, d2, d3, d4, d5⟩ := box66 HBX.out
  have f1 := (box66_frozen HBX.out 1).1; have f2 := (box66_frozen HBX.out 2).1; have f3 := (box66_frozen HBX.out 3).1; have f4 := (box66_frozen HBX.out 4).1
  have f10 := (box66_frozen HBX.out 0).2; have f11 := (box66_frozen HBX.out 1).2; have f12 := (box66_frozen HBX.out 2).2; have f13 := (box66_frozen HBX.out 3).2; have f14 := (box66_frozen HBX.out 4).2; have f15 := (box66_frozen HBX.out 5).2
  go_wp2
  refine bodyPost_ret (v := sval s ⟨a1, p1, a2, p2, a3, p3, a4, p4⟩) (by unfold sval; rw [HSW.out, HSK.out, HSV.out, HSC.out]; simp [results, Try.results71, go_sem, *]) rfl ⟨⟨a1, p1, a2, p2, a3, p3, a4, p4⟩, by unfold sval; rw [HSW.out, HSK.out, HSV.out, HSC.out], ?_, ?_⟩
  · have e1 : w0.drew.heap.size = w.heap.size + 2 := hsz
    obtain ⟨o1, o2, o3, o4⟩ := HO4.out
    have z1 := HB1.out.size
    have l1 := own_lt HO1.out
    have l2 := own_lt HO2.out.2
    have l3 := own_lt HO3.out.2.2
    have l4 := own_lt o4
    have z2 := HZ2.out
    have z3 := HZ3.out
    have z4 := HZ4.out
    have low : w.heap.size + 2 ≤ w1.heap.size := by omega
    have S1 : ∀ {b n : Nat} {e : TypeId} {v : Value} {xs : List Value}, w.heap.size + 2 ≤ b → w4.ownsRow b e 1 v n xs → (((((((((((w4.setCell ⟨w.heap.size, 1, Option.none⟩ (.slice a1 nw p1)).setCell ⟨w.heap.size, 2, Option.none⟩ (.slice a2 nk p2)).setCell ⟨w.heap.size, 3, Option.none⟩ (.slice a3 nv p3)).setCell ⟨w.heap.size, 4, Option.none⟩ (.slice a4 nc p4)).setCell ⟨w.heap.size + 1, 0, Option.none⟩ (.int .i64 s.seg)).setCell ⟨w.heap.size + 1, 1, Option.none⟩ (.slice a1 nw p1)).setCell ⟨w.heap.size + 1, 2, Option.none⟩ (.slice a2 nk p2)).setCell ⟨w.heap.size + 1, 3, Option.none⟩ (.slice a3 nv p3)).setCell ⟨w.heap.size + 1, 4, Option.none⟩ (.slice a4 nc p4)).setCell ⟨w.heap.size + 1, 5, Option.none⟩ (.int .u64 s.laid))).ownsRow w.heap.size e 1 v n xs := fun {b n e v xs} hb h => by
      have : ∀ (w9 : World) (p : Addr) (u : Value), p.block ≤ w.heap.size + 1 → w9.ownsRow b e 1 v n xs → (w9.setCell p u).ownsRow b e 1 v n xs := fun w9 p u hp h => own_set h p u (by omega)
      exact World.ownsRow.mono (this _ _ _ (by simp) (this _ _ _ (by simp) (this _ _ _ (by simp) (this _ _ _ (by simp) (this _ _ _ (by simp) (this _ _ _ (by simp) (this _ _ _ (by simp) (this _ _ _ (by simp) (this _ _ _ (by simp) (this _ _ _ (by simp) h)))))))))) (by omega)
    refine ⟨by rw [HSW.out]; exact S1 (by omega) o1, by rw [HSK.out]; exact S1 (by omega) o2, by rw [HSV.out]; exact S1 (by omega) o3, by rw [HSC.out]; exact S1 (by omega) o4, ?_, ?_, ?_, ?_, ?_, ?_, ?_, ?_, ?_, ?_⟩
    · intro k hk; have := l1 k hk; simp; omega
    · intro k hk; have := l2 k hk; simp; omega
    · intro k hk; have := l3 k hk; simp; omega
    · intro k hk; have := l4 k hk; simp; omega
    · exact Ap.of (n := w1.heap.size) (fun k hk => (l1 k hk).2) (fun k hk => (l2 k hk).1)
    · exact Ap.of (n := w1.heap.size) (fun k hk => (l1 k hk).2) (fun k hk => Nat.le_trans z2 (l3 k hk).1)
    · exact Ap.of (n := w1.heap.size) (fun k hk => (l1 k hk).2) (fun k hk => Nat.le_trans z2 (Nat.le_trans z3 (l4 k hk).1))
    · exact Ap.of (n := w2.heap.size) (fun k hk => (l2 k hk).2) (fun k hk => (l3 k hk).1)
    · exact Ap.of (n := w2.heap.size) (fun k hk => (l2 k hk).2) (fun k hk => Nat.le_trans z3 (l4 k hk).1)
    · exact Ap.of (n := w3.heap.size) (fun k hk => (l3 k hk).2) (fun k hk => (l4 k hk).1)
  · have hb := HBw.out.trans (HB4.out.mono HBw.out.size)
    exact (((((((((hb.setCell (by simp) _).setCell (by simp) _).setCell (by simp) _).setCell (by simp) _).setCell (by simp) _).setCell (by simp) _).setCell (by simp) _).setCell (by simp) _).setCell (by simp) _).setCell (by simp) _
end Go.Proofs.Ytiemfklonhlnnaa.Slo

namespace Go.Proofs.Ytiemfklonhlnnaa.Slo
open Go.RowKit Go.Proofs.Ytiemfklonhlnnaa Go.Proofs.Ytiemfklonhlnnaa.Occ Go.Proofs.Ytiemfklonhlnnaa.Frac

/-- The four rows lie in blocks of their own; the struct lies in block p, behind them. -/
structure Arr (w : World) (lo hi p : Nat) (s : Sl) (h : Hd) : Prop where
  own : SOwn w lo hi s h
  low : lo ≤ hi
  pb : hi ≤ p
  pl : p < w.heap.size
  b0 : w.cell? ⟨p, 0, Option.none⟩ = some (.int .i64 s.seg)
  b1 : w.cell? ⟨p, 1, Option.none⟩ = some (.slice h.aw s.ws.length h.cw)
  b2 : w.cell? ⟨p, 2, Option.none⟩ = some (.slice h.ak s.ks.length h.ck)
  b3 : w.cell? ⟨p, 3, Option.none⟩ = some (.slice h.av s.vs.length h.cv)
  b4 : w.cell? ⟨p, 4, Option.none⟩ = some (.slice h.ac s.cs.length h.cc)
  b5 : w.cell? ⟨p, 5, Option.none⟩ = some (.int .u64 s.laid)
  fz : ∀ j, w.frozen? ⟨p, j, Option.none⟩ = false

theorem bl_some (g : Nat) : bl (some ⟨g, 0, Option.none⟩) = some g := rfl
theorem numsK_at {k : IntKind} {zs : List Int} {i : Nat} (h : i < zs.length) : (numsK k zs)[i]? = some (.int k (zs.getD i 0)) := numsK_get h

theorem Arr.below {w w' : World} {lo hi p : Nat} {s : Sl} {h : Hd} (A : Arr w lo hi p s h) (hb : Below w.heap.size w w') : Arr w' lo hi p s h := by
  have hp := A.pl
  exact ⟨A.own.below hb, A.low, A.pb, Nat.lt_of_lt_of_le hp hb.size, (hb.cell (p := ⟨p, 0, Option.none⟩) hp).trans A.b0, (hb.cell (p := ⟨p, 1, Option.none⟩) hp).trans A.b1, (hb.cell (p := ⟨p, 2, Option.none⟩) hp).trans A.b2,
    (hb.cell (p := ⟨p, 3, Option.none⟩) hp).trans A.b3, (hb.cell (p := ⟨p, 4, Option.none⟩) hp).trans A.b4, (hb.cell (p := ⟨p, 5, Option.none⟩) hp).trans A.b5, fun j => (hb.frozen (p := ⟨p, j, Option.none⟩) hp).trans (A.fz j)⟩
theorem Arr.drew {w : World} {lo hi p : Nat} {s : Sl} {h : Hd} (A : Arr w lo hi p s h) : Arr w.drew lo hi p s h := A.below (Below.refl _ w).drew
/-- A store into another block than any of them. -/
theorem own_other {w : World} {lo n m c : Nat} {e : TypeId} {a : Option Addr} {xs : List Value} (h : w.ownsRow lo e 1 (.slice a n c) m xs) (q : Addr) (u : Value) (hq : bl a ≠ some q.block) : (w.setCell q u).ownsRow lo e 1 (.slice a n c) m xs :=
  h.kept (grown_setCell w q u) (by rw [ownBlock_slice]; exact .inr hq)
section
variable {w : World} {lo hi p : Nat} {s : Sl} {h : Hd} (A : Arr w lo hi p s h)
include A
theorem Arr.box {q : Addr} {u : Value} (hq : q.block < hi) : (w.setCell q u).cell? ⟨p, 0, Option.none⟩ = some (.int .i64 s.seg) ∧ (w.setCell q u).cell? ⟨p, 1, Option.none⟩ = some (.slice h.aw s.ws.length h.cw) ∧
    (w.setCell q u).cell? ⟨p, 2, Option.none⟩ = some (.slice h.ak s.ks.length h.ck) ∧ (w.setCell q u).cell? ⟨p, 3, Option.none⟩ = some (.slice h.av s.vs.length h.cv) ∧ (w.setCell q u).cell? ⟨p, 4, Option.none⟩ = some (.slice h.ac s.cs.length h.cc) ∧
    (w.setCell q u).cell? ⟨p, 5, Option.none⟩ = some (.int .u64 s.laid) ∧ ∀ j, (w.setCell q u).frozen? ⟨p, j, Option.none⟩ = false := by
  have hne : ∀ j, q ≠ ⟨p, j, Option.none⟩ := fun j e => by have := A.pb; rw [e] at hq; have : p < hi := hq; omega
  refine ⟨(World.cell?_setCell_other _ _ _ _ (hne 0)).trans A.b0, (World.cell?_setCell_other _ _ _ _ (hne 1)).trans A.b1, (World.cell?_setCell_other _ _ _ _ (hne 2)).trans A.b2, (World.cell?_setCell_other _ _ _ _ (hne 3)).trans A.b3, (World.cell?_setCell_other _ _ _ _ (hne 4)).trans A.b4, (World.cell?_setCell_other _ _ _ _ (hne 5)).trans A.b5, fun j => ?_⟩
  rw [World.frozen?_setCell]; exact A.fz j
theorem Arr.set_w {g j : Nat} (x : Int) (hg : h.aw = some ⟨g, 0, Option.none⟩) : Arr (w.setCell ⟨g, j, Option.none⟩ (.int .u64 x)) lo hi p { s with ws := s.ws.set j x } h := by
  have o := A.own
  have hgh := o.hw g (by rw [hg]; rfl)
  obtain ⟨c0, c1, c2, c3, c4, c5, cf⟩ := A.box (q := ⟨g, j, Option.none⟩) (u := .int .u64 x) hgh
  have hn : ∀ a, Ap h.aw a → bl a ≠ some g := fun a ha => ha g (by rw [hg]; rfl)
  have ow := o.ow
  rw [hg] at ow
  refine ⟨⟨?_, own_other o.ok _ _ (hn _ o.wk), own_other o.ov _ _ (hn _ o.wv), own_other o.oc _ _ (hn _ o.wc), o.hw, o.hk, o.hv, o.hc, o.wk, o.wv, o.wc, o.kv, o.kc, o.vc⟩, A.low, A.pb, by simpa using A.pl, c0, ?_, c2, c3, c4, c5, cf⟩
  · show World.ownsRow _ _ _ _ (.slice h.aw (s.ws.set j x).length h.cw) (s.ws.set j x).length (numsK .u64 (s.ws.set j x))
    rw [hg, List.length_set, numsK_set]; exact (ow.stored j _).1
  · show _ = some (Value.slice h.aw (s.ws.set j x).length h.cw); rw [List.length_set]; exact c1
theorem Arr.set_k {g j : Nat} (x : Int) (hg : h.ak = some ⟨g, 0, Option.none⟩) : Arr (w.setCell ⟨g, j, Option.none⟩ (.int .i64 x)) lo hi p { s with ks := s.ks.set j x } h := by
  have o := A.own
  have hgh := o.hk g (by rw [hg]; rfl)
  obtain ⟨c0, c1, c2, c3, c4, c5, cf⟩ := A.box (q := ⟨g, j, Option.none⟩) (u := .int .i64 x) hgh
  have hn : ∀ a, Ap h.ak a → bl a ≠ some g := fun a ha => ha g (by rw [hg]; rfl)
  have ow := o.ok
  rw [hg] at ow
  refine ⟨⟨own_other o.ow _ _ (hn _ o.wk.symm), ?_, own_other o.ov _ _ (hn _ o.kv), own_other o.oc _ _ (hn _ o.kc), o.hw, o.hk, o.hv, o.hc, o.wk, o.wv, o.wc, o.kv, o.kc, o.vc⟩, A.low, A.pb, by simpa using A.pl, c0, c1, ?_, c3, c4, c5, cf⟩
  · show World.ownsRow _ _ _ _ (.slice h.ak (s.ks.set j x).length h.ck) (s.ks.set j x).length (numsK .i64 (s.ks.set j x))
    rw [hg, List.length_set, numsK_set]; exact (ow.stored j _).1
  · show _ = some (Value.slice h.ak (s.ks.set j x).length h.ck); rw [List.length_set]; exact c2
theorem Arr.set_v {g j : Nat} (x : Int) (hg : h.av = some ⟨g, 0, Option.none⟩) : Arr (w.setCell ⟨g, j, Option.none⟩ (.int .i64 x)) lo hi p { s with vs := s.vs.set j x } h := by
  have o := A.own
  have hgh := o.hv g (by rw [hg]; rfl)
  obtain ⟨c0, c1, c2, c3, c4, c5, cf⟩ := A.box (q := ⟨g, j, Option.none⟩) (u := .int .i64 x) hgh
  have hn : ∀ a, Ap h.av a → bl a ≠ some g := fun a ha => ha g (by rw [hg]; rfl)
  have ow := o.ov
  rw [hg] at ow
  refine ⟨⟨own_other o.ow _ _ (hn _ o.wv.symm), own_other o.ok _ _ (hn _ o.kv.symm), ?_, own_other o.oc _ _ (hn _ o.vc), o.hw, o.hk, o.hv, o.hc, o.wk, o.wv, o.wc, o.kv, o.kc, o.vc⟩, A.low, A.pb, by simpa using A.pl, c0, c1, c2, ?_, c4, c5, cf⟩
  · show World.ownsRow _ _ _ _ (.slice h.av (s.vs.set j x).length h.cv) (s.vs.set j x).length (numsK .i64 (s.vs.set j x))
    rw [hg, List.length_set, numsK_set]; exact (ow.stored j _).1
  · show _ = some (Value.slice h.av (s.vs.set j x).length h.cv); rw [List.length_set]; exact c3
theorem Arr.set_c {g j : Nat} (x : Int) (hg : h.ac = some ⟨g, 0, Option.none⟩) : Arr (w.setCell ⟨g, j, Option.none⟩ (.int .i64 x)) lo hi p { s with cs := s.cs.set j x } h := by
  have o := A.own
  have hgh := o.hc g (by rw [hg]; rfl)
  obtain ⟨c0, c1, c2, c3, c4, c5, cf⟩ := A.box (q := ⟨g, j, Option.none⟩) (u := .int .i64 x) hgh
  have hn : ∀ a, Ap h.ac a → bl a ≠ some g := fun a ha => ha g (by rw [hg]; rfl)
  have ow := o.oc
  rw [hg] at ow
  refine ⟨⟨own_other o.ow _ _ (hn _ o.wc.symm), own_other o.ok _ _ (hn _ o.kc.symm), own_other o.ov _ _ (hn _ o.vc.symm), ?_, o.hw, o.hk, o.hv, o.hc, o.wk, o.wv, o.wc, o.kv, o.kc, o.vc⟩, A.low, A.pb, by simpa using A.pl, c0, c1, c2, c3, ?_, c5, cf⟩
  · show World.ownsRow _ _ _ _ (.slice h.ac (s.cs.set j x).length h.cc) (s.cs.set j x).length (numsK .i64 (s.cs.set j x))
    rw [hg, List.length_set, numsK_set]; exact (ow.stored j _).1
  · show _ = some (Value.slice h.ac (s.cs.set j x).length h.cc); rw [List.length_set]; exact c4
/-- A store behind them all. -/
theorem Arr.set_other {q : Addr} {u : Value} (hq : p < q.block) : Arr (w.setCell q u) lo hi p s h := by
  have o := A.own
  have hpb := A.pb
  have hn : ∀ a, (∀ k, bl a = some k → k < hi) → bl a ≠ some q.block := fun a ha e => by have := ha _ e; omega
  have hne : ∀ j : Nat, q ≠ ⟨p, j, Option.none⟩ := fun j e => by rw [e] at hq; exact Nat.lt_irrefl _ hq
  exact ⟨⟨own_other o.ow _ _ (hn _ o.hw), own_other o.ok _ _ (hn _ o.hk), own_other o.ov _ _ (hn _ o.hv), own_other o.oc _ _ (hn _ o.hc), o.hw, o.hk, o.hv, o.hc, o.wk, o.wv, o.wc, o.kv, o.kc, o.vc⟩, A.low, A.pb, by simpa using A.pl,
    (World.cell?_setCell_other _ _ _ _ (hne 0)).trans A.b0, (World.cell?_setCell_other _ _ _ _ (hne 1)).trans A.b1, (World.cell?_setCell_other _ _ _ _ (hne 2)).trans A.b2, (World.cell?_setCell_other _ _ _ _ (hne 3)).trans A.b3, (World.cell?_setCell_other _ _ _ _ (hne 4)).trans A.b4, (World.cell?_setCell_other _ _ _ _ (hne 5)).trans A.b5, fun j => by rw [World.frozen?_setCell]; exact A.fz j⟩
theorem Arr.set_laid (x : Int) : Arr (w.setCell ⟨p, 5, Option.none⟩ (.int .u64 x)) lo hi p { s with laid := x } h := by
  have o := A.own
  have hpb := A.pb
  have hn : ∀ a, (∀ k, bl a = some k → k < hi) → bl a ≠ some p := fun a ha e => by have := ha p e; omega
  have hne : ∀ j : Nat, j ≠ 5 → (⟨p, 5, Option.none⟩ : Addr) ≠ ⟨p, j, Option.none⟩ := fun j hj e => by simp only [Addr.mk.injEq, true_and, and_true] at e; omega
  refine ⟨⟨own_other o.ow _ _ (hn _ o.hw), own_other o.ok _ _ (hn _ o.hk), own_other o.ov _ _ (hn _ o.hv), own_other o.oc _ _ (hn _ o.hc), o.hw, o.hk, o.hv, o.hc, o.wk, o.wv, o.wc, o.kv, o.kc, o.vc⟩, A.low, A.pb, by simpa using A.pl,
    (World.cell?_setCell_other _ _ _ _ (hne 0 (by decide))).trans A.b0, (World.cell?_setCell_other _ _ _ _ (hne 1 (by decide))).trans A.b1, (World.cell?_setCell_other _ _ _ _ (hne 2 (by decide))).trans A.b2, (World.cell?_setCell_other _ _ _ _ (hne 3 (by decide))).trans A.b3, (World.cell?_setCell_other _ _ _ _ (hne 4 (by decide))).trans A.b4, ?_, ?_⟩
  · exact World.cell?_setCell_same _ _ _ A.b5
  · intro j
    rw [World.frozen?_setCell]; exact A.fz j
end
end Go.Proofs.Ytiemfklonhlnnaa.Slo
