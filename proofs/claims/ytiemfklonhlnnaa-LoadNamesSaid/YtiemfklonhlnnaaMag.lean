/- 'slices.Collect' of pairs, against whatever iterator. Contracts of package slots: the iterator of a part's pairs. Contracts of package slots: pairs; what is collected; At. Contracts of package slots: Pairs. Contracts of package slots: At. Contracts of package slots: At (errors), Clear. Contracts of package slots: Move. Package slots, in plain Lean: a part that is filled. -/
import Derived.Test.YtiemfklonhlnnaaMaf
import Derived.Sort.BigQuietIn
set_option linter.unusedSimpArgs false
set_option linter.unusedVariables false
namespace Go.Proofs.Ytiemfklonhlnnaa
open Go.RowKit Go.Shelf
attribute [local go_sem] Oper.semAt_some

theorem infoP : (Try.prog.info? 34).map (fun i => (i.zero, i.size, i.bytes)) = some (some (.agg #[.int .i64 0, .int .i64 0]), 2, 16) := by kernel_rfl

set_option maxRecDepth 100000 in
set_option maxHeartbeats 2000000 in
theorem appendSeq_pairs {α : Type} (f : α → Int × Int) (g : Nat) (lb : Array Value) (eg : ∀ args w, (callFunc g args).run Try.prog w = .ok (.enter g args) w) (n0 lo hi N : Nat) (S Sp : List α → Prop) (w : World) (hn0 : n0 ≤ w.heap.size) (hhi : hi ≤ w.heap.size) (hN : N ≤ 1000000)
    (hseq : SeqStopsK Fence.wide 1 Try.prog g lb (fun x : α => #[Value.agg #[.int .i64 (f x).1, .int .i64 (f x).2]]) (Keeps n0 lo hi) S Sp N w) :
    Calls Try.prog 52 #[.slice Option.none 0 0, .func (.func g) #[] lb] w fun e w' => ∃ v xs, e = .returned v ∧ S xs ∧ w'.ownsRow w.heap.size 34 2 v xs.length (pcells (xs.map f)) ∧ Below w.heap.size w w' := by
  obtain ⟨i0, hi', hz0, hz1, hz2⟩ := info_parts infoP
  refine (callsIn_wide (n := 2)).1 ?_
  refine callsIn_of_wp_marks Try.func52 rfl trivial ?_ rfl
  simp only [Try.ntmps52, List.size_toArray, List.length_cons, List.length_nil, Nat.reduceAdd, Nat.reduceSub, Array.replicate_succ, Array.replicate_zero, List.push_toArray, List.append_toArray, List.nil_append, List.cons_append]
  gi_wp2
  have bO := Boxed.new w 38 (.slice Option.none 0 0)
  have hB0 : Below w.heap.size w (w.alloc (.cells #[.slice Option.none 0 0] 38)) := (Below.refl _ w).alloc (Nat.le_refl _) _
  refine rangeFunc_box (fun x Bx => [(7, .agg #[.int .i64 (f x).1, .int .i64 (f x).2]), (5, .pointer (some ⟨Bx, 0, Option.none⟩))])
    (fun x Bx W => w.heap.size < Bx ∧ W.heap[Bx]? = some (.cells #[.int .i64 (f x).1, .int .i64 (f x).2] 34 (0, 0)))
    (by decide) (gf := g) (lb := lb) rfl eg hseq Keeps.t (Keeps.b (by simp; omega) (by simp; omega)) hB0 (fun _ => rfl)
    (fun pre W => (∃ v, Boxed W w.heap.size 38 v ∧ W.ownsRow w.heap.size 34 2 v pre.length (pcells (pre.map f)) ∧ True) ∧ Below w.heap.size w W)
    (fun _ _ _ => False)
    (OwnFrom.and (Own.from (holdsRow_own w.heap.size w.heap.size 38 34 2 (fun pre : List α => pre.length) (fun pre => pcells (pre.map f)) (fun _ _ => True)) _) (ownFrom_below (Nat.le_refl _) (by simp)))
    (fun _ _ _ _ _ hs _ _ => hs)
    ⟨⟨_, bO, World.ownsRow_nil _ _ _ _, trivial⟩, hB0⟩
    ?hBp ?assign ?body ?done ?stop
  case hBp =>
    rintro x Bx u A B row ⟨h1, h2⟩ hg hr
    refine ⟨h1, (hg.block Bx (Array.getElem?_eq_some_iff.1 h2).1 (fun e => ?_)).trans h2⟩
    obtain ⟨_, o, ho, hc⟩ := hr Bx e.symm
    rw [h2] at ho; cases ho; cases hc
  case assign =>
    rintro l pre x W K ⟨⟨v, hv, hrow, -⟩, hB⟩ hK
    have HK := Lib.hid hK
    clear hK
    gi_wp2
    have hs := hB.size
    exact HK.out W.heap.size _ ((KeepsOthers.alloc W _).from _) (Keeps.of_below ((Below.refl _ W).alloc (Nat.le_refl _) _) (by omega) (by omega)) ⟨⟨v, hv.alloc _, hrow.alloc _, trivial⟩, hB.alloc hs _⟩ ⟨hv.lt, heap_alloc_new W _⟩
  case body =>
    rintro l pre x Bx W ⟨⟨v, hv, hrow, -⟩, hB⟩ ⟨hbx, hcx⟩ hlt
    have hc := hv.cell
    have hc1 : W.cell? ⟨Bx, 0, Option.none⟩ = some (.int .i64 (f x).1) := by rw [cell_of_row W Bx 0 _ _ _ hcx]; rfl
    have hc2 : W.cell? ⟨Bx, 1, Option.none⟩ = some (.int .i64 (f x).2) := by rw [cell_of_row W Bx 1 _ _ _ hcx]; rfl
    have HP : Hid (pcells ((pre ++ [x]).map f) = pcells (pre.map f) ++ [.int .i64 (f x).1, .int .i64 (f x).2]) := Lib.hid (by rw [List.map_append, pcells_append]; rfl)
    clear hcx
    generalize (f x).1 = x1 at *
    generalize (f x).2 = x2 at *
    gi_wp2_with (gi_at_builtin; refine wpListIn_append_own _ rfl _ _ 38 rfl w.heap.size 34 i0 (.agg #[.int .i64 0, .int .i64 0]) 2 16 Try.underlying38 hi' hz0 hz1 hz2 rfl (by decide) _ _ _ rfl (hrow.alloc _) ⟨W.heap.size, 0, Option.none⟩ 1 1 [.int .i64 x1, .int .i64 x2] rfl rfl (two_cells _ _ _ _) (by intro u hu; simp at hu; rcases hu with rfl | rfl <;> rfl) (by unfold maxLen; omega) (by omega) (by have := hB.size; simp; omega) ?_; intro v' w1 hown' hgrow _; obtain ⟨g', cap', rfl⟩ := ownsRow_succ hown'; obtain ⟨hv1, hv2, hr2, hk2, hb2⟩ := hv.appended (by decide) hrow hB.size (Nat.le_refl _) hown' hgrow; have hcv1 := hv1.cell; have hfv1 := hv1.frozen)
    exact ⟨hk2.from _, Keeps.of_below hb2 hn0 hhi, ⟨_, hv2, by rw [HP.out]; simpa using hr2, trivial⟩, hB.trans hb2⟩
  case done =>
    rintro D ys W hD hS ⟨⟨v, hv, hrow, -⟩, hB⟩ hK
    have hc := hv.cell
    gi_wp2
    refine ⟨by simp, .inl ⟨_, _, rfl, run_takeDeferred hK, ?_⟩⟩
    exact ⟨_, results_tmp rfl _ _ _, v, ys, rfl, hS, ownsRow_putObj hrow _ hK rfl, hB.trans (belowK_b (w := w) (Nat.le_refl _) W D _ _ (by simp at hD; omega) hK rfl rfl)⟩
  case stop =>
    rintro D c pre W _ _ h _
    exact h.elim

set_option maxHeartbeats 1000000 in
theorem collect_pairs {α : Type} (f : α → Int × Int) (g : Nat) (lb : Array Value) (eg : ∀ args w, (callFunc g args).run Try.prog w = .ok (.enter g args) w) (n0 lo hi N : Nat) (S Sp : List α → Prop) (w : World) (hn0 : n0 ≤ w.heap.size) (hhi : hi ≤ w.heap.size) (hN : N ≤ 1000000)
    (hseq : SeqStopsK Fence.wide 1 Try.prog g lb (fun x : α => #[Value.agg #[.int .i64 (f x).1, .int .i64 (f x).2]]) (Keeps n0 lo hi) S Sp N w) :
    Calls Try.prog 38 #[.func (.func g) #[] lb] w fun e w' => ∃ v xs, e = .returned v ∧ S xs ∧ w'.ownsRow w.heap.size 34 2 v xs.length (pcells (xs.map f)) ∧ Below w.heap.size w w' := by
  go_enter Try.func38, Try.ntmps38
  go_wp2_with fail
  refine (appendSeq_pairs f g lb eg n0 lo hi N S Sp w hn0 hhi hN hseq).mono ?_
  rintro e w1 ⟨v, xs, rfl, hS, hrow, hb⟩
  have HR := Lib.hid hrow
  clear hrow
  go_wp2
  go_ret
  exact ⟨v, xs, rfl, hS, HR.out, hb⟩
end Go.Proofs.Ytiemfklonhlnnaa

namespace Go.Proofs.Ytiemfklonhlnnaa.Slo
open Go.RowKit Go.Proofs.Ytiemfklonhlnnaa Go.Proofs.Ytiemfklonhlnnaa.Occ Go.Proofs.Ytiemfklonhlnnaa.Frac
attribute [local go_sem] sval Oper.semAt_some

def encS (s : Sl) (a : Nat) : Array Value := #[.agg #[.int .i64 (s.ks.getD a 0), .int .i64 (s.vs.getD a 0)]]

set_option maxRecDepth 100000 in
set_option maxHeartbeats 2000000 in
theorem is_at (bw off cw nw p x i m : Nat) (a : Nat) (w : World) (b1 : w.cell? ⟨p, 1, Option.none⟩ = some (.slice (some ⟨bw, off, Option.none⟩) nw cw)) (c1 : w.cell? ⟨bw, off + i, Option.none⟩ = some (.int .u64 (x : Int)))
    (hx : x < 18446744073709551616) (hi : i < nw) (hia : a / 64 = i) (hma : a % 64 = m) (ha : a ≤ 65536) :
    Calls Try.prog 54 #[.pointer (some ⟨p, 0, Option.none⟩), .int .i64 a] w fun e w' => e = .returned (.bool (x.testBit m)) ∧ w = w' := by
  have hb1 := and_one x m hx
  have hd : (a : Int) / 64 = ((a / 64 : Nat) : Int) := rfl
  have hmm : (a : Int) % 64 = ((a % 64 : Nat) : Int) := rfl
  rw [hia] at hd
  rw [hma] at hmm
  have hm64 : m < 64 := by omega
  have HO : Hid (decide (0 < x / 2 ^ m % 2) = x.testBit m) := Lib.hid (by rw [testBit_is, Bool.eq_iff_iff, decide_eq_true_eq, decide_eq_true_eq]; omega)
  clear hia hma
  generalize x / 2 ^ m % 2 = d at *
  go_enter Try.func54, Try.ntmps54
  go_wp2
  go_ret
  exact ⟨ret_b (by rw [← HO.out]), rfl⟩

/-- Its slices lie below n. -/
structure SRdN (n : Nat) (w : World) (s : Sl) (h : Hd) : Prop where
  fw : RdN n .u64 w h.aw s.ws
  fk : RdN n .i64 w h.ak s.ks
  fv : RdN n .i64 w h.av s.vs
theorem SRdN.keep {n : Nat} {w w1 : World} {s : Sl} {h : Hd} (r : SRdN n w s h) (hb : Below n w w1) : SRdN n w1 s h := ⟨r.fw.keep hb, r.fk.keep hb, r.fv.keep hb⟩
theorem SRdN.of {n : Nat} {w : World} {s : Sl} {h : Hd} (r : SRd w s h) (hn : w.heap.size ≤ n) : SRdN n w s h := ⟨RdN.of r.fw hn, RdN.of r.fk hn, RdN.of r.fv hn⟩
theorem RdN.at {n : Nat} {k : IntKind} {w : World} {a : Option Addr} {zs : List Int} {i : Nat} (h : RdN n k w a zs) (hi : i < zs.length) : ∃ b off, a = some ⟨b, off, Option.none⟩ ∧ b < n ∧ w.cell? ⟨b, off + i, Option.none⟩ = some (.int k (zs.getD i 0)) := by
  rcases h with h | ⟨b, off, ha, hlt, hc⟩
  · subst h; simp at hi
  · exact ⟨b, off, ha, hlt, hc i hi⟩

set_option maxRecDepth 100000 in
set_option maxHeartbeats 4000000 in
theorem pairs1_in (m l Bs Bf Bt n0 lo hi f t g q : Nat) (s : Sl) (h : Hd) (hu : U64 s.ws) (o : Ok s g q) (ht : t ≤ s.ks.length) (hft : f ≤ t) (b1 : lo ≤ Bs ∧ Bs < hi) (b2 : lo ≤ Bf ∧ Bf < hi) (b3 : lo ≤ Bt ∧ Bt < hi) (hlo : n0 ≤ lo) (J Jx : List Nat → World → Prop)
    (hJg : ∀ pre W W', J pre W → Below W.heap.size W W' → J pre W')
    (hY : ∀ pre x W, J pre W → pre.length < t - f → YieldAt Fence.wide (m - 1) Try.prog l (encS s x) W fun e W' =>
      (e = .returned (.bool true) ∧ J (pre ++ [x]) W' ∧ Keeps n0 lo hi W W') ∨ (e = .returned (.bool false) ∧ Jx (pre ++ [x]) W'))
    (W : World) (hnz : hi ≤ W.heap.size) (hrw : SRdN n0 W s h)
    (hcs : W.cell? ⟨Bs, 0, Option.none⟩ = some (.int .i64 s.seg) ∧ W.cell? ⟨Bs, 1, Option.none⟩ = some (.slice h.aw s.ws.length h.cw) ∧ W.cell? ⟨Bs, 2, Option.none⟩ = some (.slice h.ak s.ks.length h.ck) ∧
      W.cell? ⟨Bs, 3, Option.none⟩ = some (.slice h.av s.vs.length h.cv) ∧ W.cell? ⟨Bs, 4, Option.none⟩ = some (.slice h.ac s.cs.length h.cc) ∧ W.cell? ⟨Bs, 5, Option.none⟩ = some (.int .u64 s.laid))
    (hcf : W.cell? ⟨Bf, 0, Option.none⟩ = some (.int .i64 f)) (hct : W.cell? ⟨Bt, 0, Option.none⟩ = some (.int .i64 t)) (h0 : J [] W) :
    CallsIn Fence.wide m Try.prog 53 #[.func (.yield l) #[] #[], .pointer (some ⟨Bf, 0, Option.none⟩), .pointer (some ⟨Bt, 0, Option.none⟩), .pointer (some ⟨Bs, 0, Option.none⟩)] W fun e W' => (∃ v, e = .returned v) ∧
      ((∃ ys, ys = occs s.ws f (t - f) ∧ J ys W') ∨ (∃ pre, pre <+: occs s.ws f (t - f) ∧ Jx pre W')) := by
  have HU := Lib.hid hu
  have HO := Lib.hid o
  have HRW := Lib.hid hrw
  have HCS := Lib.hid hcs
  have HJG := Lib.hid hJg
  have HL := Lib.hid (fun k => occs_length s.ws f k)
  have hn1 := o.n1
  have HWW : Hid (s.ks.length ≤ 64 * s.ws.length ∧ s.vs.length = s.ks.length ∧ s.ws.length ≤ 2000) := Lib.hid (by have := o.w; exact ⟨by omega, o.v, by omega⟩)
  have HY := Lib.hid hY
  clear hu o hrw hcs hJg hY
  refine callsIn_of_wp Try.func53 rfl trivial ?_ rfl
  simp only [Try.ntmps53, List.size_toArray, List.length_cons, List.length_nil, Nat.reduceAdd, Nat.reduceSub, Array.replicate_succ, Array.replicate_zero, List.push_toArray, List.append_toArray, List.nil_append, List.cons_append]
  gi_wp2
  gi_loopw [5, 6] (fun i _ wr => ∃ k A : Nat, A = f + k ∧ A ≤ t ∧ i = .int .i64 (A : Int) ∧ J (occs s.ws f k) wr ∧ SRdN n0 wr s h ∧ hi ≤ wr.heap.size ∧ (∀ b o, lo ≤ b → b < hi → wr.cell? ⟨b, o, Option.none⟩ = W.cell? ⟨b, o, Option.none⟩)) (fun i _ _ => t - (intOf i).toNat)
  case atStart => exact ⟨0, f, rfl, hft, rfl, h0, HRW.out, hnz, fun _ _ _ _ => rfl⟩
  case round =>
    obtain ⟨k, A, hA, hk, rfl, hJs, hrd, hwz, hsame⟩ := hrel
    have c2 := (hsame Bf 0 b2.1 b2.2).trans hcf
    have c3 := (hsame Bt 0 b3.1 b3.2).trans hct
    have s0 := (hsame Bs 0 b1.1 b1.2).trans HCS.out.1
    have s1 := (hsame Bs 1 b1.1 b1.2).trans HCS.out.2.1
    have s2 := (hsame Bs 2 b1.1 b1.2).trans HCS.out.2.2.1
    have s3 := (hsame Bs 3 b1.1 b1.2).trans HCS.out.2.2.2.1
    have s4 := (hsame Bs 4 b1.1 b1.2).trans HCS.out.2.2.2.2.1
    have s5 := (hsame Bs 5 b1.1 b1.2).trans HCS.out.2.2.2.2.2
    have HS := Lib.hid hsame
    have HRD := Lib.hid hrd
    have HJS := Lib.hid hJs
    have HWZ := Lib.hid hwz
    clear hrd hsame hJs
    have HSUC := Lib.hid (occs_succ s.ws f k)
    rw [← hA] at HSUC
    have HAK := Lib.hid hA
    clear hA
    by_cases hlt : A < t
    · have hlt2 : (A : Int) < (t : Int) := by omega
      obtain ⟨bw, ow, haw, lw, cw0⟩ := RdN.at HRD.out.fw (show (A) / 64 < s.ws.length by have := HWW.out.1; omega)
      obtain ⟨bk, ok, hak, lk, ck0⟩ := RdN.at HRD.out.fk (show A < s.ks.length by omega)
      obtain ⟨bv, ov, hav, lv, cv0⟩ := RdN.at HRD.out.fv (show A < s.vs.length by have := HWW.out.2.1; omega)
      rw [wd_int HU.out] at cw0
      rw [haw] at s1
      rw [hak] at s2
      rw [hav] at s3
      have hx := wd_of HU.out ((A) / 64)
      have HIS := Lib.hid (fun w1 p b1 c1 => is_at bw ow h.cw s.ws.length p (wd s.ws ((A) / 64)) ((A) / 64) ((A) % 64) (A) w1 b1 c1 hx (by have := HWW.out.1; omega) rfl rfl (by omega))
      rw [show (wd s.ws ((A) / 64)).testBit ((A) % 64) = occB s.ws (A) from rfl] at HIS
      have z1 : bw < wr.heap.size := by omega
      have z2 : bk < wr.heap.size := by omega
      have z3 : bv < wr.heap.size := by omega
      have z4 : Bs < wr.heap.size := by omega
      have z5 : Bf < wr.heap.size := by omega
      have z6 : Bt < wr.heap.size := by omega
      have z7 : wr.heap.size ≠ Bs := by omega
      clear hx haw hak hav
      generalize hxx : wd s.ws ((A) / 64) = x at *
      generalize hqq : (A) / 64 = iq at *
      clear hxx
      have hks : A < s.ks.length := by omega
      have hvs : A < s.vs.length := by have := HWW.out.2.1; omega
      have hiq : iq < s.ws.length := by have := HWW.out.1; omega
      cases hoc : occB s.ws (A)
      · rw [hoc] at HIS HSUC
        clear hoc hqq
        gi_wp2
        have HB1 : Hid (Below wr.heap.size wr (wr.alloc (.cells #[.int .i64 s.seg, .slice (some ⟨bw, ow, Option.none⟩) s.ws.length h.cw, .slice (some ⟨bk, ok, Option.none⟩) s.ks.length h.ck, .slice (some ⟨bv, ov, Option.none⟩) s.vs.length h.cv, .slice h.ac s.cs.length h.cc, .int .u64 s.laid] 91))) := Lib.hid ((Below.refl _ _).alloc (Nat.le_refl _) _)
        obtain ⟨-, d1, -, -, -, -⟩ := box6 (w := wr) (Below.refl _ (wr.alloc (.cells #[.int .i64 s.seg, .slice (some ⟨bw, ow, Option.none⟩) s.ws.length h.cw, .slice (some ⟨bk, ok, Option.none⟩) s.ks.length h.ck, .slice (some ⟨bv, ov, Option.none⟩) s.vs.length h.cv, .slice h.ac s.cs.length h.cc, .int .u64 s.laid] 91)))
        have cw1 := (HB1.out.cell (p := ⟨bw, ow + iq, Option.none⟩) z1).trans cw0
        have HBsz := HB1.out.size
        generalize hw1 : wr.alloc (.cells #[.int .i64 s.seg, .slice (some ⟨bw, ow, Option.none⟩) s.ws.length h.cw, .slice (some ⟨bk, ok, Option.none⟩) s.ks.length h.ck, .slice (some ⟨bv, ov, Option.none⟩) s.vs.length h.cv, .slice h.ac s.cs.length h.cc, .int .u64 s.laid] 91) = w1 at *
        have HIW := Lib.hid (HIS.out w1.drew wr.heap.size d1 cw1)
        clear s0 s1 s2 s3 s4 s5 c3 cw0 ck0 cv0
        refine wpIn_region_still_tail 15 mixed' (by kernel_rfl) ?_
        simp only [List.take_succ_cons, List.take_zero, List.drop_succ_cons, List.drop_zero]
        still_step
        still_call (HIW.out.mono fun _ _ h => ⟨h.1, h.2.symm⟩)
        refine wpStill_step (fun K hK => ?_)
        go_simp
        generalize hz : ({ tmps := _, defers := _ } : Act) = zz
        refine hK zz ?_
        clear hK K
        refine still_skips _ _ (by rw [← hz]; kernel_rfl) ?_
        generalize hz2 : putAll _ zz = z2
        refine listIn_skip2 (by rw [← hz2, ← hz]; kernel_rfl) ?_
        generalize hz3 : putAll _ z2 = z3
        simp only [putAll, Act.put, ← hz2, ← hz] at hz3
        subst hz3
        gi_wp2
        go_roundw
        case rel => exact ⟨k + 1, A + 1, by have := HAK.out; omega, by omega, by go_num, by rw [HSUC.out, if_neg (by decide), List.append_nil]; exact HJG.out _ _ _ HJS.out HB1.out.drew, HRD.out.keep (HB1.out.drew.mono (by omega)), Nat.le_trans HWZ.out HB1.out.size, fun b o h1 h2 => ((HB1.out.drew).cell (p := ⟨b, o, Option.none⟩) (by show b < wr.heap.size; have := HWZ.out; omega)).trans (HS.out b o h1 h2)⟩
        case measure => simp [intOf]; omega
      · rw [hoc] at HIS HSUC
        clear hoc hqq
        gi_wp2
        have HB1 : Hid (Below wr.heap.size wr (wr.alloc (.cells #[.int .i64 s.seg, .slice (some ⟨bw, ow, Option.none⟩) s.ws.length h.cw, .slice (some ⟨bk, ok, Option.none⟩) s.ks.length h.ck, .slice (some ⟨bv, ov, Option.none⟩) s.vs.length h.cv, .slice h.ac s.cs.length h.cc, .int .u64 s.laid] 91))) := Lib.hid ((Below.refl _ _).alloc (Nat.le_refl _) _)
        obtain ⟨-, d1, -, -, -, -⟩ := box6 (w := wr) (Below.refl _ (wr.alloc (.cells #[.int .i64 s.seg, .slice (some ⟨bw, ow, Option.none⟩) s.ws.length h.cw, .slice (some ⟨bk, ok, Option.none⟩) s.ks.length h.ck, .slice (some ⟨bv, ov, Option.none⟩) s.vs.length h.cv, .slice h.ac s.cs.length h.cc, .int .u64 s.laid] 91)))
        have cw1 := (HB1.out.cell (p := ⟨bw, ow + iq, Option.none⟩) z1).trans cw0
        have ck1 := (HB1.out.cell (p := ⟨bk, ok + (A), Option.none⟩) z2).trans ck0
        have cv1 := (HB1.out.cell (p := ⟨bv, ov + (A), Option.none⟩) z3).trans cv0
        have t2 := (HB1.out.cell (p := ⟨Bs, 2, Option.none⟩) z4).trans s2
        have t3 := (HB1.out.cell (p := ⟨Bs, 3, Option.none⟩) z4).trans s3
        have HBsz := HB1.out.size
        generalize hw1 : wr.alloc (.cells #[.int .i64 s.seg, .slice (some ⟨bw, ow, Option.none⟩) s.ws.length h.cw, .slice (some ⟨bk, ok, Option.none⟩) s.ks.length h.ck, .slice (some ⟨bv, ov, Option.none⟩) s.vs.length h.cv, .slice h.ac s.cs.length h.cc, .int .u64 s.laid] 91) = w1 at *
        have HIW := Lib.hid (HIS.out w1.drew wr.heap.size d1 cw1)
        clear s0 s1 s2 s3 s4 s5 c3 cw0 ck0 cv0 hw1
        obtain ⟨fn, tmps, assign, body, hy, hR⟩ := HY.out (occs s.ws f k) (A) w1.drew (HJG.out _ _ _ HJS.out HB1.out.drew) (by have := HL.out k; have := HAK.out; omega)
        unfold encS at hy
        have HRR := Lib.hid hR
        clear hR
        generalize hkx : s.ks.getD (A) 0 = kx at *
        generalize hvx : s.vs.getD (A) 0 = vx at *
        clear hkx hvx
        refine wpIn_region_still_tail 15 mixed' (by kernel_rfl) ?_
        simp only [List.take_succ_cons, List.take_zero, List.drop_succ_cons, List.drop_zero]
        still_step
        still_call (HIW.out.mono fun _ _ h => ⟨h.1, h.2.symm⟩)
        iterate 13 still_step
        refine wpStill_nil ?_
        gi_wp2
        refine ⟨fun h => (by cases h), HRR.out.mono ?_⟩
        rintro e W3 (⟨rfl, hJ3, hk3⟩ | ⟨rfl, hJx3⟩)
        · gi_wp2
          go_roundw
          case rel => exact ⟨k + 1, A + 1, by have := HAK.out; omega, by omega, by go_num, by rw [HSUC.out, if_pos trivial]; exact hJ3, HRD.out.keep ((HB1.out.drew.mono (by omega)).trans hk3.below), Nat.le_trans HWZ.out (Nat.le_trans HB1.out.size hk3.below.size), fun b o h1 h2 => ((hk3.cell h1 h2).trans ((HB1.out.drew).cell (p := ⟨b, o, Option.none⟩) (by show b < wr.heap.size; have := HWZ.out; omega))).trans (HS.out b o h1 h2)⟩
          case measure => simp [intOf]; omega
        · gi_wp2
          refine bodyPost_ret (results_none rfl _ _ _) rfl ?_
          exact ⟨⟨_, rfl⟩, .inr ⟨occs s.ws f k ++ [A], by
            have e1 := occs_add s.ws f (k + 1) (t - f - (k + 1))
            rw [show k + 1 + (t - f - (k + 1)) = t - f by have := HAK.out; omega, HSUC.out, if_pos trivial] at e1
            rw [e1]; exact List.prefix_append _ _, hJx3⟩⟩
    · obtain rfl : t = A := by omega
      have HE : Hid (t - f = k) := Lib.hid (by have := HAK.out; omega)
      have hge : ¬ (t : Int) < (t : Int) := by omega
      clear s0 s1 s2 s3 s4 s5
      gi_wp2
      refine ⟨rfl, _, results_none rfl _ _ _, ?_⟩
      exact ⟨⟨_, rfl⟩, .inl (by first | exact HJS.out | (rw [HE.out]; exact HJS.out))⟩
end Go.Proofs.Ytiemfklonhlnnaa.Slo

namespace Go.Proofs.Ytiemfklonhlnnaa.Slo
open Go.RowKit Go.Shelf Go.Proofs.Ytiemfklonhlnnaa Go.Proofs.Ytiemfklonhlnnaa.Occ Go.Proofs.Ytiemfklonhlnnaa.Frac
attribute [local go_sem] sval Oper.semAt_some

/-- The iterator's value: three boxes. -/
def boxS (w : World) (s : Sl) (h : Hd) (f t : Int) : World :=
  ((w.alloc (.cells #[.int .i64 s.seg, .slice h.aw s.ws.length h.cw, .slice h.ak s.ks.length h.ck, .slice h.av s.vs.length h.cv, .slice h.ac s.cs.length h.cc, .int .u64 s.laid] 29)).alloc (.cells #[.int .i64 f] 3)).alloc (.cells #[.int .i64 t] 3)
theorem boxS_size (w : World) (s : Sl) (h : Hd) (f t : Int) : (boxS w s h f t).heap.size = w.heap.size + 3 := by simp [boxS]
theorem boxS_below (w : World) (s : Sl) (h : Hd) (f t : Int) : Below w.heap.size w (boxS w s h f t) := (((Below.refl _ w).alloc (Nat.le_refl _) _).alloc (by simp) _).alloc (by simp; omega) _
theorem boxS_cells (w : World) (s : Sl) (h : Hd) (f t : Int) :
    ((boxS w s h f t).cell? ⟨w.heap.size, 0, Option.none⟩ = some (.int .i64 s.seg) ∧ (boxS w s h f t).cell? ⟨w.heap.size, 1, Option.none⟩ = some (.slice h.aw s.ws.length h.cw) ∧ (boxS w s h f t).cell? ⟨w.heap.size, 2, Option.none⟩ = some (.slice h.ak s.ks.length h.ck) ∧
      (boxS w s h f t).cell? ⟨w.heap.size, 3, Option.none⟩ = some (.slice h.av s.vs.length h.cv) ∧ (boxS w s h f t).cell? ⟨w.heap.size, 4, Option.none⟩ = some (.slice h.ac s.cs.length h.cc) ∧ (boxS w s h f t).cell? ⟨w.heap.size, 5, Option.none⟩ = some (.int .u64 s.laid)) ∧
    (boxS w s h f t).cell? ⟨w.heap.size + 1, 0, Option.none⟩ = some (.int .i64 f) ∧ (boxS w s h f t).cell? ⟨w.heap.size + 2, 0, Option.none⟩ = some (.int .i64 t) := by
  unfold boxS
  have a1 : Below (w.heap.size + 1) (w.alloc (.cells #[.int .i64 s.seg, .slice h.aw s.ws.length h.cw, .slice h.ak s.ks.length h.ck, .slice h.av s.vs.length h.cv, .slice h.ac s.cs.length h.cc, .int .u64 s.laid] 29)) _ := ((Below.refl _ _).alloc (by simp) (.cells #[.int .i64 f] 3)).alloc (by simp) (.cells #[.int .i64 t] 3)
  have a2 := Boxed.new (w.alloc (.cells #[.int .i64 s.seg, .slice h.aw s.ws.length h.cw, .slice h.ak s.ks.length h.ck, .slice h.av s.vs.length h.cv, .slice h.ac s.cs.length h.cc, .int .u64 s.laid] 29)) 3 (.int .i64 f)
  have a3 := Boxed.new ((w.alloc (.cells #[.int .i64 s.seg, .slice h.aw s.ws.length h.cw, .slice h.ak s.ks.length h.ck, .slice h.av s.vs.length h.cv, .slice h.ac s.cs.length h.cc, .int .u64 s.laid] 29)).alloc (.cells #[.int .i64 f] 3)) 3 (.int .i64 t)
  simp only [World.size_alloc] at a2 a3
  exact ⟨box6 a1, (a2.alloc _).cell, a3.cell⟩
set_option maxRecDepth 100000 in
set_option maxHeartbeats 1000000 in
theorem pairs_any (s : Sl) (h : Hd) (f t : Int) (w : World) :
    Calls Try.prog 39 #[sval s h, .int .i64 f, .int .i64 t] w fun e w' => e = .returned (.func (.func 53) #[] #[.pointer (some ⟨w.heap.size + 1, 0, Option.none⟩), .pointer (some ⟨w.heap.size + 2, 0, Option.none⟩), .pointer (some ⟨w.heap.size, 0, Option.none⟩)]) ∧
      boxS w s h f t = w' := by
  go_enter Try.func39, Try.ntmps39
  go_wp2
  go_ret
  exact ⟨rfl, rfl⟩
/-- The pairs come one behind the other; or a part of them, a round having said 'no more'. -/
theorem pairs_stops (m n0 f t g q : Nat) (s : Sl) (h : Hd) (w : World) (hu : U64 s.ws) (o : Ok s g q) (hr : SRdN n0 w s h) (hn : n0 ≤ w.heap.size) (ht : t ≤ s.ks.length) (hft : f ≤ t) :
    SeqStopsK Fence.wide m Try.prog 53 #[.pointer (some ⟨w.heap.size + 1, 0, Option.none⟩), .pointer (some ⟨w.heap.size + 2, 0, Option.none⟩), .pointer (some ⟨w.heap.size, 0, Option.none⟩)] (encS s) (Keeps n0 w.heap.size (w.heap.size + 3)) (fun ys => ys = occs s.ws f (t - f)) (fun pre => pre <+: occs s.ws f (t - f)) (t - f) (boxS w s h f t) := fun l J Jx W hW hJ hJz hY h0 => by
  obtain ⟨cs, cf, ct⟩ := boxS_cells w s h f t
  have hs := boxS_size w s h f t
  have hb := boxS_below w s h f t
  have k := fun o => hW.cell (p := ⟨w.heap.size, o, Option.none⟩) (by show w.heap.size < _; omega)
  exact pairs1_in m l _ _ _ n0 w.heap.size (w.heap.size + 3) f t g q s h hu o ht hft (by omega) (by omega) (by omega) hn J Jx (fun pre A B hA hAB => hJ pre A B Option.none hA (grown0 hAB) (fun r e => by cases e))
    hY W (by have := hW.size; omega) (hr.keep ((hb.mono hn).trans (hW.mono (by omega))))
    ⟨(k 0).trans cs.1, (k 1).trans cs.2.1, (k 2).trans cs.2.2.1, (k 3).trans cs.2.2.2.1, (k 4).trans cs.2.2.2.2.1, (k 5).trans cs.2.2.2.2.2⟩
    ((hW.cell (p := ⟨w.heap.size + 1, 0, Option.none⟩) (by show w.heap.size + 1 < _; omega)).trans cf) ((hW.cell (p := ⟨w.heap.size + 2, 0, Option.none⟩) (by show w.heap.size + 2 < _; omega)).trans ct) h0
end Go.Proofs.Ytiemfklonhlnnaa.Slo

namespace Go.Proofs.Ytiemfklonhlnnaa.Slo
open Go.RowKit Go.Shelf Go.Proofs.Ytiemfklonhlnnaa Go.Proofs.Ytiemfklonhlnnaa.Occ Go.Proofs.Ytiemfklonhlnnaa.Frac
attribute [local go_sem] sval

def pairAt (s : Sl) (i : Nat) : Int × Int := (s.ks.getD i 0, s.vs.getD i 0)
def prs (s : Sl) (f d : Nat) : List (Int × Int) := (occs s.ws f d).map (pairAt s)
def prsV (s : Sl) (f t : Int) : List (Int × Int) × Int := if askS s (inB s.ks.length f t) = 0 then (prs s f.toNat (t - f).toNat, 0) else ([], askS s (inB s.ks.length f t))
/-- What answers pairs and an error: new memory. -/
def AnsPr (V : List (Int × Int) × Int) (w : World) (e : Ending) (w' : World) : Prop :=
  ∃ v, e = .returned (.tuple #[v, .int .i64 V.2]) ∧ w'.ownsRow w.heap.size 34 2 v V.1.length (pcells V.1) ∧ Below w.heap.size w w'
theorem prs_length (s : Sl) (f d : Nat) : (prs s f d).length = (occs s.ws f d).length := by unfold prs; rw [List.length_map]

set_option maxRecDepth 100000 in
set_option maxHeartbeats 2000000 in
theorem sPairs_any (s : Sl) (h : Hd) (f t : Int) (w : World) (W : s.Wf) (R : SRd w s h) :
    Calls Try.prog 24 #[sval s h, .int .i64 f, .int .i64 t] w fun e w' => AnsPr (prsV s f t) w e w' := by
  have HC := Lib.hid (fun w1 (hb : Below w.heap.size w w1) => sPart_any s h f t w1 W (R.mono hb (Nat.le_refl _)))
  have HB : Hid (∀ o, Below w.heap.size w (w.alloc o)) := Lib.hid fun o => (Below.refl _ w).alloc (Nat.le_refl _) _
  by_cases hv : askS s (inB s.ks.length f t) = 0
  · have HV : Hid (prsV s f t = (prs s f.toNat (t - f).toNat, 0)) := Lib.hid (if_pos hv)
    obtain ⟨hok, hin⟩ := askS_ok hv
    obtain ⟨h0, h1, h2⟩ := inB_iff.1 hin
    obtain ⟨f, rfl⟩ := Int.eq_ofNat_of_zero_le h0
    obtain ⟨t, rfl⟩ := Int.eq_ofNat_of_zero_le (show 0 ≤ t by omega)
    rw [Int.toNat_natCast, show ((t : Int) - (f : Int)).toNat = t - f by omega] at HV
    obtain ⟨g, q, o⟩ := okS_iff.1 hok
    have hn1 := o.n1
    have HS := Lib.hid (fun w1 (hb : Below w.heap.size w w1) => pairs_stops 1 w1.heap.size f t g q s h w1 W.u o (SRdN.of (R.mono hb (Nat.le_refl _)) (Nat.le_refl _)) (Nat.le_refl _) (by omega) (by omega))
    have HCL := Lib.hid (fun w1 (hb : Below w.heap.size w w1) => collect_pairs (pairAt s) 53 #[.pointer (some ⟨w1.heap.size + 1, 0, Option.none⟩), .pointer (some ⟨w1.heap.size + 2, 0, Option.none⟩), .pointer (some ⟨w1.heap.size, 0, Option.none⟩)] (enters_of Try.func53 (by kernel_rfl) rfl) w1.heap.size w1.heap.size (w1.heap.size + 3) (t - f) _ _ (boxS w1 s h f t) (by rw [boxS_size]; omega) (by rw [boxS_size]; omega) (by omega) (HS.out w1 hb))
    have HPA := Lib.hid (fun w1 => pairs_any s h f t w1)
    rw [hv] at HC
    clear W R hv hok hin h0 h1 h2 o HS hn1
    unfold sval at *
    go_enter Try.func24, Try.ntmps24
    go_wp2_with fail
    refine (HC.out _ (HB.out _)).mono ?_
    rintro e w1 ⟨rfl, hb⟩
    have HB1 := Lib.hid ((HB.out _).trans (hb.mono (HB.out _).size))
    obtain ⟨c0, c1, c2, c3, c4, c5⟩ := box6 (wr := w1) (by simpa using hb)
    clear hb
    go_wp2_with fail
    refine (HPA.out w1).mono ?_
    rintro e w2 ⟨rfl, rfl⟩
    go_wp2_with fail
    refine (HCL.out w1 HB1.out).mono ?_
    rintro e w3 ⟨v, xs, rfl, rfl, hrow, hb⟩
    have HR := Lib.hid hrow
    have HB3 : Hid (Below w.heap.size w w3) := Lib.hid ((HB1.out.trans ((boxS_below w1 s h f t).mono HB1.out.size)).trans (hb.mono (by rw [boxS_size]; have := HB1.out.size; omega)))
    have HZ : Hid (w.heap.size ≤ (boxS w1 s h f t).heap.size) := Lib.hid (by rw [boxS_size]; have := HB1.out.size; omega)
    clear hrow hb c0 c1 c2 c3 c4 c5
    go_wp2
    go_ret2
    exact ⟨v, by rw [HV.out]; rfl, by rw [HV.out, prs_length]; exact HR.out.mono HZ.out, HB3.out⟩
  · have HV : Hid (prsV s f t = ([], askS s (inB s.ks.length f t))) := Lib.hid (if_neg hv)
    generalize askS s (inB s.ks.length f t) = c at *
    have hne : (c != 0) = true := by rw [bne_iff_ne]; exact hv
    clear W R hv
    unfold sval at *
    go_enter Try.func24, Try.ntmps24
    go_wp2_with fail
    refine (HC.out _ (HB.out _)).mono ?_
    rintro e w1 ⟨rfl, hb⟩
    have HB1 := Lib.hid ((HB.out _).trans (hb.mono (HB.out _).size))
    clear hb
    go_wp2
    go_ret2
    exact ⟨_, by rw [HV.out]; rfl, by rw [HV.out]; exact World.ownsRow_nil _ _ _ _, HB1.out⟩
end Go.Proofs.Ytiemfklonhlnnaa.Slo

namespace Go.Proofs.Ytiemfklonhlnnaa.Slo
open Go.RowKit Go.Shelf Go.Proofs.Ytiemfklonhlnnaa Go.Proofs.Ytiemfklonhlnnaa.Occ Go.Proofs.Ytiemfklonhlnnaa.Frac
attribute [local go_sem] sval Oper.semAt_some

def atV (s : Sl) (a : Int) : (Int × Int) × Int :=
  if askS s (atB s.ks.length a) = 0 then (if occB s.ws a.toNat = true then (pairAt s a.toNat, 0) else ((0, 0), 6)) else ((0, 0), askS s (atB s.ks.length a))
/-- What answers a pair and an error. -/
def AnsP1 (V : (Int × Int) × Int) (w : World) (e : Ending) (w' : World) : Prop :=
  e = .returned (.tuple #[.agg #[.int .i64 V.1.1, .int .i64 V.1.2], .int .i64 V.2]) ∧ Below w.heap.size w w'

/-- The two results' cells. -/
structure Two (W : World) (n : Nat) (x y e : Int) : Prop where
  c0 : W.cell? ⟨n + 1, 0, Option.none⟩ = some (.int .i64 x)
  c1 : W.cell? ⟨n + 1, 1, Option.none⟩ = some (.int .i64 y)
  c2 : W.cell? ⟨n + 2, 0, Option.none⟩ = some (.int .i64 e)
  f0 : W.frozen? ⟨n + 1, 0, Option.none⟩ = false
  f1 : W.frozen? ⟨n + 1, 1, Option.none⟩ = false
  f2 : W.frozen? ⟨n + 2, 0, Option.none⟩ = false
theorem Two.kept {A B : World} {row : Option Nat} {n : Nat} {x y e : Int} (h : Two A n x y e) (hg : A.grownBy B row) (hr : ∀ r, row = some r → ∃ o : Obj, A.heap[r]? = some o ∧ o.isCells = false) : Two B n x y e :=
  ⟨cell_kept h.c0 hg hr, cell_kept h.c1 hg hr, cell_kept h.c2 hg hr, (frozen_kept h.c0 hg hr).trans h.f0, (frozen_kept h.c1 hg hr).trans h.f1, (frozen_kept h.c2 hg hr).trans h.f2⟩
theorem Two.below {A B : World} {n : Nat} {x y e : Int} (h : Two A n x y e) {m : Nat} (hb : Below m A B) (hm : n + 2 < m) : Two B n x y e :=
  ⟨(hb.cell (p := ⟨n + 1, 0, Option.none⟩) (by show n + 1 < m; omega)).trans h.c0, (hb.cell (p := ⟨n + 1, 1, Option.none⟩) (by show n + 1 < m; omega)).trans h.c1, (hb.cell (p := ⟨n + 2, 0, Option.none⟩) (by show n + 2 < m; omega)).trans h.c2,
    (hb.frozen (p := ⟨n + 1, 0, Option.none⟩) (by show n + 1 < m; omega)).trans h.f0, (hb.frozen (p := ⟨n + 1, 1, Option.none⟩) (by show n + 1 < m; omega)).trans h.f1, (hb.frozen (p := ⟨n + 2, 0, Option.none⟩) (by show n + 2 < m; omega)).trans h.f2⟩
theorem Two.set {A : World} {n : Nat} {x y e : Int} (h : Two A n x y e) (x' y' e' : Int) : Two (((A.setCell ⟨n + 1, 0, Option.none⟩ (.int .i64 x')).setCell ⟨n + 1, 1, Option.none⟩ (.int .i64 y')).setCell ⟨n + 2, 0, Option.none⟩ (.int .i64 e')) n x' y' e' := by
  have n1 : (⟨n + 1, 0, Option.none⟩ : Addr) ≠ ⟨n + 1, 1, Option.none⟩ := by simp
  have n2 : ∀ j, (⟨n + 2, 0, Option.none⟩ : Addr) ≠ ⟨n + 1, j, Option.none⟩ := fun j => by simp
  have n3 : ∀ j, (⟨n + 1, j, Option.none⟩ : Addr) ≠ ⟨n + 2, 0, Option.none⟩ := fun j => by simp
  refine ⟨?_, ?_, ?_, by simp only [World.frozen?_setCell]; exact h.f0, by simp only [World.frozen?_setCell]; exact h.f1, by simp only [World.frozen?_setCell]; exact h.f2⟩
  · rw [World.cell?_setCell_other _ _ _ _ (n2 0), World.cell?_setCell_other _ _ _ _ n1.symm, World.cell?_setCell_same _ _ _ h.c0]
  · rw [World.cell?_setCell_other _ _ _ _ (n2 1), World.cell?_setCell_same _ _ _ ((World.cell?_setCell_other _ _ _ _ n1).trans h.c1)]
  · rw [World.cell?_setCell_same _ _ _ ((World.cell?_setCell_other _ _ _ _ (n3 1)).trans ((World.cell?_setCell_other _ _ _ _ (n3 0)).trans h.c2))]
/-- A struct of six, a pair, a number: three new blocks. -/
def atW (w : World) (s : Sl) (h : Hd) : World :=
  ((w.alloc (.cells #[.int .i64 s.seg, .slice h.aw s.ws.length h.cw, .slice h.ak s.ks.length h.ck, .slice h.av s.vs.length h.cv, .slice h.ac s.cs.length h.cc, .int .u64 s.laid] 29)).alloc (.cells #[.int .i64 0, .int .i64 0] 34)).alloc (.cells #[.int .i64 0] 35)
theorem atW_below (w : World) (s : Sl) (h : Hd) : Below w.heap.size w (atW w s h) := (((Below.refl _ w).alloc (Nat.le_refl _) _).alloc (by simp) _).alloc (by simp; omega) _
theorem atW_size (w : World) (s : Sl) (h : Hd) : (atW w s h).heap.size = w.heap.size + 3 := by simp [atW]
theorem atW_box (w : World) (s : Sl) (h : Hd) : Below (w.heap.size + 1) (w.alloc (.cells #[.int .i64 s.seg, .slice h.aw s.ws.length h.cw, .slice h.ak s.ks.length h.ck, .slice h.av s.vs.length h.cv, .slice h.ac s.cs.length h.cc, .int .u64 s.laid] 29)) (atW w s h) := ((Below.refl _ _).alloc (by simp) _).alloc (by simp) _
theorem atW_two (w : World) (s : Sl) (h : Hd) : Two (atW w s h) w.heap.size 0 0 0 := by
  unfold atW
  generalize ha : w.alloc (.cells #[.int .i64 s.seg, .slice h.aw s.ws.length h.cw, .slice h.ak s.ks.length h.ck, .slice h.av s.vs.length h.cv, .slice h.ac s.cs.length h.cc, .int .u64 s.laid] 29) = wa
  have sa : wa.heap.size = w.heap.size + 1 := by rw [← ha]; simp
  have r := Res.new wa 0 0 34
  generalize hb : wa.alloc (.cells #[.int .i64 0, .int .i64 0] 34) = wb at *
  have sb : wb.heap.size = w.heap.size + 2 := by rw [← hb]; simp [sa]
  have r2 := r.below ((Below.refl wb.heap.size wb).alloc (Nat.le_refl _) (.cells #[.int .i64 0] 35)) (show wa.heap.size < wb.heap.size by omega)
  have b := Boxed.new wb 35 (.int .i64 0)
  have b0 := b.cell
  have b1 := b.frozen
  rw [sa] at r2
  rw [sb] at b0 b1
  exact ⟨r2.a0, r2.a1, b0, r2.f 0, r2.f 1, b1⟩

end Go.Proofs.Ytiemfklonhlnnaa.Slo

namespace Go.Proofs.Ytiemfklonhlnnaa.Slo
open Go.RowKit Go.Shelf Go.Proofs.Ytiemfklonhlnnaa Go.Proofs.Ytiemfklonhlnnaa.Occ Go.Proofs.Ytiemfklonhlnnaa.Frac
attribute [local go_sem] Oper.semAt_some

def clearSV (s : Sl) (a : Int) : Sl × Int := if (atV s a).2 = 0 then (takeV s a.toNat, 0) else (noneS, (atV s a).2)
theorem atV_ok {s : Sl} {a : Int} (h : (atV s a).2 = 0) : askS s (atB s.ks.length a) = 0 ∧ occB s.ws a.toNat = true ∧ atV s a = (pairAt s a.toNat, 0) := by
  unfold atV at *
  by_cases hv : askS s (atB s.ks.length a) = 0
  · rw [if_pos hv] at *
    by_cases ho : occB s.ws a.toNat = true
    · rw [if_pos ho] at *; exact ⟨hv, ho, rfl⟩
    · rw [if_neg ho] at h; exact absurd h (by decide)
  · rw [if_neg hv] at h; exact absurd h hv

end Go.Proofs.Ytiemfklonhlnnaa.Slo

namespace Go.Proofs.Ytiemfklonhlnnaa.Slo
open Go.RowKit Go.Shelf Go.Proofs.Ytiemfklonhlnnaa Go.Proofs.Ytiemfklonhlnnaa.Occ Go.Proofs.Ytiemfklonhlnnaa.Frac
attribute [local go_sem] Oper.semAt_some

theorem is_arr (lo hi p : Nat) (s : Sl) (h : Hd) (g q a : Nat) (w : World) (A : Arr w lo hi p s h) (o : Ok s g q) (hu : U64 s.ws) (ha : a < s.ks.length) :
    Calls Try.prog 54 #[.pointer (some ⟨p, 0, Option.none⟩), .int .i64 a] w fun e w' => e = .returned (.bool (occB s.ws a)) ∧ w = w' := by
  have hi64 : a / 64 < s.ws.length := by have := o.w; omega
  have hav : a < s.vs.length := by rw [o.v]; exact ha
  have hj := (seg_of o.g4 o.n ha).1
  have hjc : a / g < s.cs.length := by rw [o.c]; exact hj
  obtain ⟨aw, cw, ak, ck, av, cv, ac, cc⟩ := h
  obtain ⟨gw, gk, gv, gc, ⟨rfl, rfl, rfl, rfl⟩, ⟨c1, -, -, -⟩, -, -, -⟩ := A.open hi64 ha hav hjc
  rw [wd_int hu (a / 64)] at c1
  exact is_any gw cw s.ws.length p (wd s.ws (a / 64)) (a / 64) (a % 64) a w A.b1 c1 (wd_of hu (a / 64)) hi64 rfl rfl (by have := o.n1; omega)

theorem sval_none : sval noneS noneH = .agg #[.int .i64 0, .slice Option.none 0 0, .slice Option.none 0 0, .slice Option.none 0 0, .slice Option.none 0 0, .int .u64 0] := rfl

def moveSV (s : Sl) (a b : Int) : Sl × Int :=
  if (atV s a).2 ≠ 0 then (noneS, (atV s a).2) else if b < 0 ∨ (s.ks.length : Int) ≤ b then (noneS, 2) else if b ≠ a ∧ occB s.ws b.toNat = true then (noneS, 9)
  else (layV (takeV s a.toNat) b.toNat (pairAt s a.toNat).1 (pairAt s a.toNat).2, 0)

end Go.Proofs.Ytiemfklonhlnnaa.Slo

namespace Go.Proofs.Ytiemfklonhlnnaa.Slo
open Go.RowKit Go.Shelf Go.Proofs.Ytiemfklonhlnnaa Go.Proofs.Ytiemfklonhlnnaa.Occ Go.Proofs.Ytiemfklonhlnnaa.Frac

def prevV (f : Int) (xs : List Int) (k : Nat) : Int := if k = 0 then f - 1 else xs.getD (k - 1) 0
def partB (f t : Int) (xs : List Int) : Bool := (List.range xs.length).all fun k => decide (prevV f xs k < xs.getD k 0) && decide (xs.getD k 0 < t)
theorem partB_iff {f t : Int} {xs : List Int} : partB f t xs = true ↔ ∀ k, k < xs.length → prevV f xs k < xs.getD k 0 ∧ xs.getD k 0 < t := by
  simp [partB]
theorem partB_ge {f t : Int} {xs : List Int} (h : partB f t xs = true) : ∀ k, k < xs.length → f ≤ xs.getD k 0 := by
  intro k
  induction k with
  | zero => intro hk; have := (partB_iff.1 h 0 hk).1; simp [prevV] at this; simp; omega
  | succ k ih =>
    intro hk
    have h1 := (partB_iff.1 h (k + 1) hk).1
    have h2 := ih (by omega)
    simp only [prevV, Nat.add_sub_cancel, if_neg (Nat.succ_ne_zero k)] at h1
    omega
def clrV (s : Sl) (f : Nat) : Nat → Sl
  | 0 => s
  | k + 1 => takeV (clrV s f k) (f + k)
def layL (s : Sl) (xs : List Int) (ps : List (Int × Int)) : Nat → Sl
  | 0 => s
  | k + 1 => layV (layL s xs ps k) (xs.getD k 0).toNat (ps.getD k (0, 0)).1 (ps.getD k (0, 0)).2
def fillV (s : Sl) (f t : Nat) (xs : List Int) (ps : List (Int × Int)) : Sl := layL (clrV s f (t - f)) xs ps xs.length
def fillSV (s : Sl) (f t : Int) (xs : List Int) (ps : List (Int × Int)) : Sl × Int :=
  if askS s (inB s.ks.length f t) ≠ 0 then (noneS, askS s (inB s.ks.length f t)) else if xs.length ≠ ps.length ∨ partB f t xs = false then (noneS, 2) else (fillV s f.toNat t.toNat xs ps, 0)

/-- What stays. -/
structure Is (s : Sl) (g q : Nat) (n : Nat) : Prop where
  o : Ok s g q
  u : U64 s.ws
  l : 0 ≤ s.laid ∧ s.laid < 18446744073709551616
  n : s.ks.length = n
theorem Is.take {s : Sl} {g q n : Nat} (h : Is s g q n) {a : Nat} (ha : a < n) : Is (takeV s a) g q n :=
  ⟨h.o.take h.u (by rw [h.n]; exact ha), take_u h.u a, h.l, (take_len a).trans h.n⟩
theorem Is.lay {s : Sl} {g q n : Nat} (h : Is s g q n) {a : Nat} (ha : a < n) (x y : Int) : Is (layV s a x y) g q n := by
  refine ⟨h.o.lay h.u (by rw [h.n]; exact ha) x y, putV_u64 (take_u h.u a) a true, ?_, ?_⟩
  · show 0 ≤ IntKind.u64.wrap (s.laid + 1) ∧ IntKind.u64.wrap (s.laid + 1) < 18446744073709551616
    rw [IntKind.wrap_u64]; omega
  · exact (List.length_set).trans ((take_len a).trans h.n)
theorem Is.clr {s : Sl} {g q n f : Nat} (h : Is s g q n) : ∀ k, f + k ≤ n → Is (clrV s f k) g q n
  | 0, _ => h
  | k + 1, hk => (h.clr k (by omega)).take (by omega)
theorem Is.layL {s : Sl} {g q n : Nat} (h : Is s g q n) {xs : List Int} {ps : List (Int × Int)} (hx : ∀ k, k < xs.length → 0 ≤ xs.getD k 0 ∧ xs.getD k 0 < n) : ∀ k, k ≤ xs.length → Is (layL s xs ps k) g q n
  | 0, _ => h
  | k + 1, hk => (h.layL hx k (by omega)).lay (by have := hx k (by omega); omega) _ _
end Go.Proofs.Ytiemfklonhlnnaa.Slo
