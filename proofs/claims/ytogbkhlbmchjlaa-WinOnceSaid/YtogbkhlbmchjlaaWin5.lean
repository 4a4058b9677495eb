/- All windows that have a slot: Path. -/
import Derived.Test.YtogbkhlbmchjlaaWin4
namespace Go.Proofs.Ytogbkhlbmchjlaa.Win
open Go.RowKit Go.Shelf Go.Proofs.Ytogbkhlbmchjlaa Go.Proofs.Ytogbkhlbmchjlaa.Frac
attribute [local go_sem] Oper.semAt_some

def AnsP (V : List (Int × Int) × Int) (w : World) (e : Ending) (w' : World) : Prop :=
  ∃ v, e = .returned (.tuple #[v, .int .i64 V.2]) ∧ w'.ownsRow w.heap.size 38 2 v V.1.length (pcells V.1) ∧ Below w.heap.size w w'
theorem AnsP.nil {V : List (Int × Int) × Int} {w w' : World} {c : Int} (h : V = ([], c)) (hb : Below w.heap.size w w') : AnsP V w (.returned (.tuple #[.slice Option.none 0 0, .int .i64 c])) w' := by
  subst h
  exact ⟨_, rfl, World.ownsRow_nil _ _ _ _, hb⟩
theorem AnsP.some {V : List (Int × Int) × Int} {w w' : World} {zs : List (Int × Int)} {c : Int} {v : Value} {n : Nat} (h : V = (zs, c)) (hn : zs.length = n) (hv : w'.ownsRow w.heap.size 38 2 v n (pcells zs)) (hb : Below w.heap.size w w') : AnsP V w (.returned (.tuple #[v, .int .i64 c])) w' := by
  subst h; subst hn
  exact ⟨_, rfl, hv, hb⟩
def pathL (a c s : Nat) : List (Int × Int) := upto (winP a s) (c + 1)
def pathV (seg size s : Int) : List (Int × Int) × Int := if okB seg size = true ∧ inR size s = true then (pathL seg.toNat.log2 (highN seg size) s.toNat, 0) else ([], 2)

theorem asked_oneB (seg size s : Int) (w : World) (B : Nat) (hB : w.heap.size = B) :
    Calls Try.prog 25 #[.int .i64 seg, .int .i64 size, .slice (some ⟨B, 0, Option.none⟩) 1 1] (w.alloc (.cells #[.int .i64 s] 3)) fun e w' => e = .returned (.tuple #[.int .i64 (askedV seg size [s]).1, .int .i64 (askedV seg size [s]).2]) ∧ w.alloc (.cells #[.int .i64 s] 3) = w' := by
  subst hB; exact asked_one seg size s w

set_option maxRecDepth 100000 in
set_option maxHeartbeats 2000000 in
theorem path_bad (seg size s : Int) (w : World) (h : ¬ (okB seg size = true ∧ inR size s = true)) : Calls Try.prog 13 #[.int .i64 seg, .int .i64 size, .int .i64 s] w fun e w' => AnsP ([], 2) w e w' := by
  have HA := Lib.hid (show askedV seg size [s] = (0, 2) from if_neg (fun g => h ⟨g.1, by simpa using g.2⟩))
  clear h
  have hb0 : Below w.heap.size w ((w.alloc (.cells #[.slice Option.none 0 0] 31)).alloc (.cells #[.int .i64 s] 3)) := ((Below.refl _ w).alloc (Nat.le_refl _) _).alloc (by simp) _
  go_enter Try.func13, Try.ntmps13
  go_wp2_with fail
  refine wp_scope_straight ?_
  go_wp2_with fail
  refine (asked_oneB _ _ _ _ _ ?hB).mono ?_
  case hB => simp
  rintro e w' ⟨rfl, rfl⟩
  rw [HA.out]
  go_wp2
  refine bodyPost_ret (v := .tuple #[.slice Option.none 0 0, .int .i64 2]) (by simp [results, Try.results13, go_sem]) rfl ?_
  exact AnsP.nil rfl (hb0.alloc (by simp; omega) _)

theorem boxed_kept {A B : World} {b : Nat} {t : TypeId} {v : Value} {row : Option Nat} (h : Boxed A b t v) (hg : A.grownBy B row) (hr : ∀ r, row = some r → ∃ o : Obj, A.heap[r]? = some o ∧ o.isCells = false) : Boxed B b t v :=
  h.kept hg (fun e => by
    obtain ⟨o, ho, hc⟩ := hr b e.symm
    rw [show A.heap[b]? = _ from h] at ho; cases ho; cases hc)
/-- Between two rounds: what has been collected; the boxes of the loop, and of the iterator. -/
structure PathC (n0 B2 m3 a s c : Nat) (pa : Int) (k : Nat) (W : World) : Prop where
  row : ∃ v, Boxed W n0 31 v ∧ W.ownsRow n0 38 2 v k (pcells (upto (winP a s) k)) ∧ True
  high : Boxed W (n0 + 1 + 1) 3 (.int .i64 c)
  b1 : Boxed W B2 3 (.int .i64 pa)
  b2 : Boxed W (B2 + 1) 3 (.int .i64 s)
  size : m3 ≤ W.heap.size
theorem PathC.kept {n0 B2 m3 a s c : Nat} {pa : Int} {k : Nat} {A B : World} {row : Option Nat} (h : PathC n0 B2 m3 a s c pa k A) (hg : A.grownBy B row) (hr : ∀ r, row = some r → ∃ o : Obj, A.heap[r]? = some o ∧ o.isCells = false) : PathC n0 B2 m3 a s c pa k B :=
  ⟨holdsRow_own n0 n0 31 38 2 (fun k : Nat => k) (fun k => pcells (upto (winP a s) k)) (fun _ _ => True) k A B row h.row hg hr, boxed_kept h.high hg hr, boxed_kept h.b1 hg hr, boxed_kept h.b2 hg hr, Nat.le_trans h.size hg.size⟩
/-- One window more. -/
theorem PathC.more {n0 B2 m3 a s c : Nat} {pa : Int} {k : Nat} {A w1 : World} {v v' : Value} {tmp : Obj} (h : PathC n0 B2 m3 a s c pa k A) (hv : Boxed A n0 31 v) (hrow : A.ownsRow n0 38 2 v k (pcells (upto (winP a s) k))) (hn : n0 ≤ A.heap.size) (hB : n0 < B2)
    (hown : w1.ownsRow n0 38 2 v' (k + 1) (pcells (upto (winP a s) (k + 1)))) (hgrow : (A.alloc tmp).grownBy w1 v.ownBlock) :
    PathC n0 B2 m3 a s c pa (k + 1) (w1.setCell ⟨n0, 0, Option.none⟩ v') ∧ KeepsOthers A (w1.setCell ⟨n0, 0, Option.none⟩ v') ∧ Below n0 A (w1.setCell ⟨n0, 0, Option.none⟩ v') ∧ Keeps n0 B2 (B2 + 2) A (w1.setCell ⟨n0, 0, Option.none⟩ v') := by
  obtain ⟨hv1, hv2, hr2, hk2, hb2⟩ := hv.appended (by decide) hrow hn (Nat.le_refl _) hown hgrow
  have far : ∀ {b : Nat} {u : Value}, Boxed A b 3 u → b ≠ n0 → Boxed (w1.setCell ⟨n0, 0, Option.none⟩ v') b 3 u := fun {b u} hb hne =>
    ((hb.alloc tmp).kept hgrow (hb.not_row (by decide) hrow)).kept (grownBy_setCell' w1 n0 v') (by simpa using hne)
  have f1 := far h.b1 (by omega)
  have f2 := far h.b2 (by omega)
  refine ⟨⟨⟨v', hv2, hr2, trivial⟩, far h.high (by omega), f1, f2, Nat.le_trans h.size hb2.size⟩, hk2, hb2, hb2, fun i h1 h2 => ?_⟩
  rcases (show i = B2 ∨ i = B2 + 1 by omega) with rfl | rfl
  · exact f1.trans h.b1.symm
  · exact f2.trans h.b2.symm

set_option maxRecDepth 100000 in
set_option maxHeartbeats 4000000 in
theorem path_ok (a c s : Nat) (w : World) (q1 : 2 ≤ a) (q2 : a ≤ 6) (q3 : a + c ≤ 16) (hs : s < 2 ^ (a + c)) : Calls Try.prog 13 #[.int .i64 ((2 ^ a : Nat) : Int), .int .i64 ((2 ^ (a + c) : Nat) : Int), .int .i64 s] w fun e w' => AnsP (pathL a c s, 0) w e w' := by
  obtain ⟨i0, hi, hz0, hz1, hz2⟩ := info_parts info2
  have HA : Hid (askedV ((2 ^ a : Nat) : Int) ((2 ^ (a + c) : Nat) : Int) [(s : Int)] = ((c : Int), 0)) := Lib.hid (by
    have := highN_of a c
    unfold askedV
    rw [if_pos ⟨okB_of q1 q2 q3, by rw [List.all_cons, List.all_nil, Bool.and_true]; exact inR_iff.2 ⟨by omega, Int.ofNat_lt.2 hs⟩⟩, this])
  have hs16 : 2 ^ (a + c) ≤ 65536 := Nat.le_trans (Nat.pow_le_pow_right (by decide) q3) (by decide)
  have HT := Lib.hid (fun W => windows_till w.heap.size a s (c + 1) W (by omega) (by omega))
  have HZ := Lib.hid (fun W => boxW_size W ((2 ^ a : Nat) : Int) s)
  have HBW := Lib.hid (fun W => boxW_below W ((2 ^ a : Nat) : Int) s)
  generalize (2 ^ (a + c) : Nat) = pn at *
  generalize hpa : (2 ^ a : Nat) = pa at *
  have hb0 : Below w.heap.size w ((w.alloc (.cells #[.slice Option.none 0 0] 31)).alloc (.cells #[.int .i64 s] 3)) := ((Below.refl _ w).alloc (Nat.le_refl _) _).alloc (by simp) _
  refine (callsIn_wide (n := 2)).1 ?_
  refine callsIn_of_wp_marks Try.func13 rfl trivial ?_ rfl
  simp only [Try.ntmps13, List.size_toArray, List.length_cons, List.length_nil, Nat.reduceAdd, Nat.reduceSub, Array.replicate_succ, Array.replicate_zero, List.push_toArray, List.append_toArray, List.nil_append, List.cons_append]
  gi_wp2_with fail
  refine (wpIn_wide (n := 2)).2 (wp_scope_straight ((wpIn_wide (n := 2)).1 ?_))
  gi_wp2_with fail
  refine ⟨trivial, (callsIn_wide.2 (asked_oneB _ _ _ _ _ ?hB)).mono ?_⟩
  case hB => simp
  rintro e w' ⟨rfl, rfl⟩
  rw [HA.out]
  have bO := ((Boxed.new w 31 (.slice Option.none 0 0)).alloc (.cells #[.int .i64 s] 3)).alloc (.cells #[.int .i64 c] 3)
  have bH := Boxed.new ((w.alloc (.cells #[.slice Option.none 0 0] 31)).alloc (.cells #[.int .i64 s] 3)) 3 (.int .i64 c)
  have hb2 := hb0.alloc (show w.heap.size ≤ _ by simp; omega) (.cells #[.int .i64 c] 3)
  have hz2 : (((w.alloc (.cells #[.slice Option.none 0 0] 31)).alloc (.cells #[.int .i64 s] 3)).alloc (.cells #[.int .i64 c] 3)).heap.size = w.heap.size + 3 := by simp
  rw [World.size_alloc, World.size_alloc] at bH
  gi_wp2_with fail
  refine wpIn_label ?_
  generalize ((w.alloc (.cells #[.slice Option.none 0 0] 31)).alloc (.cells #[.int .i64 s] 3)).alloc (.cells #[.int .i64 c] 3) = w2 at *
  have HZ2 := Lib.hid hz2
  clear hz2
  gi_wp2_with fail
  refine ⟨trivial, (callsIn_wide.2 (windows_any _ _ _)).mono ?_⟩
  rintro e w' ⟨rfl, rfl⟩
  gi_wp2_with fail
  have hst := HT.out w2
  have hbw := HBW.out w2
  have hs3 : w2.heap.size + 2 ≤ (boxW w2 pa s).heap.size ∧ (boxW w2 pa s).heap.size ≤ w2.heap.size + 2 := by have := HZ.out w2; omega
  have hw2 : w.heap.size + 3 ≤ w2.heap.size ∧ w2.heap.size ≤ w.heap.size + 3 := by have := HZ2.out; omega
  have bO3 := bO.kept (grown0 hbw) (by simp)
  have bH3 := bH.kept (grown0 hbw) (by simp)
  have bA3 := Boxed.new w2 3 (.int .i64 pa)
  have bS3 := Boxed.new (w2.alloc (.cells #[.int .i64 pa] 3)) 3 (.int .i64 s)
  rw [World.size_alloc] at bS3
  have bA3 : Boxed (boxW w2 pa s) w2.heap.size 3 (.int .i64 pa) := bA3.alloc _
  have bS3 : Boxed (boxW w2 pa s) (w2.heap.size + 1) 3 (.int .i64 s) := bS3
  have hB3 := hb2.trans (hbw.mono (by omega))
  clear HT HBW HZ
  generalize boxW w2 pa s = w3 at *
  refine rangeFunc_tillB (fun x Bx => [(25, .int .i64 x.1), (26, .agg #[.int .i64 x.2.1, .int .i64 x.2.2]), (9, .int .i64 x.1), (10, .pointer (some ⟨Bx, 0, Option.none⟩))])
    (fun x Bx W => w3.heap.size ≤ Bx ∧ W.heap[Bx]? = some (.cells #[.int .i64 x.2.1, .int .i64 x.2.2] 38 (0, 0)))
    (gf := 34) (lb := #[.pointer (some ⟨w2.heap.size, 0, Option.none⟩), .pointer (some ⟨w2.heap.size + 1, 0, Option.none⟩)]) rfl (enters_of Try.func34 (by kernel_rfl) rfl) hst Keeps.t (Keeps.b (by omega) (by omega)) (fun _ => rfl)
    (fun pre W => (pre.length ≤ c ∧ PathC w.heap.size w2.heap.size w3.heap.size a s c pa pre.length W) ∧ Below w.heap.size w W)
    (fun j pre W => (j = .exit 0 ∧ pre.length = c + 1 ∧ PathC w.heap.size w2.heap.size w3.heap.size a s c pa pre.length W) ∧ Below w.heap.size w W)
    (OwnFrom.and (Own.from (fun s A B row hs hg hr => ⟨hs.1, hs.2.kept hg hr⟩) _) (ownFrom_below (Nat.le_refl _) (by omega)))
    (fun j => OwnFrom.and (Own.from (fun s A B row hs hg hr => ⟨hs.1, hs.2.1, hs.2.2.kept hg hr⟩) _) (ownFrom_below (Nat.le_refl _) (by omega)))
    (fun pre W h => Nat.lt_succ_of_le h.1.1)
    ⟨⟨Nat.zero_le _, ⟨_, bO3, World.ownsRow_nil _ _ _ _, trivial⟩, bH3, bA3, bS3, Nat.le_refl _⟩, hB3⟩
    ?hBp
    ?assign ?body ?stop
  case hBp =>
    rintro x Bx u A B row ⟨h1, h2⟩ hg hr
    exact ⟨h1, (grownBy_keeps_cells hg (fun r e => (hr r e).2) h2 rfl).trans h2⟩
  case assign =>
    rintro l pre ⟨x0, x1, x2⟩ W K hx ⟨⟨hlen, hC⟩, hB⟩ hK
    dsimp only [encW]
    have HK := Lib.hid hK
    have HC := Lib.hid hC
    clear hx hK hC
    gi_wp2
    have h3 := HC.out.size
    have h4 := HC.out.b2.lt
    refine HK.out W.heap.size _ ((KeepsOthers.alloc W _).from _) ⟨(Below.refl _ W).alloc (by omega) _, fun k _ hk => Below.heap_alloc W _ k (by omega)⟩ ⟨⟨hlen, HC.out.kept (World.grownBy_alloc W _ Option.none) (fun r e => by cases e)⟩, hB.alloc hB.size _⟩ ⟨h3, heap_alloc_new W _⟩
  case body =>
    rintro l pre ⟨x0, x1, x2⟩ Bx W hx ⟨⟨hlen, hC⟩, hB⟩ ⟨hbx, hcx⟩
    dsimp only at hcx
    obtain ⟨v, hv, hrow, -⟩ := hC.row
    have HC := Lib.hid hC
    clear hC
    have hc1 : W.cell? ⟨Bx, 0, Option.none⟩ = some (.int .i64 x1) := by rw [cell_of_row W Bx 0 _ _ _ hcx]; rfl
    have hc2 : W.cell? ⟨Bx, 1, Option.none⟩ = some (.int .i64 x2) := by rw [cell_of_row W Bx 1 _ _ _ hcx]; rfl
    have hcv := hv.cell
    have HP : Hid (pcells (upto (winP a s) (pre.length + 1)) = pcells (upto (winP a s) pre.length) ++ [.int .i64 x1, .int .i64 x2]) := Lib.hid (by
      rw [upto_succ, pcells_append]
      unfold winH at hx
      rw [← (Prod.mk.inj hx).2]; rfl)
    have HX0 : Hid (x0 = (pre.length : Int)) := Lib.hid (Prod.mk.inj hx).1
    clear hx
    by_cases he : x0 = (c : Int)
    · have heb : (x0 == (c : Int)) = true := by rw [beq_iff_eq]; exact he
      have HE := Lib.hid he
      clear he
      gi_wp2_with (gi_at_builtin; refine wpListIn_append_own _ rfl _ _ 31 rfl w.heap.size 38 i0 (.agg #[.int .i64 0, .int .i64 0]) 2 16 Try.underlying31 hi hz0 hz1 hz2 rfl (by decide) _ _ _ rfl (hrow.alloc _) ⟨W.heap.size, 0, Option.none⟩ 1 1 [.int .i64 x1, .int .i64 x2] rfl rfl (two_cells _ _ _ _) (by intro u hu; simp at hu; rcases hu with rfl | rfl <;> rfl) (by unfold maxLen; omega) (by omega) (by have := hB.size; simp; omega) ?_; intro v' w1 hown' hgrow _; obtain ⟨g', cap', rfl⟩ := ownsRow_succ hown'; obtain ⟨hv1, _, _, _, _⟩ := hv.appended (by decide) hrow hB.size (Nat.le_refl _) hown' hgrow; have hcv1 := hv1.cell; have hfv1 := hv1.frozen; have hH1 := (HC.out.high.alloc (.cells #[.int .i64 x1, .int .i64 x2] 38)).kept hgrow (HC.out.high.not_row (by decide) hrow); have hHc := hH1.cell)
      rw [← HP.out] at hown'
      obtain ⟨m1, m2, m3, m4⟩ := HC.out.more hv hrow hB.size (by omega) hown' hgrow
      have e1 := HX0.out
      have e2 := HE.out
      exact ⟨m2.from _, ⟨rfl, by simp; omega, by simpa using m1⟩, hB.trans m3⟩
    · have heb : (x0 == (c : Int)) = false := by rw [beq_eq_false_iff_ne]; exact he
      have HE := Lib.hid he
      clear he
      gi_wp2_with (gi_at_builtin; refine wpListIn_append_own _ rfl _ _ 31 rfl w.heap.size 38 i0 (.agg #[.int .i64 0, .int .i64 0]) 2 16 Try.underlying31 hi hz0 hz1 hz2 rfl (by decide) _ _ _ rfl (hrow.alloc _) ⟨W.heap.size, 0, Option.none⟩ 1 1 [.int .i64 x1, .int .i64 x2] rfl rfl (two_cells _ _ _ _) (by intro u hu; simp at hu; rcases hu with rfl | rfl <;> rfl) (by unfold maxLen; omega) (by omega) (by have := hB.size; simp; omega) ?_; intro v' w1 hown' hgrow _; obtain ⟨g', cap', rfl⟩ := ownsRow_succ hown'; obtain ⟨hv1, _, _, _, _⟩ := hv.appended (by decide) hrow hB.size (Nat.le_refl _) hown' hgrow; have hcv1 := hv1.cell; have hfv1 := hv1.frozen; have hH1 := (HC.out.high.alloc (.cells #[.int .i64 x1, .int .i64 x2] 38)).kept hgrow (HC.out.high.not_row (by decide) hrow); have hHc := hH1.cell)
      rw [← HP.out] at hown'
      obtain ⟨m1, m2, m3, m4⟩ := HC.out.more hv hrow hB.size (by omega) hown' hgrow
      have e1 := HX0.out
      have e2 := HE.out
      exact ⟨m2.from _, m4, ⟨by simp; omega, by simpa using m1⟩, hB.trans m3⟩
  case stop =>
    rintro D j pre W hD ⟨k, hk⟩ ⟨⟨rfl, hlen, hC⟩, hB⟩ hK
    obtain ⟨v, hv, hrow, -⟩ := hC.row
    rw [hlen] at hrow
    obtain ⟨g', cap', rfl⟩ := ownsRow_succ hrow
    have hcv := hv.cell
    have hfv := hv.frozen
    have HR := Lib.hid hrow
    clear hk hC hrow hlen
    gi_wp2
    rw [Exit.noGoto_ret]
    have hrow := HR.out
    have hK' := (KeepsOthers.setCell W ⟨w.heap.size, 0, Option.none⟩ (.slice (some ⟨g', 0, Option.none⟩) (c + 1) cap')).same D _ hK rfl
    have hrow2 := hrow.kept (grownBy_setCell' W w.heap.size (.slice (some ⟨g', 0, Option.none⟩) (c + 1) cap')) (.inr (hv.not_row (by decide) hrow).symm)
    have hrow3 := ownsRow_putObj hrow2 (.deferred Option.none) hK' rfl
    have hc5 := cell_kept (World.cell?_setCell_same' W ⟨w.heap.size, 0, Option.none⟩ (.slice (some ⟨g', 0, Option.none⟩) (c + 1) cap') (by rw [hcv]; rfl)) (grownBy_putObj' _ D (.deferred Option.none)) (fun r e => by cases e; exact ⟨_, hK', rfl⟩)
    refine ⟨by simp, .inl ⟨_, _, rfl, run_takeDeferred hK', ?_⟩⟩
    refine ⟨.tuple #[.slice (some ⟨g', 0, Option.none⟩) (c + 1) cap', .int .i64 0], by simp [results, Try.results13, go_sem, hc5], AnsP.some rfl (upto_length _ _) hrow3 ?_⟩
    exact (hB.setCell (by simp) _).trans (belowK_b (w := w) (Nat.le_refl _) _ D _ _ (by omega) hK' rfl rfl)

end Go.Proofs.Ytogbkhlbmchjlaa.Win
