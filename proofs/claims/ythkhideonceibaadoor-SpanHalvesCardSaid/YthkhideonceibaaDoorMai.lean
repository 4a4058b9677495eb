/- Lists of pairs of numbers in memory: each pair two cells. Operations whose guards say no: inside the wide fence. A range over an iterator whose loop variable lies in a box. 'slices.Collect' of pairs, against whatever iterator. Contracts of package slots: the iterator of a part's pairs. Contracts of package slots: pairs; what is collected; At. Contracts of package slots: Pairs. Contracts of package slots: At. Contracts of package slots: At (errors), Clear. Contracts of package slots: Move. Package slots, in plain Lean: a part that is filled. Contracts of package slots: Fill. Several 'make's in a region that draws its order: whatever order is picked. No program in sight. -/
import Derived.Test.YthkhideonceibaaDoorMah
import Derived.Laws.StructEq
import Derived.Sort.BigQuietIn
import Derived.Deep.OwnRows
set_option linter.unusedSimpArgs false
set_option linter.unusedVariables false
namespace Go.Proofs.YthkhideonceibaaDoor
open Go.RowKit Go.Shelf

def pcells (P : List (Int × Int)) : List Value := P.flatMap (fun p => [.int .i64 p.1, .int .i64 p.2])
theorem pcells_append (P Q : List (Int × Int)) : pcells (P ++ Q) = pcells P ++ pcells Q := by simp [pcells]
theorem pcells_length (P : List (Int × Int)) : (pcells P).length = P.length * 2 := by
  induction P with
  | nil => rfl
  | cons p P ih => rw [show p :: P = [p] ++ P from rfl, pcells_append, List.length_append, ih]; simp [pcells]; omega
theorem pcells_get (P : List (Int × Int)) (i : Nat) (h : i < P.length) : (pcells P)[i * 2]? = some (.int .i64 (P.getD i (0, 0)).1) ∧ (pcells P)[i * 2 + 1]? = some (.int .i64 (P.getD i (0, 0)).2) := by
  induction P generalizing i with
  | nil => simp at h
  | cons p P ih =>
    rw [show pcells (p :: P) = .int .i64 p.1 :: .int .i64 p.2 :: pcells P from rfl]
    cases i with
    | zero => exact ⟨rfl, rfl⟩
    | succ i =>
      have := ih i (by simpa using h)
      rw [show (i + 1) * 2 = i * 2 + 2 by omega]
      exact this
theorem pcells_one (P : List (Int × Int)) : ∀ u ∈ pcells P, u.oneCell' = true := by
  intro u hu
  unfold pcells at hu
  obtain ⟨p, _, hp⟩ := List.mem_flatMap.1 hu
  simp at hp
  rcases hp with rfl | rfl <;> rfl

/-- The pairs P stand in a row of cells at the address (which is any, where there are none). -/
def Rd2 (w : World) (a : Option Addr) (P : List (Int × Int)) : Prop :=
  P = [] ∨ ∃ b off, a = some ⟨b, off, Option.none⟩ ∧ b < w.heap.size ∧ ∀ i, i < P.length → w.cell? ⟨b, off + i * 2, Option.none⟩ = some (.int .i64 (P.getD i (0, 0)).1) ∧ w.cell? ⟨b, off + i * 2 + 1, Option.none⟩ = some (.int .i64 (P.getD i (0, 0)).2)
theorem Rd2.nil {w : World} {a : Option Addr} : Rd2 w a [] := .inl rfl
theorem Rd2.mono {w w1 : World} {a : Option Addr} {P : List (Int × Int)} {n : Nat} (h : Rd2 w a P) (hb : Below n w w1) (hn : w.heap.size ≤ n) : Rd2 w1 a P := by
  rcases h with h | ⟨b, off, ha, hlt, hc⟩
  · exact .inl h
  · exact .inr ⟨b, off, ha, Nat.lt_of_lt_of_le hlt hb.size, fun i hi => ⟨(hb.cell (p := ⟨b, off + i * 2, Option.none⟩) (Nat.lt_of_lt_of_le hlt hn)).trans (hc i hi).1, (hb.cell (p := ⟨b, off + i * 2 + 1, Option.none⟩) (Nat.lt_of_lt_of_le hlt hn)).trans (hc i hi).2⟩⟩
theorem Rd2.at {w w1 : World} {a : Option Addr} {P : List (Int × Int)} {n i : Nat} (h : Rd2 w a P) (hb : Below n w w1) (hn : w.heap.size ≤ n) (hi : i < P.length) :
    ∃ b off, a = some ⟨b, off, Option.none⟩ ∧ w1.cell? ⟨b, off + i * 2, Option.none⟩ = some (.int .i64 (P.getD i (0, 0)).1) ∧ w1.cell? ⟨b, off + i * 2 + 1, Option.none⟩ = some (.int .i64 (P.getD i (0, 0)).2) := by
  rcases h.mono hb hn with h | ⟨b, off, ha, _, hc⟩
  · subst h; simp at hi
  · exact ⟨b, off, ha, (hc i hi).1, (hc i hi).2⟩
/-- What a call has made and owns. -/
theorem owns2_arg {w : World} {base : Nat} {e : TypeId} {v : Value} {n : Nat} {P : List (Int × Int)} (h : w.ownsRow base e 2 v n (pcells P)) :
    ∃ a cap, v = .slice a P.length cap ∧ n = P.length ∧ Rd2 w a P ∧ P.length ≤ cap ∧ (a = Option.none → cap = 0) ∧ cap ≤ maxLen := by
  have hn : n = P.length := by have := h.1; rw [pcells_length] at this; omega
  subst hn
  rcases h.2 with ⟨rfl, h0⟩ | ⟨g, cap, cur, rfl, hg, hh, hc, hm, hs, ht⟩
  · have hP : P = [] := by cases P with
      | nil => rfl
      | cons _ _ => simp at h0
    subst hP
    exact ⟨Option.none, 0, rfl, rfl, .inl rfl, Nat.le_refl _, fun _ => rfl, Nat.zero_le _⟩
  · refine ⟨some ⟨g, 0, Option.none⟩, cap, rfl, rfl, .inr ⟨g, 0, rfl, ?_, fun i hi => ?_⟩, hc, (by intro h; cases h), hm⟩
    · rcases Nat.lt_or_ge g w.heap.size with h | h
      · exact h
      · rw [Array.getElem?_eq_none h] at hh; cases hh
    · have key : ∀ j, j < P.length * 2 → cur[j]? = (pcells P)[j]? := fun j hj => by
        rw [← ht, List.getElem?_take_of_lt hj, Array.getElem?_toList]
      have := pcells_get P i hi
      constructor
      · rw [Nat.zero_add]
        simp only [World.cell?, hh]
        rw [key _ (by omega), this.1]
        rfl
      · rw [Nat.zero_add]
        simp only [World.cell?, hh]
        rw [key _ (by omega), this.2]
        rfl

theorem two_cells (w : World) (t : TypeId) (x y : Int) : ∀ j u, [Value.int .i64 x, Value.int .i64 y][j]? = some u → (w.alloc (.cells #[.int .i64 x, .int .i64 y] t)).cell? ((⟨w.heap.size, 0, Option.none⟩ : Addr).add j) = some u := by
  intro j u h
  rw [Addr.add_lit, Nat.zero_add, cell_of_row _ w.heap.size j _ t (0, 0) (heap_alloc_new w _)]
  simpa using h

/-- '==' of two arrays of two numbers. -/
theorem run_equalIn_array2 {P : Program} (w : World) (d : Nat) (t e : TypeId) (i : TypeInfo) (k : IntKind) (a b x y : Int) (ht : P.underlying t = some (.array 2 e)) (he : P.underlying e = some (.int k)) (hi : P.info? e = some i) (hs : i.size = 1) :
    (Op.equalIn (d + 2) t (.agg #[.int k a, .int k b]) (.agg #[.int k x, .int k y])).run P w = .ok (a == x && b == y) w := by
  have q0 := run_equalIn_int (P := P) w d e k k a x he
  have q1 := run_equalIn_int (P := P) w d e k k b y he
  unfold Op.equalIn
  simp only [Sem.run_bind, run_underlying ht, Result.andThen_ok]
  simp [sizeOf, typeInfo, hi, hs]
  rw [show List.range' 0 2 = [0, 1] from rfl]
  simp only [List.forIn_cons, List.forIn_nil]
  cases hax : (a == x) <;> cases hby : (b == y) <;> simp [isAgg, run_underlying he, part, q0, q1, hax, hby]

/-- 'append(out, p)' of one pair. -/
theorem wpList_append_pair {P : Program} {w0 : World} {ops : Array Oper} {rest : List Oper} {o : Oper} {A : Act} {Q : Exit → Act → World → Prop} {base : Nat} {e : TypeId} {v : Value} {n : Nat} {L : List (Int × Int)} (hown : w0.ownsRow base e 2 v n (pcells L)) (hbase : base ≤ w0.heap.size)
    (hgd : o.guard = Option.none) (s x : Operand) (t : TypeId)
    (ho : o.op = .call { callee := .builtin .append, args := #[s, x], argTypes := #[t, t] })
    (i : TypeInfo) (ht : P.underlying t = some (.slice e)) (hi : P.info? e = some i) (hz : i.zero = some (.agg #[.int .i64 0, .int .i64 0])) (hsize : i.size = 2) (hby : i.bytes = 16)
    (p q : Int) (c : Nat) (hs : A.eval s = v) (hx : A.eval x = .slice (some ⟨w0.heap.size, 0, Option.none⟩) 1 c)
    (h63 : n + 1 ≤ maxLen) (hb : (n + 1) * 16 ≤ 140737488355328)
    (h : ∀ v' w', w'.ownsRow base e 2 v' (n + 1) (pcells (L ++ [(p, q)])) → Below base w0 w' → wpList P ops Q rest (A.put o.dst v') w') :
    wpList P ops Q (o :: rest) A (w0.alloc (.cells #[.int .i64 p, .int .i64 q] e)) := by
  refine wpList_append_own _ hgd s x t ho base e i (.agg #[.int .i64 0, .int .i64 0]) 2 16 ht hi hz hsize hby rfl (by decide) v n (pcells L) hs (hown.alloc _) ⟨w0.heap.size, 0, Option.none⟩ 1 c [.int .i64 p, .int .i64 q] hx (by simp) (two_cells w0 e p q) (by intro u hu; simp at hu; rcases hu with rfl | rfl <;> rfl) h63 hb (Nat.le_trans hbase (by simp)) ?_
  intro v' w' hown' hgrow _
  refine h v' w' (by rw [pcells_append]; exact hown') (((Below.refl base w0).alloc hbase _).grown hgrow (Nat.le_trans hbase (by simp)) (fun k hk => (World.ownsRow.lt hown k hk).1))
end Go.Proofs.YthkhideonceibaaDoor

namespace Go.Proofs.YthkhideonceibaaDoor
open Go.RowKit
theorem listIn_skip2 {m : Nat} {P : Program} {ops : Array Oper} {Q : Exit → Act → World → Prop} {w : World} {a : Act} {o1 o2 : Oper} {r : List Oper} (hs : skipB ops [o1, o2] a = true) (h : wpListIn Fence.wide m P ops Q r (putAll [o1, o2] a) w) : wpListIn Fence.wide m P ops Q (o1 :: o2 :: r) a w := by
  simp only [skipB, Bool.and_eq_true, Bool.not_eq_true'] at hs
  unfold wpListIn
  rw [if_neg (by rw [hs.1]; exact Bool.false_ne_true)]
  refine ⟨fun _ _ => trivial, ?_⟩
  unfold wpListIn
  rw [if_neg (by rw [hs.2.1]; exact Bool.false_ne_true)]
  exact ⟨fun _ _ => trivial, h⟩
end Go.Proofs.YthkhideonceibaaDoor

namespace Go.Proofs.YthkhideonceibaaDoor
open Go.RowKit

theorem rangeFunc_box {m : Nat} {P : Program} {α : Type} {g : Operand} {ps : Array Tmp} {assign body : Code} {Q : Exit → Act → World → Prop} {a : Act} {w : World}
    (qs : α → Nat → List (Tmp × Value)) (Bp : α → Nat → World → Prop) (h1 : 1 ≤ m) {gf : Nat} {lb : Array Value} (hg : a.eval g = .func (.func gf) #[] lb) (eg : ∀ args w, (callFunc gf args).run P w = .ok (.enter gf args) w)
    {encs : α → Array Value} {Kp : World → World → Prop} {S Sp : List α → Prop} {N : Nat} {w0 : World} (hseq : SeqStopsK Fence.wide (m - 1) P gf lb encs Kp S Sp N w0)
    (hKt : ∀ {A B C : World}, Kp A B → Kp B C → Kp A C) (hKb : ∀ (W : World) (l : Nat) (o o' : Obj), w.heap.size ≤ l → W.heap[l]? = some o → o.isCells = false → o.isWalk = false → Kp W (W.putObj l o')) (hb0 : Below w0.heap.size w0 w) (hps : ∀ x, (encs x).size = ps.size)
    (I : List α → World → Prop) (Ix : Code → List α → World → Prop) (hI : OwnFrom w.heap.size I) (hIx : ∀ c, OwnFrom w.heap.size (Ix c)) (h0 : I [] w)
    (hBp : ∀ x Bx, OwnFrom w.heap.size (fun (_ : Unit) W => Bp x Bx W))
    (hassign : ∀ (l : Nat) (pre : List α) (x : α) (W : World) (K : Act → World → Prop), I pre W → (∀ Bx W', KeepsFrom w.heap.size W W' → Kp W W' → I pre W' → Bp x Bx W' → K { tmps := (qs x Bx).foldl (fun t pv => t.setIfInBounds pv.1 pv.2) a.tmps, defers := [] } W') →
      assign.wpIn (Fence.wide.inRound l) (m - 1 - 1) P (Exit.then K (fun _ _ _ => False)) { tmps := (ps.zip (encs x)).foldl (fun t (p, v) => t.setIfInBounds p v) a.tmps, defers := [] } W)
    (hbody : ∀ (l : Nat) (pre : List α) (x : α) (Bx : Nat) (W : World), I pre W → Bp x Bx W → pre.length < N → body.wpIn (Fence.wide.inRound l) (m - 1 - 1) P (ownPostG w.heap.size Kp I Ix (pre ++ [x]) W) { tmps := (qs x Bx).foldl (fun t pv => t.setIfInBounds pv.1 pv.2) a.tmps, defers := [] } W)
    (hdone : ∀ (D : Nat) (xs : List α) (W : World), w.heap.size ≤ D → S xs → I xs W → W.heap[D]? = some (.deferred (some [])) → Q .normal { a with defers := { target := .collected D, args := #[] } :: a.defers } W)
    (hstop : ∀ (D : Nat) (c : Code) (pre : List α) (W : World), w.heap.size ≤ D → Sp pre → Ix c pre W → W.heap[D]? = some (.deferred (some [])) → c.wpIn Fence.wide m P Q { a with defers := { target := .collected D, args := #[] } :: a.defers } W) :
    (Code.rangeFunc g ps assign body).wpIn Fence.wide m P Q a w :=
  wpIn_rangeFunc_ownH rfl h1 hg trivial eg hseq hKt hKb hb0 hps I Ix hI hIx h0
    (fun x a' W => ∃ Bx, Bp x Bx W ∧ a' = { tmps := (qs x Bx).foldl (fun t pv => t.setIfInBounds pv.1 pv.2) a.tmps, defers := [] })
    (fun x a' s A B row hs hg' hr => by obtain ⟨Bx, hb, e⟩ := hs; exact ⟨Bx, hBp x Bx () A B row hb hg' hr, e⟩)
    (fun l pre x W K hi hK => hassign l pre x W K hi (fun Bx W' h1 h2 h3 h4 => hK _ W' h1 h2 h3 ⟨Bx, h4, rfl⟩))
    (fun l pre x a' W _ _ hi hax hN => by obtain ⟨Bx, hb, rfl⟩ := hax; exact hbody l pre x Bx W hi hb hN) hdone hstop
end Go.Proofs.YthkhideonceibaaDoor

namespace Go.Proofs.YthkhideonceibaaDoor
open Go.RowKit Go.Shelf
attribute [local go_sem] Oper.semAt_some

theorem infoP : (Tryd.prog.info? 38).map (fun i => (i.zero, i.size, i.bytes)) = some (some (.agg #[.int .i64 0, .int .i64 0]), 2, 16) := by kernel_rfl

set_option maxRecDepth 100000 in
set_option maxHeartbeats 2000000 in
theorem appendSeq_pairs {α : Type} (f : α → Int × Int) (g : Nat) (lb : Array Value) (eg : ∀ args w, (callFunc g args).run Tryd.prog w = .ok (.enter g args) w) (n0 lo hi N : Nat) (S Sp : List α → Prop) (w : World) (hn0 : n0 ≤ w.heap.size) (hhi : hi ≤ w.heap.size) (hN : N ≤ 1000000)
    (hseq : SeqStopsK Fence.wide 1 Tryd.prog g lb (fun x : α => #[Value.agg #[.int .i64 (f x).1, .int .i64 (f x).2]]) (Keeps n0 lo hi) S Sp N w) :
    Calls Tryd.prog 86 #[.slice Option.none 0 0, .func (.func g) #[] lb] w fun e w' => ∃ v xs, e = .returned v ∧ S xs ∧ w'.ownsRow w.heap.size 38 2 v xs.length (pcells (xs.map f)) ∧ Below w.heap.size w w' := by
  obtain ⟨i0, hi', hz0, hz1, hz2⟩ := info_parts infoP
  refine (callsIn_wide (n := 2)).1 ?_
  refine callsIn_of_wp_marks Tryd.func86 rfl trivial ?_ rfl
  simp only [Tryd.ntmps86, List.size_toArray, List.length_cons, List.length_nil, Nat.reduceAdd, Nat.reduceSub, Array.replicate_succ, Array.replicate_zero, List.push_toArray, List.append_toArray, List.nil_append, List.cons_append]
  gi_wp2
  have bO := Boxed.new w 30 (.slice Option.none 0 0)
  have hB0 : Below w.heap.size w (w.alloc (.cells #[.slice Option.none 0 0] 30)) := (Below.refl _ w).alloc (Nat.le_refl _) _
  refine rangeFunc_box (fun x Bx => [(7, .agg #[.int .i64 (f x).1, .int .i64 (f x).2]), (5, .pointer (some ⟨Bx, 0, Option.none⟩))])
    (fun x Bx W => w.heap.size < Bx ∧ W.heap[Bx]? = some (.cells #[.int .i64 (f x).1, .int .i64 (f x).2] 38 (0, 0)))
    (by decide) (gf := g) (lb := lb) rfl eg hseq Keeps.t (Keeps.b (by simp; omega) (by simp; omega)) hB0 (fun _ => rfl)
    (fun pre W => (∃ v, Boxed W w.heap.size 30 v ∧ W.ownsRow w.heap.size 38 2 v pre.length (pcells (pre.map f)) ∧ True) ∧ Below w.heap.size w W)
    (fun _ _ _ => False)
    (OwnFrom.and (Own.from (holdsRow_own w.heap.size w.heap.size 30 38 2 (fun pre : List α => pre.length) (fun pre => pcells (pre.map f)) (fun _ _ => True)) _) (ownFrom_below (Nat.le_refl _) (by simp)))
    (fun _ _ _ _ _ hs _ _ => hs)
    ⟨⟨_, bO, World.ownsRow_nil _ _ _ _, trivial⟩, hB0⟩
    ?hBp ?assign ?body ?done ?stop
  case hBp =>
    rintro x Bx u A B row ⟨h1, h2⟩ hg hr
    refine ⟨h1, (hg.block Bx (Array.getElem?_eq_some_iff.1 h2).1 (fun e => ?_)).trans h2⟩
    obtain ⟨_, o, ho, hc⟩ := hr Bx e.symm
    rw [h2] at ho; cases ho; cases hc
  case assign =>
    rintro l pre x W K ⟨⟨v, hv, hrow, -⟩, hB⟩ hK
    have HK := Lib.hid hK
    clear hK
    gi_wp2
    have hs := hB.size
    exact HK.out W.heap.size _ ((KeepsOthers.alloc W _).from _) (Keeps.of_below ((Below.refl _ W).alloc (Nat.le_refl _) _) (by omega) (by omega)) ⟨⟨v, hv.alloc _, hrow.alloc _, trivial⟩, hB.alloc hs _⟩ ⟨hv.lt, heap_alloc_new W _⟩
  case body =>
    rintro l pre x Bx W ⟨⟨v, hv, hrow, -⟩, hB⟩ ⟨hbx, hcx⟩ hlt
    have hc := hv.cell
    have hc1 : W.cell? ⟨Bx, 0, Option.none⟩ = some (.int .i64 (f x).1) := by rw [cell_of_row W Bx 0 _ _ _ hcx]; rfl
    have hc2 : W.cell? ⟨Bx, 1, Option.none⟩ = some (.int .i64 (f x).2) := by rw [cell_of_row W Bx 1 _ _ _ hcx]; rfl
    have HP : Hid (pcells ((pre ++ [x]).map f) = pcells (pre.map f) ++ [.int .i64 (f x).1, .int .i64 (f x).2]) := Lib.hid (by rw [List.map_append, pcells_append]; rfl)
    clear hcx
    generalize (f x).1 = x1 at *
    generalize (f x).2 = x2 at *
    gi_wp2_with (gi_at_builtin; refine wpListIn_append_own _ rfl _ _ 30 rfl w.heap.size 38 i0 (.agg #[.int .i64 0, .int .i64 0]) 2 16 Tryd.underlying30 hi' hz0 hz1 hz2 rfl (by decide) _ _ _ rfl (hrow.alloc _) ⟨W.heap.size, 0, Option.none⟩ 1 1 [.int .i64 x1, .int .i64 x2] rfl rfl (two_cells _ _ _ _) (by intro u hu; simp at hu; rcases hu with rfl | rfl <;> rfl) (by unfold maxLen; omega) (by omega) (by have := hB.size; simp; omega) ?_; intro v' w1 hown' hgrow _; obtain ⟨g', cap', rfl⟩ := ownsRow_succ hown'; obtain ⟨hv1, hv2, hr2, hk2, hb2⟩ := hv.appended (by decide) hrow hB.size (Nat.le_refl _) hown' hgrow; have hcv1 := hv1.cell; have hfv1 := hv1.frozen)
    exact ⟨hk2.from _, Keeps.of_below hb2 hn0 hhi, ⟨_, hv2, by rw [HP.out]; simpa using hr2, trivial⟩, hB.trans hb2⟩
  case done =>
    rintro D ys W hD hS ⟨⟨v, hv, hrow, -⟩, hB⟩ hK
    have hc := hv.cell
    gi_wp2
    refine ⟨by simp, .inl ⟨_, _, rfl, run_takeDeferred hK, ?_⟩⟩
    exact ⟨_, results_tmp rfl _ _ _, v, ys, rfl, hS, ownsRow_putObj hrow _ hK rfl, hB.trans (belowK_b (w := w) (Nat.le_refl _) W D _ _ (by simp at hD; omega) hK rfl rfl)⟩
  case stop =>
    rintro D c pre W _ _ h _
    exact h.elim

set_option maxHeartbeats 1000000 in
theorem collect_pairs {α : Type} (f : α → Int × Int) (g : Nat) (lb : Array Value) (eg : ∀ args w, (callFunc g args).run Tryd.prog w = .ok (.enter g args) w) (n0 lo hi N : Nat) (S Sp : List α → Prop) (w : World) (hn0 : n0 ≤ w.heap.size) (hhi : hi ≤ w.heap.size) (hN : N ≤ 1000000)
    (hseq : SeqStopsK Fence.wide 1 Tryd.prog g lb (fun x : α => #[Value.agg #[.int .i64 (f x).1, .int .i64 (f x).2]]) (Keeps n0 lo hi) S Sp N w) :
    Calls Tryd.prog 73 #[.func (.func g) #[] lb] w fun e w' => ∃ v xs, e = .returned v ∧ S xs ∧ w'.ownsRow w.heap.size 38 2 v xs.length (pcells (xs.map f)) ∧ Below w.heap.size w w' := by
  go_enter Tryd.func73, Tryd.ntmps73
  go_wp2_with fail
  refine (appendSeq_pairs f g lb eg n0 lo hi N S Sp w hn0 hhi hN hseq).mono ?_
  rintro e w1 ⟨v, xs, rfl, hS, hrow, hb⟩
  have HR := Lib.hid hrow
  clear hrow
  go_wp2
  go_ret
  exact ⟨v, xs, rfl, hS, HR.out, hb⟩
end Go.Proofs.YthkhideonceibaaDoor

namespace Go.Proofs.YthkhideonceibaaDoor.Slo
open Go.RowKit Go.Proofs.YthkhideonceibaaDoor Go.Proofs.YthkhideonceibaaDoor.Occ Go.Proofs.YthkhideonceibaaDoor.Frac
attribute [local go_sem] sval Oper.semAt_some

def encS (s : Sl) (a : Nat) : Array Value := #[.agg #[.int .i64 (s.ks.getD a 0), .int .i64 (s.vs.getD a 0)]]

set_option maxRecDepth 100000 in
set_option maxHeartbeats 2000000 in
theorem is_at (bw off cw nw p x i m : Nat) (a : Nat) (w : World) (b1 : w.cell? ⟨p, 1, Option.none⟩ = some (.slice (some ⟨bw, off, Option.none⟩) nw cw)) (c1 : w.cell? ⟨bw, off + i, Option.none⟩ = some (.int .u64 (x : Int)))
    (hx : x < 18446744073709551616) (hi : i < nw) (hia : a / 64 = i) (hma : a % 64 = m) (ha : a ≤ 65536) :
    Calls Tryd.prog 88 #[.pointer (some ⟨p, 0, Option.none⟩), .int .i64 a] w fun e w' => e = .returned (.bool (x.testBit m)) ∧ w = w' := by
  have hb1 := and_one x m hx
  have hd : (a : Int) / 64 = ((a / 64 : Nat) : Int) := rfl
  have hmm : (a : Int) % 64 = ((a % 64 : Nat) : Int) := rfl
  rw [hia] at hd
  rw [hma] at hmm
  have hm64 : m < 64 := by omega
  have HO : Hid (decide (0 < x / 2 ^ m % 2) = x.testBit m) := Lib.hid (by rw [testBit_is, Bool.eq_iff_iff, decide_eq_true_eq, decide_eq_true_eq]; omega)
  clear hia hma
  generalize x / 2 ^ m % 2 = d at *
  go_enter Tryd.func88, Tryd.ntmps88
  go_wp2
  go_ret
  exact ⟨ret_b (by rw [← HO.out]), rfl⟩

/-- Its slices lie below n. -/
structure SRdN (n : Nat) (w : World) (s : Sl) (h : Hd) : Prop where
  fw : RdN n .u64 w h.aw s.ws
  fk : RdN n .i64 w h.ak s.ks
  fv : RdN n .i64 w h.av s.vs
theorem SRdN.keep {n : Nat} {w w1 : World} {s : Sl} {h : Hd} (r : SRdN n w s h) (hb : Below n w w1) : SRdN n w1 s h := ⟨r.fw.keep hb, r.fk.keep hb, r.fv.keep hb⟩
theorem SRdN.of {n : Nat} {w : World} {s : Sl} {h : Hd} (r : SRd w s h) (hn : w.heap.size ≤ n) : SRdN n w s h := ⟨RdN.of r.fw hn, RdN.of r.fk hn, RdN.of r.fv hn⟩
theorem RdN.at {n : Nat} {k : IntKind} {w : World} {a : Option Addr} {zs : List Int} {i : Nat} (h : RdN n k w a zs) (hi : i < zs.length) : ∃ b off, a = some ⟨b, off, Option.none⟩ ∧ b < n ∧ w.cell? ⟨b, off + i, Option.none⟩ = some (.int k (zs.getD i 0)) := by
  rcases h with h | ⟨b, off, ha, hlt, hc⟩
  · subst h; simp at hi
  · exact ⟨b, off, ha, hlt, hc i hi⟩

set_option maxRecDepth 100000 in
set_option maxHeartbeats 4000000 in
theorem pairs1_in (m l Bs Bf Bt n0 lo hi f t g q : Nat) (s : Sl) (h : Hd) (hu : U64 s.ws) (o : Ok s g q) (ht : t ≤ s.ks.length) (hft : f ≤ t) (b1 : lo ≤ Bs ∧ Bs < hi) (b2 : lo ≤ Bf ∧ Bf < hi) (b3 : lo ≤ Bt ∧ Bt < hi) (hlo : n0 ≤ lo) (J Jx : List Nat → World → Prop)
    (hJg : ∀ pre W W', J pre W → Below W.heap.size W W' → J pre W')
    (hY : ∀ pre x W, J pre W → pre.length < t - f → YieldAt Fence.wide (m - 1) Tryd.prog l (encS s x) W fun e W' =>
      (e = .returned (.bool true) ∧ J (pre ++ [x]) W' ∧ Keeps n0 lo hi W W') ∨ (e = .returned (.bool false) ∧ Jx (pre ++ [x]) W'))
    (W : World) (hnz : hi ≤ W.heap.size) (hrw : SRdN n0 W s h)
    (hcs : W.cell? ⟨Bs, 0, Option.none⟩ = some (.int .i64 s.seg) ∧ W.cell? ⟨Bs, 1, Option.none⟩ = some (.slice h.aw s.ws.length h.cw) ∧ W.cell? ⟨Bs, 2, Option.none⟩ = some (.slice h.ak s.ks.length h.ck) ∧
      W.cell? ⟨Bs, 3, Option.none⟩ = some (.slice h.av s.vs.length h.cv) ∧ W.cell? ⟨Bs, 4, Option.none⟩ = some (.slice h.ac s.cs.length h.cc) ∧ W.cell? ⟨Bs, 5, Option.none⟩ = some (.int .u64 s.laid))
    (hcf : W.cell? ⟨Bf, 0, Option.none⟩ = some (.int .i64 f)) (hct : W.cell? ⟨Bt, 0, Option.none⟩ = some (.int .i64 t)) (h0 : J [] W) :
    CallsIn Fence.wide m Tryd.prog 87 #[.func (.yield l) #[] #[], .pointer (some ⟨Bf, 0, Option.none⟩), .pointer (some ⟨Bt, 0, Option.none⟩), .pointer (some ⟨Bs, 0, Option.none⟩)] W fun e W' => (∃ v, e = .returned v) ∧
      ((∃ ys, ys = occs s.ws f (t - f) ∧ J ys W') ∨ (∃ pre, pre <+: occs s.ws f (t - f) ∧ Jx pre W')) := by
  have HU := Lib.hid hu
  have HO := Lib.hid o
  have HRW := Lib.hid hrw
  have HCS := Lib.hid hcs
  have HJG := Lib.hid hJg
  have HL := Lib.hid (fun k => occs_length s.ws f k)
  have hn1 := o.n1
  have HWW : Hid (s.ks.length ≤ 64 * s.ws.length ∧ s.vs.length = s.ks.length ∧ s.ws.length ≤ 2000) := Lib.hid (by have := o.w; exact ⟨by omega, o.v, by omega⟩)
  have HY := Lib.hid hY
  clear hu o hrw hcs hJg hY
  refine callsIn_of_wp Tryd.func87 rfl trivial ?_ rfl
  simp only [Tryd.ntmps87, List.size_toArray, List.length_cons, List.length_nil, Nat.reduceAdd, Nat.reduceSub, Array.replicate_succ, Array.replicate_zero, List.push_toArray, List.append_toArray, List.nil_append, List.cons_append]
  gi_wp2
  gi_loopw [5, 6] (fun i _ wr => ∃ k A : Nat, A = f + k ∧ A ≤ t ∧ i = .int .i64 (A : Int) ∧ J (occs s.ws f k) wr ∧ SRdN n0 wr s h ∧ hi ≤ wr.heap.size ∧ (∀ b o, lo ≤ b → b < hi → wr.cell? ⟨b, o, Option.none⟩ = W.cell? ⟨b, o, Option.none⟩)) (fun i _ _ => t - (intOf i).toNat)
  case atStart => exact ⟨0, f, rfl, hft, rfl, h0, HRW.out, hnz, fun _ _ _ _ => rfl⟩
  case round =>
    obtain ⟨k, A, hA, hk, rfl, hJs, hrd, hwz, hsame⟩ := hrel
    have c2 := (hsame Bf 0 b2.1 b2.2).trans hcf
    have c3 := (hsame Bt 0 b3.1 b3.2).trans hct
    have s0 := (hsame Bs 0 b1.1 b1.2).trans HCS.out.1
    have s1 := (hsame Bs 1 b1.1 b1.2).trans HCS.out.2.1
    have s2 := (hsame Bs 2 b1.1 b1.2).trans HCS.out.2.2.1
    have s3 := (hsame Bs 3 b1.1 b1.2).trans HCS.out.2.2.2.1
    have s4 := (hsame Bs 4 b1.1 b1.2).trans HCS.out.2.2.2.2.1
    have s5 := (hsame Bs 5 b1.1 b1.2).trans HCS.out.2.2.2.2.2
    have HS := Lib.hid hsame
    have HRD := Lib.hid hrd
    have HJS := Lib.hid hJs
    have HWZ := Lib.hid hwz
    clear hrd hsame hJs
    have HSUC := Lib.hid (occs_succ s.ws f k)
    rw [← hA] at HSUC
    have HAK := Lib.hid hA
    clear hA
    by_cases hlt : A < t
    · have hlt2 : (A : Int) < (t : Int) := by omega
      obtain ⟨bw, ow, haw, lw, cw0⟩ := RdN.at HRD.out.fw (show (A) / 64 < s.ws.length by have := HWW.out.1; omega)
      obtain ⟨bk, ok, hak, lk, ck0⟩ := RdN.at HRD.out.fk (show A < s.ks.length by omega)
      obtain ⟨bv, ov, hav, lv, cv0⟩ := RdN.at HRD.out.fv (show A < s.vs.length by have := HWW.out.2.1; omega)
      rw [wd_int HU.out] at cw0
      rw [haw] at s1
      rw [hak] at s2
      rw [hav] at s3
      have hx := wd_of HU.out ((A) / 64)
      have HIS := Lib.hid (fun w1 p b1 c1 => is_at bw ow h.cw s.ws.length p (wd s.ws ((A) / 64)) ((A) / 64) ((A) % 64) (A) w1 b1 c1 hx (by have := HWW.out.1; omega) rfl rfl (by omega))
      rw [show (wd s.ws ((A) / 64)).testBit ((A) % 64) = occB s.ws (A) from rfl] at HIS
      have z1 : bw < wr.heap.size := by omega
      have z2 : bk < wr.heap.size := by omega
      have z3 : bv < wr.heap.size := by omega
      have z4 : Bs < wr.heap.size := by omega
      have z5 : Bf < wr.heap.size := by omega
      have z6 : Bt < wr.heap.size := by omega
      have z7 : wr.heap.size ≠ Bs := by omega
      clear hx haw hak hav
      generalize hxx : wd s.ws ((A) / 64) = x at *
      generalize hqq : (A) / 64 = iq at *
      clear hxx
      have hks : A < s.ks.length := by omega
      have hvs : A < s.vs.length := by have := HWW.out.2.1; omega
      have hiq : iq < s.ws.length := by have := HWW.out.1; omega
      cases hoc : occB s.ws (A)
      · rw [hoc] at HIS HSUC
        clear hoc hqq
        gi_wp2
        have HB1 : Hid (Below wr.heap.size wr (wr.alloc (.cells #[.int .i64 s.seg, .slice (some ⟨bw, ow, Option.none⟩) s.ws.length h.cw, .slice (some ⟨bk, ok, Option.none⟩) s.ks.length h.ck, .slice (some ⟨bv, ov, Option.none⟩) s.vs.length h.cv, .slice h.ac s.cs.length h.cc, .int .u64 s.laid] 97))) := Lib.hid ((Below.refl _ _).alloc (Nat.le_refl _) _)
        obtain ⟨-, d1, -, -, -, -⟩ := box6 (w := wr) (Below.refl _ (wr.alloc (.cells #[.int .i64 s.seg, .slice (some ⟨bw, ow, Option.none⟩) s.ws.length h.cw, .slice (some ⟨bk, ok, Option.none⟩) s.ks.length h.ck, .slice (some ⟨bv, ov, Option.none⟩) s.vs.length h.cv, .slice h.ac s.cs.length h.cc, .int .u64 s.laid] 97)))
        have cw1 := (HB1.out.cell (p := ⟨bw, ow + iq, Option.none⟩) z1).trans cw0
        have HBsz := HB1.out.size
        generalize hw1 : wr.alloc (.cells #[.int .i64 s.seg, .slice (some ⟨bw, ow, Option.none⟩) s.ws.length h.cw, .slice (some ⟨bk, ok, Option.none⟩) s.ks.length h.ck, .slice (some ⟨bv, ov, Option.none⟩) s.vs.length h.cv, .slice h.ac s.cs.length h.cc, .int .u64 s.laid] 97) = w1 at *
        have HIW := Lib.hid (HIS.out w1.drew wr.heap.size d1 cw1)
        clear s0 s1 s2 s3 s4 s5 c3 cw0 ck0 cv0
        refine wpIn_region_still_tail 15 mixed' (by kernel_rfl) ?_
        simp only [List.take_succ_cons, List.take_zero, List.drop_succ_cons, List.drop_zero]
        still_step
        still_call (HIW.out.mono fun _ _ h => ⟨h.1, h.2.symm⟩)
        refine wpStill_step (fun K hK => ?_)
        go_simp
        generalize hz : ({ tmps := _, defers := _ } : Act) = zz
        refine hK zz ?_
        clear hK K
        refine still_skips _ _ (by rw [← hz]; kernel_rfl) ?_
        generalize hz2 : putAll _ zz = z2
        refine listIn_skip2 (by rw [← hz2, ← hz]; kernel_rfl) ?_
        generalize hz3 : putAll _ z2 = z3
        simp only [putAll, Act.put, ← hz2, ← hz] at hz3
        subst hz3
        gi_wp2
        go_roundw
        case rel => exact ⟨k + 1, A + 1, by have := HAK.out; omega, by omega, by go_num, by rw [HSUC.out, if_neg (by decide), List.append_nil]; exact HJG.out _ _ _ HJS.out HB1.out.drew, HRD.out.keep (HB1.out.drew.mono (by omega)), Nat.le_trans HWZ.out HB1.out.size, fun b o h1 h2 => ((HB1.out.drew).cell (p := ⟨b, o, Option.none⟩) (by show b < wr.heap.size; have := HWZ.out; omega)).trans (HS.out b o h1 h2)⟩
        case measure => simp [intOf]; omega
      · rw [hoc] at HIS HSUC
        clear hoc hqq
        gi_wp2
        have HB1 : Hid (Below wr.heap.size wr (wr.alloc (.cells #[.int .i64 s.seg, .slice (some ⟨bw, ow, Option.none⟩) s.ws.length h.cw, .slice (some ⟨bk, ok, Option.none⟩) s.ks.length h.ck, .slice (some ⟨bv, ov, Option.none⟩) s.vs.length h.cv, .slice h.ac s.cs.length h.cc, .int .u64 s.laid] 97))) := Lib.hid ((Below.refl _ _).alloc (Nat.le_refl _) _)
        obtain ⟨-, d1, -, -, -, -⟩ := box6 (w := wr) (Below.refl _ (wr.alloc (.cells #[.int .i64 s.seg, .slice (some ⟨bw, ow, Option.none⟩) s.ws.length h.cw, .slice (some ⟨bk, ok, Option.none⟩) s.ks.length h.ck, .slice (some ⟨bv, ov, Option.none⟩) s.vs.length h.cv, .slice h.ac s.cs.length h.cc, .int .u64 s.laid] 97)))
        have cw1 := (HB1.out.cell (p := ⟨bw, ow + iq, Option.none⟩) z1).trans cw0
        have ck1 := (HB1.out.cell (p := ⟨bk, ok + (A), Option.none⟩) z2).trans ck0
        have cv1 := (HB1.out.cell (p := ⟨bv, ov + (A), Option.none⟩) z3).trans cv0
        have t2 := (HB1.out.cell (p := ⟨Bs, 2, Option.none⟩) z4).trans s2
        have t3 := (HB1.out.cell (p := ⟨Bs, 3, Option.none⟩) z4).trans s3
        have HBsz := HB1.out.size
        generalize hw1 : wr.alloc (.cells #[.int .i64 s.seg, .slice (some ⟨bw, ow, Option.none⟩) s.ws.length h.cw, .slice (some ⟨bk, ok, Option.none⟩) s.ks.length h.ck, .slice (some ⟨bv, ov, Option.none⟩) s.vs.length h.cv, .slice h.ac s.cs.length h.cc, .int .u64 s.laid] 97) = w1 at *
        have HIW := Lib.hid (HIS.out w1.drew wr.heap.size d1 cw1)
        clear s0 s1 s2 s3 s4 s5 c3 cw0 ck0 cv0 hw1
        obtain ⟨fn, tmps, assign, body, hy, hR⟩ := HY.out (occs s.ws f k) (A) w1.drew (HJG.out _ _ _ HJS.out HB1.out.drew) (by have := HL.out k; have := HAK.out; omega)
        unfold encS at hy
        have HRR := Lib.hid hR
        clear hR
        generalize hkx : s.ks.getD (A) 0 = kx at *
        generalize hvx : s.vs.getD (A) 0 = vx at *
        clear hkx hvx
        refine wpIn_region_still_tail 15 mixed' (by kernel_rfl) ?_
        simp only [List.take_succ_cons, List.take_zero, List.drop_succ_cons, List.drop_zero]
        still_step
        still_call (HIW.out.mono fun _ _ h => ⟨h.1, h.2.symm⟩)
        iterate 13 still_step
        refine wpStill_nil ?_
        gi_wp2
        refine ⟨fun h => (by cases h), HRR.out.mono ?_⟩
        rintro e W3 (⟨rfl, hJ3, hk3⟩ | ⟨rfl, hJx3⟩)
        · gi_wp2
          go_roundw
          case rel => exact ⟨k + 1, A + 1, by have := HAK.out; omega, by omega, by go_num, by rw [HSUC.out, if_pos trivial]; exact hJ3, HRD.out.keep ((HB1.out.drew.mono (by omega)).trans hk3.below), Nat.le_trans HWZ.out (Nat.le_trans HB1.out.size hk3.below.size), fun b o h1 h2 => ((hk3.cell h1 h2).trans ((HB1.out.drew).cell (p := ⟨b, o, Option.none⟩) (by show b < wr.heap.size; have := HWZ.out; omega))).trans (HS.out b o h1 h2)⟩
          case measure => simp [intOf]; omega
        · gi_wp2
          refine bodyPost_ret (results_none rfl _ _ _) rfl ?_
          exact ⟨⟨_, rfl⟩, .inr ⟨occs s.ws f k ++ [A], by
            have e1 := occs_add s.ws f (k + 1) (t - f - (k + 1))
            rw [show k + 1 + (t - f - (k + 1)) = t - f by have := HAK.out; omega, HSUC.out, if_pos trivial] at e1
            rw [e1]; exact List.prefix_append _ _, hJx3⟩⟩
    · obtain rfl : t = A := by omega
      have HE : Hid (t - f = k) := Lib.hid (by have := HAK.out; omega)
      have hge : ¬ (t : Int) < (t : Int) := by omega
      clear s0 s1 s2 s3 s4 s5
      gi_wp2
      refine ⟨rfl, _, results_none rfl _ _ _, ?_⟩
      exact ⟨⟨_, rfl⟩, .inl (by first | exact HJS.out | (rw [HE.out]; exact HJS.out))⟩
end Go.Proofs.YthkhideonceibaaDoor.Slo

namespace Go.Proofs.YthkhideonceibaaDoor.Slo
open Go.RowKit Go.Shelf Go.Proofs.YthkhideonceibaaDoor Go.Proofs.YthkhideonceibaaDoor.Occ Go.Proofs.YthkhideonceibaaDoor.Frac
attribute [local go_sem] sval Oper.semAt_some

/-- The iterator's value: three boxes. -/
def boxS (w : World) (s : Sl) (h : Hd) (f t : Int) : World :=
  ((w.alloc (.cells #[.int .i64 s.seg, .slice h.aw s.ws.length h.cw, .slice h.ak s.ks.length h.ck, .slice h.av s.vs.length h.cv, .slice h.ac s.cs.length h.cc, .int .u64 s.laid] 27)).alloc (.cells #[.int .i64 f] 3)).alloc (.cells #[.int .i64 t] 3)
theorem boxS_size (w : World) (s : Sl) (h : Hd) (f t : Int) : (boxS w s h f t).heap.size = w.heap.size + 3 := by simp [boxS]
theorem boxS_below (w : World) (s : Sl) (h : Hd) (f t : Int) : Below w.heap.size w (boxS w s h f t) := (((Below.refl _ w).alloc (Nat.le_refl _) _).alloc (by simp) _).alloc (by simp; omega) _
theorem boxS_cells (w : World) (s : Sl) (h : Hd) (f t : Int) :
    ((boxS w s h f t).cell? ⟨w.heap.size, 0, Option.none⟩ = some (.int .i64 s.seg) ∧ (boxS w s h f t).cell? ⟨w.heap.size, 1, Option.none⟩ = some (.slice h.aw s.ws.length h.cw) ∧ (boxS w s h f t).cell? ⟨w.heap.size, 2, Option.none⟩ = some (.slice h.ak s.ks.length h.ck) ∧
      (boxS w s h f t).cell? ⟨w.heap.size, 3, Option.none⟩ = some (.slice h.av s.vs.length h.cv) ∧ (boxS w s h f t).cell? ⟨w.heap.size, 4, Option.none⟩ = some (.slice h.ac s.cs.length h.cc) ∧ (boxS w s h f t).cell? ⟨w.heap.size, 5, Option.none⟩ = some (.int .u64 s.laid)) ∧
    (boxS w s h f t).cell? ⟨w.heap.size + 1, 0, Option.none⟩ = some (.int .i64 f) ∧ (boxS w s h f t).cell? ⟨w.heap.size + 2, 0, Option.none⟩ = some (.int .i64 t) := by
  unfold boxS
  have a1 : Below (w.heap.size + 1) (w.alloc (.cells #[.int .i64 s.seg, .slice h.aw s.ws.length h.cw, .slice h.ak s.ks.length h.ck, .slice h.av s.vs.length h.cv, .slice h.ac s.cs.length h.cc, .int .u64 s.laid] 27)) _ := ((Below.refl _ _).alloc (by simp) (.cells #[.int .i64 f] 3)).alloc (by simp) (.cells #[.int .i64 t] 3)
  have a2 := Boxed.new (w.alloc (.cells #[.int .i64 s.seg, .slice h.aw s.ws.length h.cw, .slice h.ak s.ks.length h.ck, .slice h.av s.vs.length h.cv, .slice h.ac s.cs.length h.cc, .int .u64 s.laid] 27)) 3 (.int .i64 f)
  have a3 := Boxed.new ((w.alloc (.cells #[.int .i64 s.seg, .slice h.aw s.ws.length h.cw, .slice h.ak s.ks.length h.ck, .slice h.av s.vs.length h.cv, .slice h.ac s.cs.length h.cc, .int .u64 s.laid] 27)).alloc (.cells #[.int .i64 f] 3)) 3 (.int .i64 t)
  simp only [World.size_alloc] at a2 a3
  exact ⟨box6 a1, (a2.alloc _).cell, a3.cell⟩
set_option maxRecDepth 100000 in
set_option maxHeartbeats 1000000 in
theorem pairs_any (s : Sl) (h : Hd) (f t : Int) (w : World) :
    Calls Tryd.prog 74 #[sval s h, .int .i64 f, .int .i64 t] w fun e w' => e = .returned (.func (.func 87) #[] #[.pointer (some ⟨w.heap.size + 1, 0, Option.none⟩), .pointer (some ⟨w.heap.size + 2, 0, Option.none⟩), .pointer (some ⟨w.heap.size, 0, Option.none⟩)]) ∧
      boxS w s h f t = w' := by
  go_enter Tryd.func74, Tryd.ntmps74
  go_wp2
  go_ret
  exact ⟨rfl, rfl⟩
/-- The pairs come one behind the other; or a part of them, a round having said 'no more'. -/
theorem pairs_stops (m n0 f t g q : Nat) (s : Sl) (h : Hd) (w : World) (hu : U64 s.ws) (o : Ok s g q) (hr : SRdN n0 w s h) (hn : n0 ≤ w.heap.size) (ht : t ≤ s.ks.length) (hft : f ≤ t) :
    SeqStopsK Fence.wide m Tryd.prog 87 #[.pointer (some ⟨w.heap.size + 1, 0, Option.none⟩), .pointer (some ⟨w.heap.size + 2, 0, Option.none⟩), .pointer (some ⟨w.heap.size, 0, Option.none⟩)] (encS s) (Keeps n0 w.heap.size (w.heap.size + 3)) (fun ys => ys = occs s.ws f (t - f)) (fun pre => pre <+: occs s.ws f (t - f)) (t - f) (boxS w s h f t) := fun l J Jx W hW hJ hJz hY h0 => by
  obtain ⟨cs, cf, ct⟩ := boxS_cells w s h f t
  have hs := boxS_size w s h f t
  have hb := boxS_below w s h f t
  have k := fun o => hW.cell (p := ⟨w.heap.size, o, Option.none⟩) (by show w.heap.size < _; omega)
  exact pairs1_in m l _ _ _ n0 w.heap.size (w.heap.size + 3) f t g q s h hu o ht hft (by omega) (by omega) (by omega) hn J Jx (fun pre A B hA hAB => hJ pre A B Option.none hA (grown0 hAB) (fun r e => by cases e))
    hY W (by have := hW.size; omega) (hr.keep ((hb.mono hn).trans (hW.mono (by omega))))
    ⟨(k 0).trans cs.1, (k 1).trans cs.2.1, (k 2).trans cs.2.2.1, (k 3).trans cs.2.2.2.1, (k 4).trans cs.2.2.2.2.1, (k 5).trans cs.2.2.2.2.2⟩
    ((hW.cell (p := ⟨w.heap.size + 1, 0, Option.none⟩) (by show w.heap.size + 1 < _; omega)).trans cf) ((hW.cell (p := ⟨w.heap.size + 2, 0, Option.none⟩) (by show w.heap.size + 2 < _; omega)).trans ct) h0
end Go.Proofs.YthkhideonceibaaDoor.Slo

namespace Go.Proofs.YthkhideonceibaaDoor.Slo
open Go.RowKit Go.Shelf Go.Proofs.YthkhideonceibaaDoor Go.Proofs.YthkhideonceibaaDoor.Occ Go.Proofs.YthkhideonceibaaDoor.Frac
attribute [local go_sem] sval

def pairAt (s : Sl) (i : Nat) : Int × Int := (s.ks.getD i 0, s.vs.getD i 0)
def prs (s : Sl) (f d : Nat) : List (Int × Int) := (occs s.ws f d).map (pairAt s)
def prsV (s : Sl) (f t : Int) : List (Int × Int) × Int := if askS s (inB s.ks.length f t) = 0 then (prs s f.toNat (t - f).toNat, 0) else ([], askS s (inB s.ks.length f t))
/-- What answers pairs and an error: new memory. -/
def AnsPr (V : List (Int × Int) × Int) (w : World) (e : Ending) (w' : World) : Prop :=
  ∃ v, e = .returned (.tuple #[v, .int .i64 V.2]) ∧ w'.ownsRow w.heap.size 38 2 v V.1.length (pcells V.1) ∧ Below w.heap.size w w'
theorem prs_length (s : Sl) (f d : Nat) : (prs s f d).length = (occs s.ws f d).length := by unfold prs; rw [List.length_map]

set_option maxRecDepth 100000 in
set_option maxHeartbeats 2000000 in
theorem sPairs_any (s : Sl) (h : Hd) (f t : Int) (w : World) (W : s.Wf) (R : SRd w s h) :
    Calls Tryd.prog 56 #[sval s h, .int .i64 f, .int .i64 t] w fun e w' => AnsPr (prsV s f t) w e w' := by
  have HC := Lib.hid (fun w1 (hb : Below w.heap.size w w1) => sPart_any s h f t w1 W (R.mono hb (Nat.le_refl _)))
  have HB : Hid (∀ o, Below w.heap.size w (w.alloc o)) := Lib.hid fun o => (Below.refl _ w).alloc (Nat.le_refl _) _
  by_cases hv : askS s (inB s.ks.length f t) = 0
  · have HV : Hid (prsV s f t = (prs s f.toNat (t - f).toNat, 0)) := Lib.hid (if_pos hv)
    obtain ⟨hok, hin⟩ := askS_ok hv
    obtain ⟨h0, h1, h2⟩ := inB_iff.1 hin
    obtain ⟨f, rfl⟩ := Int.eq_ofNat_of_zero_le h0
    obtain ⟨t, rfl⟩ := Int.eq_ofNat_of_zero_le (show 0 ≤ t by omega)
    rw [Int.toNat_natCast, show ((t : Int) - (f : Int)).toNat = t - f by omega] at HV
    obtain ⟨g, q, o⟩ := okS_iff.1 hok
    have hn1 := o.n1
    have HS := Lib.hid (fun w1 (hb : Below w.heap.size w w1) => pairs_stops 1 w1.heap.size f t g q s h w1 W.u o (SRdN.of (R.mono hb (Nat.le_refl _)) (Nat.le_refl _)) (Nat.le_refl _) (by omega) (by omega))
    have HCL := Lib.hid (fun w1 (hb : Below w.heap.size w w1) => collect_pairs (pairAt s) 87 #[.pointer (some ⟨w1.heap.size + 1, 0, Option.none⟩), .pointer (some ⟨w1.heap.size + 2, 0, Option.none⟩), .pointer (some ⟨w1.heap.size, 0, Option.none⟩)] (enters_of Tryd.func87 (by kernel_rfl) rfl) w1.heap.size w1.heap.size (w1.heap.size + 3) (t - f) _ _ (boxS w1 s h f t) (by rw [boxS_size]; omega) (by rw [boxS_size]; omega) (by omega) (HS.out w1 hb))
    have HPA := Lib.hid (fun w1 => pairs_any s h f t w1)
    rw [hv] at HC
    clear W R hv hok hin h0 h1 h2 o HS hn1
    unfold sval at *
    go_enter Tryd.func56, Tryd.ntmps56
    go_wp2_with fail
    refine (HC.out _ (HB.out _)).mono ?_
    rintro e w1 ⟨rfl, hb⟩
    have HB1 := Lib.hid ((HB.out _).trans (hb.mono (HB.out _).size))
    obtain ⟨c0, c1, c2, c3, c4, c5⟩ := box6 (wr := w1) (by simpa using hb)
    clear hb
    go_wp2_with fail
    refine (HPA.out w1).mono ?_
    rintro e w2 ⟨rfl, rfl⟩
    go_wp2_with fail
    refine (HCL.out w1 HB1.out).mono ?_
    rintro e w3 ⟨v, xs, rfl, rfl, hrow, hb⟩
    have HR := Lib.hid hrow
    have HB3 : Hid (Below w.heap.size w w3) := Lib.hid ((HB1.out.trans ((boxS_below w1 s h f t).mono HB1.out.size)).trans (hb.mono (by rw [boxS_size]; have := HB1.out.size; omega)))
    have HZ : Hid (w.heap.size ≤ (boxS w1 s h f t).heap.size) := Lib.hid (by rw [boxS_size]; have := HB1.out.size; omega)
    clear hrow hb c0 c1 c2 c3 c4 c5
    go_wp2
    go_ret2
    exact ⟨v, by rw [HV.out]; rfl, by rw [HV.out, prs_length]; exact HR.out.mono HZ.out, HB3.out⟩
  · have HV : Hid (prsV s f t = ([], askS s (inB s.ks.length f t))) := Lib.hid (if_neg hv)
    generalize askS s (inB s.ks.length f t) = c at *
    have hne : (c != 0) = true := by rw [bne_iff_ne]; exact hv
    clear W R hv
    unfold sval at *
    go_enter Tryd.func56, Tryd.ntmps56
    go_wp2_with fail
    refine (HC.out _ (HB.out _)).mono ?_
    rintro e w1 ⟨rfl, hb⟩
    have HB1 := Lib.hid ((HB.out _).trans (hb.mono (HB.out _).size))
    clear hb
    go_wp2
    go_ret2
    exact ⟨_, by rw [HV.out]; rfl, by rw [HV.out]; exact World.ownsRow_nil _ _ _ _, HB1.out⟩
end Go.Proofs.YthkhideonceibaaDoor.Slo

namespace Go.Proofs.YthkhideonceibaaDoor.Slo
open Go.RowKit Go.Shelf Go.Proofs.YthkhideonceibaaDoor Go.Proofs.YthkhideonceibaaDoor.Occ Go.Proofs.YthkhideonceibaaDoor.Frac
attribute [local go_sem] sval Oper.semAt_some

def atV (s : Sl) (a : Int) : (Int × Int) × Int :=
  if askS s (atB s.ks.length a) = 0 then (if occB s.ws a.toNat = true then (pairAt s a.toNat, 0) else ((0, 0), 6)) else ((0, 0), askS s (atB s.ks.length a))
/-- What answers a pair and an error. -/
def AnsP1 (V : (Int × Int) × Int) (w : World) (e : Ending) (w' : World) : Prop :=
  e = .returned (.tuple #[.agg #[.int .i64 V.1.1, .int .i64 V.1.2], .int .i64 V.2]) ∧ Below w.heap.size w w'

/-- The two results' cells. -/
structure Two (W : World) (n : Nat) (x y e : Int) : Prop where
  c0 : W.cell? ⟨n + 1, 0, Option.none⟩ = some (.int .i64 x)
  c1 : W.cell? ⟨n + 1, 1, Option.none⟩ = some (.int .i64 y)
  c2 : W.cell? ⟨n + 2, 0, Option.none⟩ = some (.int .i64 e)
  f0 : W.frozen? ⟨n + 1, 0, Option.none⟩ = false
  f1 : W.frozen? ⟨n + 1, 1, Option.none⟩ = false
  f2 : W.frozen? ⟨n + 2, 0, Option.none⟩ = false
theorem Two.kept {A B : World} {row : Option Nat} {n : Nat} {x y e : Int} (h : Two A n x y e) (hg : A.grownBy B row) (hr : ∀ r, row = some r → ∃ o : Obj, A.heap[r]? = some o ∧ o.isCells = false) : Two B n x y e :=
  ⟨cell_kept h.c0 hg hr, cell_kept h.c1 hg hr, cell_kept h.c2 hg hr, (frozen_kept h.c0 hg hr).trans h.f0, (frozen_kept h.c1 hg hr).trans h.f1, (frozen_kept h.c2 hg hr).trans h.f2⟩
theorem Two.below {A B : World} {n : Nat} {x y e : Int} (h : Two A n x y e) {m : Nat} (hb : Below m A B) (hm : n + 2 < m) : Two B n x y e :=
  ⟨(hb.cell (p := ⟨n + 1, 0, Option.none⟩) (by show n + 1 < m; omega)).trans h.c0, (hb.cell (p := ⟨n + 1, 1, Option.none⟩) (by show n + 1 < m; omega)).trans h.c1, (hb.cell (p := ⟨n + 2, 0, Option.none⟩) (by show n + 2 < m; omega)).trans h.c2,
    (hb.frozen (p := ⟨n + 1, 0, Option.none⟩) (by show n + 1 < m; omega)).trans h.f0, (hb.frozen (p := ⟨n + 1, 1, Option.none⟩) (by show n + 1 < m; omega)).trans h.f1, (hb.frozen (p := ⟨n + 2, 0, Option.none⟩) (by show n + 2 < m; omega)).trans h.f2⟩
theorem Two.set {A : World} {n : Nat} {x y e : Int} (h : Two A n x y e) (x' y' e' : Int) : Two (((A.setCell ⟨n + 1, 0, Option.none⟩ (.int .i64 x')).setCell ⟨n + 1, 1, Option.none⟩ (.int .i64 y')).setCell ⟨n + 2, 0, Option.none⟩ (.int .i64 e')) n x' y' e' := by
  have n1 : (⟨n + 1, 0, Option.none⟩ : Addr) ≠ ⟨n + 1, 1, Option.none⟩ := by simp
  have n2 : ∀ j, (⟨n + 2, 0, Option.none⟩ : Addr) ≠ ⟨n + 1, j, Option.none⟩ := fun j => by simp
  have n3 : ∀ j, (⟨n + 1, j, Option.none⟩ : Addr) ≠ ⟨n + 2, 0, Option.none⟩ := fun j => by simp
  refine ⟨?_, ?_, ?_, by simp only [World.frozen?_setCell]; exact h.f0, by simp only [World.frozen?_setCell]; exact h.f1, by simp only [World.frozen?_setCell]; exact h.f2⟩
  · rw [World.cell?_setCell_other _ _ _ _ (n2 0), World.cell?_setCell_other _ _ _ _ n1.symm, World.cell?_setCell_same _ _ _ h.c0]
  · rw [World.cell?_setCell_other _ _ _ _ (n2 1), World.cell?_setCell_same _ _ _ ((World.cell?_setCell_other _ _ _ _ n1).trans h.c1)]
  · rw [World.cell?_setCell_same _ _ _ ((World.cell?_setCell_other _ _ _ _ (n3 1)).trans ((World.cell?_setCell_other _ _ _ _ (n3 0)).trans h.c2))]
/-- A struct of six, a pair, a number: three new blocks. -/
def atW (w : World) (s : Sl) (h : Hd) : World :=
  ((w.alloc (.cells #[.int .i64 s.seg, .slice h.aw s.ws.length h.cw, .slice h.ak s.ks.length h.ck, .slice h.av s.vs.length h.cv, .slice h.ac s.cs.length h.cc, .int .u64 s.laid] 27)).alloc (.cells #[.int .i64 0, .int .i64 0] 38)).alloc (.cells #[.int .i64 0] 31)
theorem atW_below (w : World) (s : Sl) (h : Hd) : Below w.heap.size w (atW w s h) := (((Below.refl _ w).alloc (Nat.le_refl _) _).alloc (by simp) _).alloc (by simp; omega) _
theorem atW_size (w : World) (s : Sl) (h : Hd) : (atW w s h).heap.size = w.heap.size + 3 := by simp [atW]
theorem atW_box (w : World) (s : Sl) (h : Hd) : Below (w.heap.size + 1) (w.alloc (.cells #[.int .i64 s.seg, .slice h.aw s.ws.length h.cw, .slice h.ak s.ks.length h.ck, .slice h.av s.vs.length h.cv, .slice h.ac s.cs.length h.cc, .int .u64 s.laid] 27)) (atW w s h) := ((Below.refl _ _).alloc (by simp) _).alloc (by simp) _
theorem atW_two (w : World) (s : Sl) (h : Hd) : Two (atW w s h) w.heap.size 0 0 0 := by
  unfold atW
  generalize ha : w.alloc (.cells #[.int .i64 s.seg, .slice h.aw s.ws.length h.cw, .slice h.ak s.ks.length h.ck, .slice h.av s.vs.length h.cv, .slice h.ac s.cs.length h.cc, .int .u64 s.laid] 27) = wa
  have sa : wa.heap.size = w.heap.size + 1 := by rw [← ha]; simp
  have r := Res.new wa 0 0 38
  generalize hb : wa.alloc (.cells #[.int .i64 0, .int .i64 0] 38) = wb at *
  have sb : wb.heap.size = w.heap.size + 2 := by rw [← hb]; simp [sa]
  have r2 := r.below ((Below.refl wb.heap.size wb).alloc (Nat.le_refl _) (.cells #[.int .i64 0] 31)) (show wa.heap.size < wb.heap.size by omega)
  have b := Boxed.new wb 31 (.int .i64 0)
  have b0 := b.cell
  have b1 := b.frozen
  rw [sa] at r2
  rw [sb] at b0 b1
  exact ⟨r2.a0, r2.a1, b0, r2.f 0, r2.f 1, b1⟩

end Go.Proofs.YthkhideonceibaaDoor.Slo

namespace Go.Proofs.YthkhideonceibaaDoor.Slo
open Go.RowKit Go.Shelf Go.Proofs.YthkhideonceibaaDoor Go.Proofs.YthkhideonceibaaDoor.Occ Go.Proofs.YthkhideonceibaaDoor.Frac
attribute [local go_sem] Oper.semAt_some

def clearSV (s : Sl) (a : Int) : Sl × Int := if (atV s a).2 = 0 then (takeV s a.toNat, 0) else (noneS, (atV s a).2)
theorem atV_ok {s : Sl} {a : Int} (h : (atV s a).2 = 0) : askS s (atB s.ks.length a) = 0 ∧ occB s.ws a.toNat = true ∧ atV s a = (pairAt s a.toNat, 0) := by
  unfold atV at *
  by_cases hv : askS s (atB s.ks.length a) = 0
  · rw [if_pos hv] at *
    by_cases ho : occB s.ws a.toNat = true
    · rw [if_pos ho] at *; exact ⟨hv, ho, rfl⟩
    · rw [if_neg ho] at h; exact absurd h (by decide)
  · rw [if_neg hv] at h; exact absurd h hv

end Go.Proofs.YthkhideonceibaaDoor.Slo

namespace Go.Proofs.YthkhideonceibaaDoor.Slo
open Go.RowKit Go.Shelf Go.Proofs.YthkhideonceibaaDoor Go.Proofs.YthkhideonceibaaDoor.Occ Go.Proofs.YthkhideonceibaaDoor.Frac
attribute [local go_sem] Oper.semAt_some

theorem is_arr (lo hi p : Nat) (s : Sl) (h : Hd) (g q a : Nat) (w : World) (A : Arr w lo hi p s h) (o : Ok s g q) (hu : U64 s.ws) (ha : a < s.ks.length) :
    Calls Tryd.prog 88 #[.pointer (some ⟨p, 0, Option.none⟩), .int .i64 a] w fun e w' => e = .returned (.bool (occB s.ws a)) ∧ w = w' := by
  have hi64 : a / 64 < s.ws.length := by have := o.w; omega
  have hav : a < s.vs.length := by rw [o.v]; exact ha
  have hj := (seg_of o.g4 o.n ha).1
  have hjc : a / g < s.cs.length := by rw [o.c]; exact hj
  obtain ⟨aw, cw, ak, ck, av, cv, ac, cc⟩ := h
  obtain ⟨gw, gk, gv, gc, ⟨rfl, rfl, rfl, rfl⟩, ⟨c1, -, -, -⟩, -, -, -⟩ := A.open hi64 ha hav hjc
  rw [wd_int hu (a / 64)] at c1
  exact is_any gw cw s.ws.length p (wd s.ws (a / 64)) (a / 64) (a % 64) a w A.b1 c1 (wd_of hu (a / 64)) hi64 rfl rfl (by have := o.n1; omega)

theorem sval_none : sval noneS noneH = .agg #[.int .i64 0, .slice Option.none 0 0, .slice Option.none 0 0, .slice Option.none 0 0, .slice Option.none 0 0, .int .u64 0] := rfl

def moveSV (s : Sl) (a b : Int) : Sl × Int :=
  if (atV s a).2 ≠ 0 then (noneS, (atV s a).2) else if b < 0 ∨ (s.ks.length : Int) ≤ b then (noneS, 2) else if b ≠ a ∧ occB s.ws b.toNat = true then (noneS, 9)
  else (layV (takeV s a.toNat) b.toNat (pairAt s a.toNat).1 (pairAt s a.toNat).2, 0)

end Go.Proofs.YthkhideonceibaaDoor.Slo

namespace Go.Proofs.YthkhideonceibaaDoor.Slo
open Go.RowKit Go.Shelf Go.Proofs.YthkhideonceibaaDoor Go.Proofs.YthkhideonceibaaDoor.Occ Go.Proofs.YthkhideonceibaaDoor.Frac

def prevV (f : Int) (xs : List Int) (k : Nat) : Int := if k = 0 then f - 1 else xs.getD (k - 1) 0
def partB (f t : Int) (xs : List Int) : Bool := (List.range xs.length).all fun k => decide (prevV f xs k < xs.getD k 0) && decide (xs.getD k 0 < t)
theorem partB_iff {f t : Int} {xs : List Int} : partB f t xs = true ↔ ∀ k, k < xs.length → prevV f xs k < xs.getD k 0 ∧ xs.getD k 0 < t := by
  simp [partB]
theorem partB_ge {f t : Int} {xs : List Int} (h : partB f t xs = true) : ∀ k, k < xs.length → f ≤ xs.getD k 0 := by
  intro k
  induction k with
  | zero => intro hk; have := (partB_iff.1 h 0 hk).1; simp [prevV] at this; simp; omega
  | succ k ih =>
    intro hk
    have h1 := (partB_iff.1 h (k + 1) hk).1
    have h2 := ih (by omega)
    simp only [prevV, Nat.add_sub_cancel, if_neg (Nat.succ_ne_zero k)] at h1
    omega
def clrV (s : Sl) (f : Nat) : Nat → Sl
  | 0 => s
  | k + 1 => takeV (clrV s f k) (f + k)
def layL (s : Sl) (xs : List Int) (ps : List (Int × Int)) : Nat → Sl
  | 0 => s
  | k + 1 => layV (layL s xs ps k) (xs.getD k 0).toNat (ps.getD k (0, 0)).1 (ps.getD k (0, 0)).2
def fillV (s : Sl) (f t : Nat) (xs : List Int) (ps : List (Int × Int)) : Sl := layL (clrV s f (t - f)) xs ps xs.length
def fillSV (s : Sl) (f t : Int) (xs : List Int) (ps : List (Int × Int)) : Sl × Int :=
  if askS s (inB s.ks.length f t) ≠ 0 then (noneS, askS s (inB s.ks.length f t)) else if xs.length ≠ ps.length ∨ partB f t xs = false then (noneS, 2) else (fillV s f.toNat t.toNat xs ps, 0)

/-- What stays. -/
structure Is (s : Sl) (g q : Nat) (n : Nat) : Prop where
  o : Ok s g q
  u : U64 s.ws
  l : 0 ≤ s.laid ∧ s.laid < 18446744073709551616
  n : s.ks.length = n
theorem Is.take {s : Sl} {g q n : Nat} (h : Is s g q n) {a : Nat} (ha : a < n) : Is (takeV s a) g q n :=
  ⟨h.o.take h.u (by rw [h.n]; exact ha), take_u h.u a, h.l, (take_len a).trans h.n⟩
theorem Is.lay {s : Sl} {g q n : Nat} (h : Is s g q n) {a : Nat} (ha : a < n) (x y : Int) : Is (layV s a x y) g q n := by
  refine ⟨h.o.lay h.u (by rw [h.n]; exact ha) x y, putV_u64 (take_u h.u a) a true, ?_, ?_⟩
  · show 0 ≤ IntKind.u64.wrap (s.laid + 1) ∧ IntKind.u64.wrap (s.laid + 1) < 18446744073709551616
    rw [IntKind.wrap_u64]; omega
  · exact (List.length_set).trans ((take_len a).trans h.n)
theorem Is.clr {s : Sl} {g q n f : Nat} (h : Is s g q n) : ∀ k, f + k ≤ n → Is (clrV s f k) g q n
  | 0, _ => h
  | k + 1, hk => (h.clr k (by omega)).take (by omega)
theorem Is.layL {s : Sl} {g q n : Nat} (h : Is s g q n) {xs : List Int} {ps : List (Int × Int)} (hx : ∀ k, k < xs.length → 0 ≤ xs.getD k 0 ∧ xs.getD k 0 < n) : ∀ k, k ≤ xs.length → Is (layL s xs ps k) g q n
  | 0, _ => h
  | k + 1, hk => (h.layL hx k (by omega)).lay (by have := hx k (by omega); omega) _ _
end Go.Proofs.YthkhideonceibaaDoor.Slo

namespace Go.Proofs.YthkhideonceibaaDoor.Slo
open Go.RowKit Go.Shelf Go.Proofs.YthkhideonceibaaDoor Go.Proofs.YthkhideonceibaaDoor.Occ Go.Proofs.YthkhideonceibaaDoor.Frac
attribute [local go_sem] Oper.semAt_some

/-- The cells of the result, as they began. -/
structure Box0 (W : World) (b : Nat) : Prop where
  c : W.cell? ⟨b, 0, Option.none⟩ = some (.int .i64 0) ∧ W.cell? ⟨b, 1, Option.none⟩ = some (.slice Option.none 0 0) ∧ W.cell? ⟨b, 2, Option.none⟩ = some (.slice Option.none 0 0) ∧ W.cell? ⟨b, 3, Option.none⟩ = some (.slice Option.none 0 0) ∧ W.cell? ⟨b, 4, Option.none⟩ = some (.slice Option.none 0 0) ∧ W.cell? ⟨b, 5, Option.none⟩ = some (.int .u64 0)
  f : ∀ j, W.frozen? ⟨b, j, Option.none⟩ = false
theorem Box0.below {W W' : World} {b m : Nat} (h : Box0 W b) (hb : Below m W W') (hm : b < m) : Box0 W' b :=
  ⟨⟨(hb.cell (p := ⟨b, 0, Option.none⟩) hm).trans h.c.1, (hb.cell (p := ⟨b, 1, Option.none⟩) hm).trans h.c.2.1, (hb.cell (p := ⟨b, 2, Option.none⟩) hm).trans h.c.2.2.1, (hb.cell (p := ⟨b, 3, Option.none⟩) hm).trans h.c.2.2.2.1, (hb.cell (p := ⟨b, 4, Option.none⟩) hm).trans h.c.2.2.2.2.1, (hb.cell (p := ⟨b, 5, Option.none⟩) hm).trans h.c.2.2.2.2.2⟩, fun j => (hb.frozen (p := ⟨b, j, Option.none⟩) hm).trans (h.f j)⟩

end Go.Proofs.YthkhideonceibaaDoor.Slo

namespace Go.Proofs.YthkhideonceibaaDoor.Mix
open Go Go.RowKit

/-- One 'make([]T, n)': which operation, where its value goes, the slice's type, the element's type and kind, how many, and the operand. -/
structure Mk where
  i : Nat
  d : Tmp
  t : TypeId
  e : TypeId
  k : IntKind
  n : Nat
  x : Operand
def zerosK (k : IntKind) (n : Nat) : List Value := (List.replicate n (0 : Int)).map (Value.int k)
def upd (B : Nat → Option Nat) (i b : Nat) : Nat → Option Nat := fun j => if j = i then some b else B j
/-- What has been made: rows of their own, apart. -/
structure MadeF (M : List Mk) (w W : World) (B : Nat → Option Nat) : Prop where
  below : RowKit.Below w.heap.size w W
  own : ∀ m ∈ M, ∀ b, B m.i = some b → W.ownsRow w.heap.size m.e 1 (.slice (some ⟨b, 0, Option.none⟩) m.n m.n) m.n (zerosK m.k m.n)
  lt : ∀ m ∈ M, ∀ b, B m.i = some b → b < W.heap.size
  apart : ∀ m ∈ M, ∀ m' ∈ M, m.i ≠ m'.i → ∀ b, B m.i = some b → B m'.i ≠ some b
theorem made_list (z : Int) (k : IntKind) (n : Nat) : (madeCells (Value.int k z).cells n).toList = List.replicate n (Value.int k z) := by
  unfold madeCells
  apply List.ext_getElem
  · simp
  · intro i h1 h2
    simp [Value.cells, Nat.mod_one]
theorem made_row (w : World) (e : TypeId) (k : IntKind) (n : Nat) (h : n ≤ maxLen) : (w.alloc (.cells (madeCells #[Value.int k 0] n) e)).ownsRow w.heap.size e 1 (.slice (some ⟨w.heap.size, 0, Option.none⟩) n n) n (zerosK k n) := by
  refine ⟨by simp [zerosK], .inr ⟨w.heap.size, n, _, rfl, Nat.le_refl _, heap_alloc_new w _, Nat.le_refl _, h, by rw [size_madeCells]; simp, ?_⟩⟩
  have : (madeCells #[Value.int k 0] n).toList = List.replicate n (Value.int k 0) := made_list 0 k n
  rw [this, zerosK, List.map_replicate, Nat.mul_one, List.take_of_length_le (by simp)]

/-- In every order just those of 'todo' come up, till 'le' is reached. -/
def mkB (md : Region.Mode) (ops : Array Oper) (le : Array Bool) : Nat → List Nat → Array Bool → Bool
  | 0, _, listed => decide (listed = le)
  | f + 1, todo, listed => !(Region.ready md ops listed).isEmpty && (Region.ready md ops listed).all fun i => todo.contains i && mkB md ops le f (todo.erase i) (listed.setIfInBounds i true)

theorem wpAny_makes {P : Program} {md : Region.Mode} {l : List Oper} {Q : Exit → Act → World → Prop} (M : List Mk) (w : World) (acts : (Nat → Option Nat) → Act) (le : Array Bool) (fuel : Nat)
    (hop : ∀ m ∈ M, ∃ o, l.toArray[m.i]? = some o ∧ o.op = Op.makeSlice m.t m.x m.x ∧ o.dst = some m.d ∧ o.guard = Option.none)
    (hev : ∀ m ∈ M, ∀ B, (acts B).eval m.x = .int .i64 (m.n : Int))
    (hmk : ∀ m ∈ M, ∀ W, (Instr.makeSlice m.t (.int .i64 (m.n : Int)) (.int .i64 (m.n : Int))).run P W = .ok (.slice (some ⟨W.heap.size, 0, Option.none⟩) m.n m.n) (W.alloc (.cells (madeCells #[Value.int m.k 0] m.n) m.e)))
    (hput : ∀ m ∈ M, ∀ B b, (acts B).put (some m.d) (.slice (some ⟨b, 0, Option.none⟩) m.n m.n) = acts (upd B m.i b))
    (hn : ∀ m ∈ M, m.n ≤ maxLen) (hinj : ∀ m ∈ M, ∀ m' ∈ M, m.i = m'.i → m = m')
    (tail : ∀ W B, MadeF M w W B → (∀ m ∈ M, B m.i ≠ Option.none) → wpAny P md l.toArray Q fuel le (acts B) W) :
    ∀ (f : Nat) (todo : List Nat) (listed : Array Bool) (W : World) (B : Nat → Option Nat), mkB md l.toArray le f todo listed = true → todo.length = f → todo.Nodup → (∀ i ∈ todo, ∃ m ∈ M, m.i = i) → (∀ m ∈ M, m.i ∈ todo ↔ B m.i = Option.none) → MadeF M w W B →
      wpAny P md l.toArray Q (fuel + f) listed (acts B) W
  | 0, todo, listed, W, B, hB, hl, _, _, hBn, hF => by
    have e : listed = le := of_decide_eq_true hB
    subst e
    refine tail W B hF fun m hm h => ?_
    have := (hBn m hm).2 h
    rw [List.eq_nil_of_length_eq_zero hl] at this
    cases this
  | f + 1, todo, listed, W, B, hB, hl, hnd, hM, hBn, hF => by
    simp only [mkB, Bool.and_eq_true, Bool.not_eq_true', List.isEmpty_eq_false_iff] at hB
    show wpAny P md l.toArray Q ((fuel + f) + 1) listed (acts B) W
    refine ⟨fun h => absurd h hB.1, fun i hi => ?_⟩
    have h2 := List.all_eq_true.1 hB.2 i hi
    simp only [Bool.and_eq_true] at h2
    have hit : i ∈ todo := by simpa using h2.1
    obtain ⟨m, hm, rfl⟩ := hM i hit
    obtain ⟨o, ho, hop1, hd, hg⟩ := hop m hm
    unfold wpOp
    simp only [ho]
    rw [if_pos (by simp [Region.wanted, hg])]
    left
    unfold Oper.wp
    simp [execOp, hop1, hev m hm B, hmk m hm W, Result.andThen, Oper.upon_value]
    rw [hd, hput m hm B]
    have hb0 : RowKit.Below W.heap.size W (W.alloc (.cells (madeCells #[Value.int m.k 0] m.n) m.e)) := (RowKit.Below.refl _ W).alloc (Nat.le_refl _) _
    have hz := hF.below.size
    refine wpAny_makes M w acts le fuel hop hev hmk hput hn hinj tail f (todo.erase m.i) _ _ (upd B m.i W.heap.size) h2.2 (by rw [List.length_erase_of_mem hit, hl]; rfl) (hnd.erase _) (fun j hj => hM j (List.mem_of_mem_erase hj)) ?_ ?_
    · intro m' hm'
      rw [hnd.mem_erase_iff]
      unfold upd
      by_cases h : m'.i = m.i
      · rw [if_pos h]; simp [h]
      · rw [if_neg h]; simp [h, hBn m' hm']
    · refine ⟨hF.below.trans (hb0.mono hz), fun m' hm' b hb => ?_, fun m' hm' b hb => ?_, fun m1 hm1 m2 hm2 hne b hb => ?_⟩
      · unfold upd at hb
        by_cases h : m'.i = m.i
        · rw [if_pos h] at hb
          cases hb
          rw [hinj m' hm' m hm h]
          exact World.ownsRow.mono (made_row W m.e m.k m.n (hn m hm)) hz
        · rw [if_neg h] at hb
          exact owns_below (hF.own m' hm' b hb) hb0
      · unfold upd at hb
        by_cases h : m'.i = m.i
        · rw [if_pos h] at hb; cases hb; simp
        · rw [if_neg h] at hb
          have := hF.lt m' hm' b hb
          simp; omega
      · unfold upd at hb ⊢
        by_cases h : m1.i = m.i
        · rw [if_pos h] at hb
          cases hb
          rw [if_neg (fun e => hne (h.trans e.symm))]
          intro h3; have := hF.lt m2 hm2 _ h3; omega
        · rw [if_neg h] at hb
          by_cases h' : m2.i = m.i
          · rw [if_pos h']
            intro h3; cases h3
            have := hF.lt m1 hm1 _ hb; omega
          · rw [if_neg h']; exact hF.apart m1 hm1 m2 hm2 hne b hb
end Go.Proofs.YthkhideonceibaaDoor.Mix
