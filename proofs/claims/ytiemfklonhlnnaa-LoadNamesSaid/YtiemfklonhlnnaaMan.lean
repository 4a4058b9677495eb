/- A range over an iterator that never ends by itself: the body says, in time, that it wants no more. All windows that have a slot: the iterator, and the list. All windows that have a slot: Path. Lists of windows: the document's Path; Row. Lists of windows: Row. -/
import Derived.Test.YtiemfklonhlnnaaMam
import Derived.Stop.RegionWithIn
set_option linter.unusedSimpArgs false
set_option linter.unusedVariables false
namespace Go.Proofs.Ytiemfklonhlnnaa
open Go.RowKit

/-- An iterator that goes on until a round says 'no more'; a caller's invariant that holds of fewer than N rounds alone. -/
def SeqTill {α : Type} (m : Nat) (P : Program) (g : Nat) (lb : Array Value) (encs : α → Array Value) (f : Nat → α) (Kp : World → World → Prop) (Sp : List α → Prop) (N : Nat) (w : World) : Prop :=
  ∀ (l : Nat) (J Jx : List α → World → Prop) (W : World), Below w.heap.size w W → AbidesFrom W.heap.size J → (∀ pre W1, J pre W1 → pre.length < N) →
    (∀ pre W1, J pre W1 → YieldAt Fence.wide (m - 1) P l (encs (f pre.length)) W1 fun e W' => (e = .returned (.bool true) ∧ J (pre ++ [f pre.length]) W' ∧ Kp W1 W') ∨ (e = .returned (.bool false) ∧ Jx (pre ++ [f pre.length]) W')) →
    J [] W → CallsIn Fence.wide m P g (#[.func (.yield l) #[] #[]] ++ lb) W fun e W' => (∃ v, e = .returned v) ∧ ∃ pre, Sp pre ∧ Jx pre W'

section
variable {m : Nat} {P : Program}

/-- What the loop's record says. -/
def recOf (fn : FuncId) (T : Array Value) (ps : Array Tmp) (assign body : Code) (D : Nat) (st : LoopState) (pe : Option Code) : Loop := { state := st, pending := pe, fn, tmps := T, params := ps, assign, body, defers := D }

/-- The loop's record and the block of the rounds' deferred calls lie so. -/
structure Marks (W : World) (l D : Nat) (r : Loop) : Prop where
  lrec : W.heap[l]? = some (.loop r)
  dfr : W.heap[D]? = some (.deferred (some []))
theorem Marks.put {W : World} {l D : Nat} {r r' : Loop} (h : Marks W l D r) (hne : D ≠ l) : Marks (W.putObj l (.loop r')) l D r' :=
  ⟨World.putObj_heap_same (Array.getElem?_eq_some_iff.1 h.lrec).1, (World.putObj_heap_other hne).trans h.dfr⟩
theorem Marks.kept {W W' : World} {l D B : Nat} {r : Loop} (h : Marks W l D r) (hk : KeepsFrom B W W') (hl : B ≤ l) (hD : B ≤ D) : Marks W' l D r := ⟨hk.same _ _ hl h.lrec rfl, hk.same _ _ hD h.dfr rfl⟩
theorem Marks.walk {W W' : World} {l D : Nat} {r : Loop} {row : Option Nat} (h : Marks W l D r) (hg : W.grownBy W' row) (hr : ∀ i, row = some i → ∃ o : Obj, W.heap[i]? = some o ∧ o.isWalk = true) : Marks W' l D r :=
  ⟨(grownBy_keeps hg hr h.lrec rfl).trans h.lrec, (grownBy_keeps hg hr h.dfr rfl).trans h.dfr⟩

theorem rangeFunc_till {α : Type} {g : Operand} {ps : Array Tmp} {assign body : Code} {Q : Exit → Act → World → Prop} {a : Act} {w : World}
    {gf : Nat} {lb : Array Value} (hg : a.eval g = .func (.func gf) #[] lb) (eg : ∀ args w, (callFunc gf args).run P w = .ok (.enter gf args) w)
    {encs : α → Array Value} {f : Nat → α} {Kp : World → World → Prop} {Sp : List α → Prop} {N : Nat} (hseq : SeqTill (m - 1) P gf lb encs f Kp Sp N w)
    (hKt : ∀ {A B C : World}, Kp A B → Kp B C → Kp A C) (hKb : ∀ (W : World) (l : Nat) (o o' : Obj), w.heap.size ≤ l → W.heap[l]? = some o → o.isCells = false → o.isWalk = false → Kp W (W.putObj l o')) (hps : ∀ x, (encs x).size = ps.size)
    (I : List α → World → Prop) (Ix : Code → List α → World → Prop) (hI : OwnFrom w.heap.size I) (hIx : ∀ c, OwnFrom w.heap.size (Ix c)) (hN : ∀ pre W, I pre W → pre.length < N) (h0 : I [] w)
    (Ax : α → Act → World → Prop) (hAx : ∀ x a', OwnFrom w.heap.size (fun (_ : Unit) W => Ax x a' W))
    (hassign : ∀ (l : Nat) (pre : List α) (x : α) (W : World) (K : Act → World → Prop), x = f pre.length → I pre W → (∀ a' W', KeepsFrom w.heap.size W W' → Kp W W' → I pre W' → Ax x a' W' → K a' W') →
      assign.wpIn (Fence.wide.inRound l) (m - 1 - 1) P (Exit.then K (fun _ _ _ => False)) { tmps := (ps.zip (encs x)).foldl (fun t (p, v) => t.setIfInBounds p v) a.tmps, defers := [] } W)
    (hbody : ∀ (l : Nat) (pre : List α) (x : α) (a' : Act) (W : World), x = f pre.length → I pre W → Ax x a' W → body.wpIn (Fence.wide.inRound l) (m - 1 - 1) P (ownPostG w.heap.size Kp I Ix (pre ++ [x]) W) a' W)
    (hstop : ∀ (D : Nat) (c : Code) (pre : List α) (W : World), w.heap.size ≤ D → Sp pre → Ix c pre W → W.heap[D]? = some (.deferred (some [])) → c.wpIn Fence.wide m P Q { a with defers := { target := .collected D, args := #[] } :: a.defers } W) :
    (Code.rangeFunc g ps assign body).wpIn Fence.wide m P Q a w := by
  refine wpIn_rangeFunc ?_
  intro fn hfn
  have hL : Marks ((w.alloc (.deferred (some []))).alloc (.loop (recOf fn a.tmps ps assign body w.heap.size .ready Option.none))) (w.heap.size + 1) w.heap.size (recOf fn a.tmps ps assign body w.heap.size .ready Option.none) :=
    ⟨by have := World.alloc_heap_new (w.alloc (.deferred (some []))) (.loop (recOf fn a.tmps ps assign body w.heap.size .ready Option.none)); rwa [World.size_alloc] at this,
     (Below.heap_alloc _ _ _ (by simp)).trans (World.alloc_heap_new w _)⟩
  have hB : Below w.heap.size w ((w.alloc (.deferred (some []))).alloc (.loop (recOf fn a.tmps ps assign body w.heap.size .ready Option.none))) := ((Below.refl _ w).alloc (Nat.le_refl _) _).alloc (by simp) _
  have hI1 := hI.alloc (.loop (recOf fn a.tmps ps assign body w.heap.size .ready Option.none)) (hI.alloc (.deferred (some [])) h0)
  have henter := run_enterLoop_outer (P := P) (w := w) fn a.tmps ps assign body
  obtain ⟨W1, hW1⟩ : ∃ W1, (w.alloc (.deferred (some []))).alloc (.loop (recOf fn a.tmps ps assign body w.heap.size .ready Option.none)) = W1 := ⟨_, rfl⟩
  rw [hW1] at hL hB hI1
  have hz : w.heap.size + 2 = W1.heap.size := by rw [← hW1]; simp
  refine ⟨w.heap.size + 1, [{ target := .collected w.heap.size, args := #[] }], W1, { target := .fn (.func gf) lb, args := #[.func (.yield (w.heap.size + 1)) #[] #[]] }, W1, gf, #[.func (.yield (w.heap.size + 1)) #[] #[]] ++ lb, W1, ?_, ?_, fun _ _ => trivial, ?_, fun h => (by cases h), ?_⟩
  · rw [← hW1]; exact henter
  · simp only [resolve, hg]
    simp [go_sem]
  · simp [invoke, go_sem, eg]
  refine (hseq (w.heap.size + 1) (fun pre W => I pre W ∧ Marks W (w.heap.size + 1) w.heap.size (recOf fn a.tmps ps assign body w.heap.size .ready Option.none))
    (fun pre W => ∃ c, Ix c pre W ∧ Marks W (w.heap.size + 1) w.heap.size (recOf fn a.tmps ps assign body w.heap.size .done (some c))) W1 hB ?_ (fun pre W h => hN pre W h.1) ?_ ⟨hI1, hL⟩).mono ?_
  · intro s A B row hs hg' hr
    exact ⟨hI s A B row hs.1 hg' (fun r e => by obtain ⟨h1, o, ho, hw⟩ := hr r e; exact ⟨by omega, o, ho, Obj.not_cells_of_walk hw⟩), hs.2.walk hg' (fun r e => (hr r e).2)⟩
  · rintro pre W ⟨hi, hm⟩
    obtain ⟨x, hx⟩ : ∃ x, x = f pre.length := ⟨_, rfl⟩
    rw [← hx]
    have hy := run_yield (P := P) (args := encs x) hm.lrec (hps x)
    refine ⟨fn, _, assign, body, hy, roundIn_of_wpIn hfn (hassign _ pre x W _ hx hi (fun a' W' hk0 hkp0 hi0 hax => ?_))⟩
    have hm := hm.kept hk0 (by omega) (Nat.le_refl _)
    refine ⟨_, run_beginRound hm.lrec rfl, ?_⟩
    have hm2 := hm.put (r' := recOf fn a.tmps ps assign body w.heap.size .busy Option.none) (by omega)
    have hi2 := hI.putObj (.loop (recOf fn a.tmps ps assign body w.heap.size .busy Option.none)) hi0 (by omega) hm.lrec rfl
    have hax2 := (hAx x a').putObj (s := ()) (.loop (recOf fn a.tmps ps assign body w.heap.size .busy Option.none)) hax (by omega) hm.lrec rfl
    have hk1 := hKt hkp0 (hKb W' (w.heap.size + 1) _ (.loop (recOf fn a.tmps ps assign body w.heap.size .busy Option.none)) (by omega) hm.lrec rfl rfl)
    refine wpIn_mono (hbody _ pre x _ _ hx hi2 hax2) ?_
    have fin : ∀ (jump : Option Code) (W3 : World), KeepsFrom w.heap.size (W'.putObj (w.heap.size + 1) (.loop (recOf fn a.tmps ps assign body w.heap.size .busy Option.none))) W3 → ∃ W4,
        (Instr.endRound (w.heap.size + 1) jump).run P W3 = .ok (.bool jump.isNone) W4 ∧ W4 = W3.putObj (w.heap.size + 1) (.loop (recOf fn a.tmps ps assign body w.heap.size (if jump.isNone then .ready else .done) jump)) ∧
        W3.heap[w.heap.size + 1]? = some (.loop (recOf fn a.tmps ps assign body w.heap.size .busy Option.none)) ∧ Marks W4 (w.heap.size + 1) w.heap.size (recOf fn a.tmps ps assign body w.heap.size (if jump.isNone then .ready else .done) jump) := fun jump W3 hk => by
      have h3 := hm2.kept hk (by omega) (Nat.le_refl _)
      exact ⟨_, run_endRound (P := P) jump h3.lrec, rfl, h3.lrec, h3.put (by omega)⟩
    have leave : ∀ (c : Code) (W3 : World), KeepsFrom w.heap.size (W'.putObj (w.heap.size + 1) (.loop (recOf fn a.tmps ps assign body w.heap.size .busy Option.none))) W3 → Ix c (pre ++ [x]) W3 →
        ∃ W4, (Instr.endRound (w.heap.size + 1) (some c)).run P W3 = .ok (.bool false) W4 ∧ Ix c (pre ++ [x]) W4 ∧ Marks W4 (w.heap.size + 1) w.heap.size (recOf fn a.tmps ps assign body w.heap.size .done (some c)) := fun c W3 hk hx => by
      obtain ⟨W4, h1, rfl, h2, h3⟩ := fin (some c) W3 hk
      exact ⟨_, h1, (hIx c).putObj _ hx (by omega) h2 rfl, h3⟩
    intro e a3 W3 hp
    cases e with
    | normal =>
      obtain ⟨W4, h1, rfl, h2, h3⟩ := fin Option.none W3 hp.1
      exact ⟨_, _, h1, .inl ⟨rfl, ⟨hI.putObj _ hp.2.2 (by omega) h2 rfl, h3⟩, hKt (hKt hk1 hp.2.1) (hKb _ _ _ _ (by omega) h2 rfl rfl)⟩⟩
    | ret =>
      obtain ⟨W4, h1, h2, h3⟩ := leave .ret W3 hp.1 hp.2
      exact ⟨_, _, h1, .inr ⟨rfl, .ret, h2, h3⟩⟩
    | exit id =>
      obtain ⟨W4, h1, h2, h3⟩ := leave (.exit id) W3 hp.1 hp.2
      exact ⟨_, _, h1, .inr ⟨rfl, .exit id, h2, h3⟩⟩
    | goto t =>
      obtain ⟨W4, h1, h2, h3⟩ := leave (.goto t) W3 hp.1 hp.2
      exact ⟨_, _, h1, .inr ⟨rfl, .goto t, h2, h3⟩⟩
    | panic ch => exact hp.elim
    | outgrown => exact hp.elim
  · rintro e W2 ⟨⟨v, rfl⟩, pre, hSp, c, hi, hm⟩
    have hend := run_endLoop (P := P) hm.lrec (by simp [recOf])
    refine ⟨some c, _, hend, ?_⟩
    exact hstop _ c pre _ (Nat.le_refl _) hSp ((hIx c).putObj _ hi (by omega) hm.lrec rfl) ((World.putObj_heap_other (by omega)).trans hm.dfr)

/-- The same, the loop's frame being read off the goal; a loop variable lies in a box. -/
theorem rangeFunc_tillB {α : Type} {g : Operand} {ps : Array Tmp} {assign body : Code} {Q : Exit → Act → World → Prop} {a : Act} {w : World}
    (qs : α → Nat → List (Tmp × Value)) (Bp : α → Nat → World → Prop) {gf : Nat} {lb : Array Value} (hg : a.eval g = .func (.func gf) #[] lb) (eg : ∀ args w, (callFunc gf args).run P w = .ok (.enter gf args) w)
    {encs : α → Array Value} {f : Nat → α} {Kp : World → World → Prop} {Sp : List α → Prop} {N : Nat} (hseq : SeqTill (m - 1) P gf lb encs f Kp Sp N w)
    (hKt : ∀ {A B C : World}, Kp A B → Kp B C → Kp A C) (hKb : ∀ (W : World) (l : Nat) (o o' : Obj), w.heap.size ≤ l → W.heap[l]? = some o → o.isCells = false → o.isWalk = false → Kp W (W.putObj l o')) (hps : ∀ x, (encs x).size = ps.size)
    (I : List α → World → Prop) (Ix : Code → List α → World → Prop) (hI : OwnFrom w.heap.size I) (hIx : ∀ c, OwnFrom w.heap.size (Ix c)) (hN : ∀ pre W, I pre W → pre.length < N) (h0 : I [] w)
    (hBp : ∀ x Bx, OwnFrom w.heap.size (fun (_ : Unit) W => Bp x Bx W))
    (hassign : ∀ (l : Nat) (pre : List α) (x : α) (W : World) (K : Act → World → Prop), x = f pre.length → I pre W → (∀ Bx W', KeepsFrom w.heap.size W W' → Kp W W' → I pre W' → Bp x Bx W' → K { tmps := (qs x Bx).foldl (fun t pv => t.setIfInBounds pv.1 pv.2) a.tmps, defers := [] } W') →
      assign.wpIn (Fence.wide.inRound l) (m - 1 - 1) P (Exit.then K (fun _ _ _ => False)) { tmps := (ps.zip (encs x)).foldl (fun t (p, v) => t.setIfInBounds p v) a.tmps, defers := [] } W)
    (hbody : ∀ (l : Nat) (pre : List α) (x : α) (Bx : Nat) (W : World), x = f pre.length → I pre W → Bp x Bx W → body.wpIn (Fence.wide.inRound l) (m - 1 - 1) P (ownPostG w.heap.size Kp I Ix (pre ++ [x]) W) { tmps := (qs x Bx).foldl (fun t pv => t.setIfInBounds pv.1 pv.2) a.tmps, defers := [] } W)
    (hstop : ∀ (D : Nat) (c : Code) (pre : List α) (W : World), w.heap.size ≤ D → Sp pre → Ix c pre W → W.heap[D]? = some (.deferred (some [])) → c.wpIn Fence.wide m P Q { a with defers := { target := .collected D, args := #[] } :: a.defers } W) :
    (Code.rangeFunc g ps assign body).wpIn Fence.wide m P Q a w :=
  rangeFunc_till hg eg hseq hKt hKb hps I Ix hI hIx hN h0
    (fun x a' W => ∃ Bx, Bp x Bx W ∧ a' = { tmps := (qs x Bx).foldl (fun t pv => t.setIfInBounds pv.1 pv.2) a.tmps, defers := [] })
    (fun x a' s A B row hs hg' hr => by obtain ⟨Bx, hb, e⟩ := hs; exact ⟨Bx, hBp x Bx () A B row hb hg' hr, e⟩)
    (fun l pre x W K hx hi hK => hassign l pre x W K hx hi (fun Bx W' h1 h2 h3 h4 => hK _ W' h1 h2 h3 ⟨Bx, h4, rfl⟩))
    (fun l pre x a' W hx hi hax => by obtain ⟨Bx, hb, rfl⟩ := hax; exact hbody l pre x Bx W hx hi hb) hstop
end
end Go.Proofs.Ytiemfklonhlnnaa

namespace Go.Proofs.Ytiemfklonhlnnaa.Win
open Go.RowKit Go.Shelf Go.Proofs.Ytiemfklonhlnnaa Go.Proofs.Ytiemfklonhlnnaa.Frac
attribute [local go_sem] Oper.semAt_some

/-- The window of a height around a slot. -/
def winP (a s h : Nat) : Int × Int := (((lowW (a + h) s : Nat) : Int), ((lowW (a + h) s + 2 ^ (a + h) : Nat) : Int))
def winH (a s h : Nat) : Int × Int × Int := ((h : Int), winP a s h)
def encW (x : Int × Int × Int) : Array Value := #[.int .i64 x.1, .agg #[.int .i64 x.2.1, .int .i64 x.2.2]]

theorem bool_of {e : Ending} {A B : Prop} (h : (e = .returned (.bool true) ∧ A) ∨ (e = .returned (.bool false) ∧ B)) : ∃ b : Bool, e = .returned (.bool b) ∧ ((b = true ∧ A) ∨ (b = false ∧ B)) := by
  rcases h with ⟨h, h2⟩ | ⟨h, h2⟩
  · exact ⟨_, h, .inl ⟨rfl, h2⟩⟩
  · exact ⟨_, h, .inr ⟨rfl, h2⟩⟩

/-- The iterator's value: two boxes. -/
def boxW (w : World) (g s : Int) : World := (w.alloc (.cells #[.int .i64 g] 3)).alloc (.cells #[.int .i64 s] 3)
theorem boxW_size (w : World) (g s : Int) : (boxW w g s).heap.size = w.heap.size + 2 := by simp [boxW]
theorem boxW_below (w : World) (g s : Int) : Below w.heap.size w (boxW w g s) := ((Below.refl _ w).alloc (Nat.le_refl _) _).alloc (by simp) _
theorem boxW_cells (w : World) (g s : Int) : (boxW w g s).cell? ⟨w.heap.size, 0, Option.none⟩ = some (.int .i64 g) ∧ (boxW w g s).cell? ⟨w.heap.size + 1, 0, Option.none⟩ = some (.int .i64 s) := by
  have a1 := Boxed.new w 3 (.int .i64 g)
  have a2 := Boxed.new (w.alloc (.cells #[.int .i64 g] 3)) 3 (.int .i64 s)
  simp only [World.size_alloc] at a2
  exact ⟨(a1.alloc _).cell, a2.cell⟩
end Go.Proofs.Ytiemfklonhlnnaa.Win

namespace Go.Proofs.Ytiemfklonhlnnaa.Win
open Go.RowKit Go.Shelf Go.Proofs.Ytiemfklonhlnnaa Go.Proofs.Ytiemfklonhlnnaa.Frac
attribute [local go_sem] Oper.semAt_some

def AnsP (V : List (Int × Int) × Int) (w : World) (e : Ending) (w' : World) : Prop :=
  ∃ v, e = .returned (.tuple #[v, .int .i64 V.2]) ∧ w'.ownsRow w.heap.size 69 2 v V.1.length (pcells V.1) ∧ Below w.heap.size w w'
theorem AnsP.nil {V : List (Int × Int) × Int} {w w' : World} {c : Int} (h : V = ([], c)) (hb : Below w.heap.size w w') : AnsP V w (.returned (.tuple #[.slice Option.none 0 0, .int .i64 c])) w' := by
  subst h
  exact ⟨_, rfl, World.ownsRow_nil _ _ _ _, hb⟩
theorem AnsP.some {V : List (Int × Int) × Int} {w w' : World} {zs : List (Int × Int)} {c : Int} {v : Value} {n : Nat} (h : V = (zs, c)) (hn : zs.length = n) (hv : w'.ownsRow w.heap.size 69 2 v n (pcells zs)) (hb : Below w.heap.size w w') : AnsP V w (.returned (.tuple #[v, .int .i64 c])) w' := by
  subst h; subst hn
  exact ⟨_, rfl, hv, hb⟩
def pathL (a c s : Nat) : List (Int × Int) := upto (winP a s) (c + 1)
def pathV (seg size s : Int) : List (Int × Int) × Int := if okB seg size = true ∧ inR size s = true then (pathL seg.toNat.log2 (highN seg size) s.toNat, 0) else ([], 2)

theorem asked_oneB (seg size s : Int) (w : World) (B : Nat) (hB : w.heap.size = B) :
    Calls Try.prog 47 #[.int .i64 seg, .int .i64 size, .slice (some ⟨B, 0, Option.none⟩) 1 1] (w.alloc (.cells #[.int .i64 s] 3)) fun e w' => e = .returned (.tuple #[.int .i64 (askedV seg size [s]).1, .int .i64 (askedV seg size [s]).2]) ∧ w.alloc (.cells #[.int .i64 s] 3) = w' := by
  subst hB; exact asked_one seg size s w

theorem boxed_kept {A B : World} {b : Nat} {t : TypeId} {v : Value} {row : Option Nat} (h : Boxed A b t v) (hg : A.grownBy B row) (hr : ∀ r, row = some r → ∃ o : Obj, A.heap[r]? = some o ∧ o.isCells = false) : Boxed B b t v :=
  h.kept hg (fun e => by
    obtain ⟨o, ho, hc⟩ := hr b e.symm
    rw [show A.heap[b]? = _ from h] at ho; cases ho; cases hc)
/-- Between two rounds: what has been collected; the boxes of the loop, and of the iterator. -/
structure PathC (n0 B2 m3 a s c : Nat) (pa : Int) (k : Nat) (W : World) : Prop where
  row : ∃ v, Boxed W n0 66 v ∧ W.ownsRow n0 69 2 v k (pcells (upto (winP a s) k)) ∧ True
  high : Boxed W (n0 + 1 + 1) 3 (.int .i64 c)
  b1 : Boxed W B2 3 (.int .i64 pa)
  b2 : Boxed W (B2 + 1) 3 (.int .i64 s)
  size : m3 ≤ W.heap.size
theorem PathC.kept {n0 B2 m3 a s c : Nat} {pa : Int} {k : Nat} {A B : World} {row : Option Nat} (h : PathC n0 B2 m3 a s c pa k A) (hg : A.grownBy B row) (hr : ∀ r, row = some r → ∃ o : Obj, A.heap[r]? = some o ∧ o.isCells = false) : PathC n0 B2 m3 a s c pa k B :=
  ⟨holdsRow_own n0 n0 66 69 2 (fun k : Nat => k) (fun k => pcells (upto (winP a s) k)) (fun _ _ => True) k A B row h.row hg hr, boxed_kept h.high hg hr, boxed_kept h.b1 hg hr, boxed_kept h.b2 hg hr, Nat.le_trans h.size hg.size⟩
/-- One window more. -/
theorem PathC.more {n0 B2 m3 a s c : Nat} {pa : Int} {k : Nat} {A w1 : World} {v v' : Value} {tmp : Obj} (h : PathC n0 B2 m3 a s c pa k A) (hv : Boxed A n0 66 v) (hrow : A.ownsRow n0 69 2 v k (pcells (upto (winP a s) k))) (hn : n0 ≤ A.heap.size) (hB : n0 < B2)
    (hown : w1.ownsRow n0 69 2 v' (k + 1) (pcells (upto (winP a s) (k + 1)))) (hgrow : (A.alloc tmp).grownBy w1 v.ownBlock) :
    PathC n0 B2 m3 a s c pa (k + 1) (w1.setCell ⟨n0, 0, Option.none⟩ v') ∧ KeepsOthers A (w1.setCell ⟨n0, 0, Option.none⟩ v') ∧ Below n0 A (w1.setCell ⟨n0, 0, Option.none⟩ v') ∧ Keeps n0 B2 (B2 + 2) A (w1.setCell ⟨n0, 0, Option.none⟩ v') := by
  obtain ⟨hv1, hv2, hr2, hk2, hb2⟩ := hv.appended (by decide) hrow hn (Nat.le_refl _) hown hgrow
  have far : ∀ {b : Nat} {u : Value}, Boxed A b 3 u → b ≠ n0 → Boxed (w1.setCell ⟨n0, 0, Option.none⟩ v') b 3 u := fun {b u} hb hne =>
    ((hb.alloc tmp).kept hgrow (hb.not_row (by decide) hrow)).kept (grownBy_setCell' w1 n0 v') (by simpa using hne)
  have f1 := far h.b1 (by omega)
  have f2 := far h.b2 (by omega)
  refine ⟨⟨⟨v', hv2, hr2, trivial⟩, far h.high (by omega), f1, f2, Nat.le_trans h.size hb2.size⟩, hk2, hb2, hb2, fun i h1 h2 => ?_⟩
  rcases (show i = B2 ∨ i = B2 + 1 by omega) with rfl | rfl
  · exact f1.trans h.b1.symm
  · exact f2.trans h.b2.symm

end Go.Proofs.Ytiemfklonhlnnaa.Win

namespace Go.Proofs.Ytiemfklonhlnnaa.Win
open Go.RowKit Go.Shelf Go.Proofs.Ytiemfklonhlnnaa Go.Proofs.Ytiemfklonhlnnaa.Frac

theorem pcells_two (x y : Int) : pcells [(x, y)] = [.int .i64 x, .int .i64 y] := rfl

/-- Both, at whatever arguments. -/
theorem path_V {seg size s : Int} (h : okB seg size = true ∧ inR size s = true) : ∃ a c s' : Nat, seg = ((2 ^ a : Nat) : Int) ∧ size = ((2 ^ (a + c) : Nat) : Int) ∧ s = (s' : Int) ∧ 2 ≤ a ∧ a ≤ 6 ∧ a + c ≤ 16 ∧ s' < 2 ^ (a + c) ∧ pathV seg size s = (pathL a c s', 0) := by
  obtain ⟨a, c, h1, h2, q1, q2, q3⟩ := okB_form h.1
  obtain ⟨s0, s1⟩ := inR_iff.1 h.2
  obtain ⟨s', hs'⟩ := Int.eq_ofNat_of_zero_le s0
  refine ⟨a, c, s', h1, h2, hs', q1, q2, q3, by rw [hs', h2] at s1; exact Int.ofNat_lt.1 s1, ?_⟩
  unfold pathV
  rw [if_pos h, h1, h2, hs', highN_of, Int.toNat_natCast, Nat.log2_two_pow, Int.toNat_natCast]
end Go.Proofs.Ytiemfklonhlnnaa.Win

namespace Go.Proofs.Ytiemfklonhlnnaa.Win
open Go.RowKit Go.Shelf Go.Proofs.Ytiemfklonhlnnaa Go.Proofs.Ytiemfklonhlnnaa.Frac

def rowP (k i : Nat) : Int × Int := (((i * 2 ^ k : Nat) : Int), ((i * 2 ^ k + 2 ^ k : Nat) : Int))
def rowL (a c h : Nat) : List (Int × Int) := upto (rowP (a + h)) (2 ^ (c - h))
def hOk (seg size h : Int) : Prop := okB seg size = true ∧ 0 ≤ h ∧ h ≤ ((highN seg size : Nat) : Int)
instance (seg size h : Int) : Decidable (hOk seg size h) := by unfold hOk; infer_instance
def rowV (seg size h : Int) : List (Int × Int) × Int := if hOk seg size h then (rowL seg.toNat.log2 (highN seg size) h.toNat, 0) else ([], 2)

theorem lowW_mul (k i : Nat) : lowW k (i * 2 ^ k) = i * 2 ^ k := by
  unfold lowW; rw [Nat.mul_div_cancel _ (Nat.pow_pos (by decide))]
theorem asked_none (seg size : Int) (w : World) :
    Calls Try.prog 47 #[.int .i64 seg, .int .i64 size, .slice Option.none 0 0] w fun e w' => e = .returned (.tuple #[.int .i64 (highV seg size).1, .int .i64 (highV seg size).2]) ∧ w = w' := by
  have h := asked_any seg size Option.none 0 [] w Rd.nil (by simp)
  have e : askedV seg size [] = highV seg size := by unfold askedV highV; simp
  rw [e] at h
  exact h

set_option maxRecDepth 100000 in
set_option maxHeartbeats 4000000 in
theorem row_ok (a c h : Nat) (w : World) (q1 : 2 ≤ a) (q2 : a ≤ 6) (q3 : a + c ≤ 16) (hh : h ≤ c) : Calls Try.prog 32 #[.int .i64 ((2 ^ a : Nat) : Int), .int .i64 ((2 ^ (a + c) : Nat) : Int), .int .i64 h] w fun e w' => AnsP (rowL a c h, 0) w e w' := by
  obtain ⟨i0, hi, hz0, hz1, hz2⟩ := info_parts info2
  have HA : Hid (highV ((2 ^ a : Nat) : Int) ((2 ^ (a + c) : Nat) : Int) = ((c : Int), 0)) := Lib.hid (by
    unfold highV; rw [if_pos (okB_of q1 q2 q3), highN_of])
  have hs16 : 2 ^ (a + c) ≤ 65536 := Nat.le_trans (Nat.pow_le_pow_right (by decide) q3) (by decide)
  have hp16 : 2 ^ (a + h) ≤ 65536 := Nat.le_trans (Nat.pow_le_pow_right (by decide) (show a + h ≤ 16 by omega)) (by decide)
  have hp0 : 0 < 2 ^ (a + h) := Nat.pow_pos (by decide)
  have hmul : ((2 ^ a : Nat) : Int) * (2 : Int) ^ h = ((2 ^ (a + h) : Nat) : Int) := by rw [Nat.pow_add]; simp
  have hn : 2 ^ (a + c) = 2 ^ (c - h) * 2 ^ (a + h) := by rw [← Nat.pow_add]; congr 1; omega
  have HN := Lib.hid hn
  have HAR : Hid (∀ i, i * 2 ^ (a + h) ≤ 65536 → ∀ w, Calls Try.prog 48 #[.int .i64 ((2 ^ (a + h) : Nat) : Int), .int .i64 ((i * 2 ^ (a + h) : Nat) : Int)] w fun e w' => e = .returned (.agg #[.int .i64 ((i * 2 ^ (a + h) : Nat) : Int), .int .i64 ((i * 2 ^ (a + h) + 2 ^ (a + h) : Nat) : Int)]) ∧ Below w.heap.size w w') := Lib.hid (fun i hi w => by
    have := around_any (a + h) (i * 2 ^ (a + h)) w (by omega) hi
    rwa [lowW_mul] at this)
  have HP : Hid (∀ i, rowP (a + h) i = (((i * 2 ^ (a + h) : Nat) : Int), ((i * 2 ^ (a + h) + 2 ^ (a + h) : Nat) : Int))) := Lib.hid (fun _ => rfl)
  clear hn
  generalize (2 ^ (a + c) : Nat) = pn at *
  generalize (2 ^ (a + h) : Nat) = p at *
  generalize hcc : (2 ^ (c - h) : Nat) = cc at *
  have HCC := Lib.hid hcc
  generalize (2 ^ a : Nat) = pa at *
  clear hcc
  have hcn : cc ≤ pn := by rw [HN.out]; exact Nat.le_mul_of_pos_right _ hp0
  have hd1 : decide ((h : Int) < 0) = false := by rw [decide_eq_false_iff_not]; omega
  have hd2 : decide (c < h) = false := by rw [decide_eq_false_iff_not]; omega
  go_enter Try.func32, Try.ntmps32
  go_wp2_with fail
  refine (asked_none _ _ _).mono ?_
  rintro e w' ⟨rfl, rfl⟩
  rw [HA.out]
  go_wp2_with fail
  go_loopw [6, 9] (fun v i wr => ∃ k : Nat, k ≤ cc ∧ i = .int .i64 ((k * p : Nat) : Int) ∧ wr.ownsRow w.heap.size 69 2 v k (pcells (upto (rowP (a + h)) k)) ∧ Below w.heap.size w wr) (fun _ i _ => pn - (intOf i).toNat)
  case atStart => exact ⟨0, Nat.zero_le _, by simp, World.ownsRow_nil _ _ _ _, Below.refl _ _⟩
  case round =>
    obtain ⟨k, hk, rfl, hown, hbl⟩ := hrel
    have HO := Lib.hid hown
    have HB := Lib.hid hbl
    have hkp : k * p ≤ pn := by rw [HN.out]; exact Nat.mul_le_mul_right _ hk
    by_cases hlt : k < cc
    · have hlt2 : k * p < pn := by rw [HN.out]; exact Nat.mul_lt_mul_of_pos_right hlt hp0
      have HF := Lib.hid (HAR.out k (by omega))
      have HPk := Lib.hid (HP.out k)
      have HS : Hid ((k + 1) * p = k * p + p) := Lib.hid (by rw [Nat.add_mul, Nat.one_mul])
      clear hown hbl
      generalize k * p = x at *
      have hxp : ((x + p : Nat) : Int) = (x : Int) + (p : Int) := by omega
      go_wp2_with fail
      refine (HF.out _).mono ?_
      rintro e w1 ⟨rfl, hb1⟩
      have HO1 := Lib.hid (HO.out.kept (grown0 hb1) (by cases hv : Value.ownBlock _ with
        | none => exact .inl rfl
        | some k => exact .inr (by simp)))
      have HB1 := Lib.hid (bstep HB.out hb1)
      clear hb1 hxp
      go_wp2_with (at_builtin; refine wpList_append_pair HO1.out HB1.out.size rfl _ _ 66 rfl i0 Try.underlying66 hi hz0 hz1 hz2 _ _ 1 rfl rfl (by unfold maxLen; omega) (by omega) ?_)
      intro v' w2 hown' hb'
      have HO2 := Lib.hid hown'
      have HB2 := Lib.hid (HB1.out.trans hb')
      clear hown' hb'
      go_wp2
      go_roundw
      case rel => exact ⟨k + 1, by omega, by rw [HS.out]; go_num, by rw [upto_succ, HPk.out]; exact HO2.out, HB2.out⟩
      case measure => simp [intOf]; omega
    · obtain rfl : k = cc := by omega
      have hge : k * p = pn := HN.out.symm
      rw [hge]
      have hnl : ¬ ((pn : Int) < (pn : Int)) := by omega
      clear hown hbl hkp hge
      go_wp2
      go_ret2
      exact AnsP.some (n := k) rfl ((upto_length _ _).trans HCC.out) (by unfold rowL; rw [HCC.out]; exact HO.out) HB.out

set_option maxRecDepth 100000 in
set_option maxHeartbeats 4000000 in
theorem row_bad (seg size h : Int) (w : World) (hb : ¬ hOk seg size h) : Calls Try.prog 32 #[.int .i64 seg, .int .i64 size, .int .i64 h] w fun e w' => AnsP ([], 2) w e w' := by
  by_cases ho : okB seg size = true
  · have HA := Lib.hid (show highV seg size = (((highN seg size : Nat) : Int), 0) from if_pos ho)
    by_cases h1 : 0 ≤ h
    · have h2 : ¬ h ≤ ((highN seg size : Nat) : Int) := fun g => hb ⟨ho, h1, g⟩
      clear ho hb
      generalize highN seg size = H at *
      go_enter Try.func32, Try.ntmps32
      go_wp2_with fail
      refine (asked_none _ _ _).mono ?_
      rintro e w' ⟨rfl, rfl⟩
      rw [HA.out]
      go_wp2
      go_ret2
      exact AnsP.nil rfl (Below.refl _ _)
    · clear ho hb
      generalize highN seg size = H at *
      go_enter Try.func32, Try.ntmps32
      go_wp2_with fail
      refine (asked_none _ _ _).mono ?_
      rintro e w' ⟨rfl, rfl⟩
      rw [HA.out]
      go_wp2
      go_ret2
      exact AnsP.nil rfl (Below.refl _ _)
  · have HA := Lib.hid (show highV seg size = (0, 2) from if_neg ho)
    clear ho hb
    go_enter Try.func32, Try.ntmps32
    go_wp2_with fail
    refine (asked_none _ _ _).mono ?_
    rintro e w' ⟨rfl, rfl⟩
    rw [HA.out]
    go_wp2
    go_ret2
    exact AnsP.nil rfl (Below.refl _ _)

/-! ### The document's -/
theorem askA_row {seg size h : Int} : askA seg size h 0 = true ↔ hOk seg size h := by
  rw [askA_iff]
  constructor
  · rintro ⟨h1, _, h3, h4⟩
    exact ⟨h1, h3, h4⟩
  · rintro ⟨h1, h3, h4⟩
    obtain ⟨a, c, _, h2, _⟩ := okB_form h1
    exact ⟨h1, inR_iff.2 ⟨Int.le_refl _, by rw [h2]; have : 0 < 2 ^ (a + c) := Nat.pow_pos (by decide)
                                            omega⟩, h3, h4⟩

theorem row_V {seg size h : Int} (hh : hOk seg size h) : ∃ a c h' : Nat, seg = ((2 ^ a : Nat) : Int) ∧ size = ((2 ^ (a + c) : Nat) : Int) ∧ h = (h' : Int) ∧ 2 ≤ a ∧ a ≤ 6 ∧ a + c ≤ 16 ∧ h' ≤ c ∧ rowV seg size h = (rowL a c h', 0) := by
  obtain ⟨g0, g1, g2⟩ := hh
  obtain ⟨a, c, h1, h2, q1, q2, q3⟩ := okB_form g0
  obtain ⟨h', hh'⟩ := Int.eq_ofNat_of_zero_le g1
  refine ⟨a, c, h', h1, h2, hh', q1, q2, q3, by rw [h1, h2, highN_of] at g2; omega, ?_⟩
  unfold rowV
  rw [if_pos ⟨g0, g1, g2⟩, h1, h2, hh', highN_of, Int.toNat_natCast, Nat.log2_two_pow, Int.toNat_natCast]
theorem Row_any (seg size h : Int) (w : World) : Calls Try.prog 32 #[.int .i64 seg, .int .i64 size, .int .i64 h] w fun e w' => AnsP (rowV seg size h) w e w' := by
  by_cases hh : hOk seg size h
  · obtain ⟨a, c, h', h1, h2, h3, q1, q2, q3, h4, h5⟩ := row_V hh
    rw [h5, h1, h2, h3]
    exact row_ok a c h' w q1 q2 q3 h4
  · rw [show rowV seg size h = ([], 2) from if_neg hh]
    exact row_bad seg size h w hh
end Go.Proofs.Ytiemfklonhlnnaa.Win
