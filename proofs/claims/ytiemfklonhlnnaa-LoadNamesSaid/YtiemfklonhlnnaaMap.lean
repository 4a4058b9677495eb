/- Boxes of a config, of a map. How many pairs some segments have. gap.Check of the chapter's config. gap.New, gap.Load of the chapter's config. pma.New, pma.Check, load.anew, load.Pairs of the chapter's config. -/
import Derived.Test.YtiemfklonhlnnaaMao
import Derived.Deep.MidRow
set_option linter.unusedSimpArgs false
set_option linter.unusedVariables false
namespace Go.Proofs.Ytiemfklonhlnnaa.Load
open Go.RowKit Go.Shelf Go.Sort Go.Proofs.Ytiemfklonhlnnaa Go.Proofs.Ytiemfklonhlnnaa.Occ Go.Proofs.Ytiemfklonhlnnaa.Slo Go.Proofs.Ytiemfklonhlnnaa.Seek Go.Proofs.Ytiemfklonhlnnaa.Lay

/-- A block of values. -/
structure BV (W : World) (b : Nat) (vs : List Value) : Prop where
  c : ∀ j v, vs[j]? = some v → W.cell? ⟨b, j, Option.none⟩ = some v
  f : ∀ j, W.frozen? ⟨b, j, Option.none⟩ = false
  lt : b < W.heap.size
theorem BV.next {W W' : World} {b : Nat} {vs : List Value} (x : BV W b vs) (hb : Below W.heap.size W W') : BV W' b vs :=
  ⟨fun j v h => (hb.cell (p := ⟨b, j, Option.none⟩) x.lt).trans (x.c j v h), fun j => (hb.frozen (p := ⟨b, j, Option.none⟩) x.lt).trans (x.f j), Nat.lt_of_lt_of_le x.lt hb.size⟩
theorem BV.new (W : World) (t : TypeId) (news : Array Value) : BV (W.alloc (.cells news t)) W.heap.size news.toList := by
  refine ⟨fun j u hj => ?_, fun j => frozen_new _ _ _ _, by simp⟩
  have := new_cells W t news j u (by simpa using hj)
  rwa [Addr.add_lit, Nat.zero_add] at this
theorem St.bv {W : World} {b : Nat} {vs : List Value} (x : BV W b vs) : St (fun W => BV W b vs) W := ⟨x, fun _ _ x hb => x.next hb⟩
/-- A block written over. -/
def stV (W : World) (p : Nat) : Nat → List Value → World
  | _, [] => W
  | i, v :: vs => stV (W.setCell ⟨p, i, Option.none⟩ v) p (i + 1) vs
theorem stV_below {n p : Nat} {w : World} : ∀ {vs : List Value} {W : World} {i : Nat}, Below n w W → n ≤ p → Below n w (stV W p i vs)
  | [], _, _, hb, _ => hb
  | v :: vs, W, i, hb, hp => by
    unfold stV
    exact stV_below (hb.setCell (p := ⟨p, i, Option.none⟩) hp v) hp
theorem stV_size {p : Nat} : ∀ {vs : List Value} {W : World} {i : Nat}, (stV W p i vs).heap.size = W.heap.size
  | [], _, _ => rfl
  | _ :: vs, W, i => by unfold stV; rw [stV_size]; simp
theorem stV_own {p lo hi : Nat} {o : Sl} {h : Hd} : ∀ {vs : List Value} {W : World} {i : Nat}, SOwn W lo hi o h → p < lo → SOwn (stV W p i vs) lo hi o h
  | [], _, _, x, _ => x
  | v :: vs, W, i, x, hl => by
    unfold stV
    exact stV_own (x.set_low ⟨p, i, Option.none⟩ v hl) hl
theorem stV_low {p b : Nat} : ∀ {vs : List Value} {W : World} {i k : Nat}, (p ≠ b ∨ k < i) → (stV W p i vs).cell? ⟨b, k, Option.none⟩ = W.cell? ⟨b, k, Option.none⟩
  | [], _, _, _, _ => rfl
  | v :: vs, W, i, k, h => by
    unfold stV
    rw [stV_low (by omega)]
    refine World.cell?_setCell_other _ _ _ _ ?_
    intro e
    injection e with e1 e2
    omega
theorem stV_frz {p : Nat} {q : Addr} : ∀ {vs : List Value} {W : World} {i : Nat}, (stV W p i vs).frozen? q = W.frozen? q
  | [], _, _ => rfl
  | v :: vs, W, i => by unfold stV; rw [stV_frz, World.frozen?_setCell]
theorem stV_at {p : Nat} : ∀ {vs : List Value} {W : World} {i : Nat}, (∀ j, j < vs.length → ∃ u, W.cell? ⟨p, i + j, Option.none⟩ = some u) → ∀ j v, vs[j]? = some v → (stV W p i vs).cell? ⟨p, i + j, Option.none⟩ = some v
  | [], _, _, _, j, v, h => by simp at h
  | x :: vs, W, i, hc, j, v, h => by
    unfold stV
    cases j with
    | zero =>
      obtain ⟨u, hu⟩ := hc 0 (by simp)
      rw [stV_low (.inr (by omega))]
      simp at h
      subst h
      exact World.cell?_setCell_same _ _ _ hu
    | succ j =>
      have := stV_at (vs := vs) (W := W.setCell ⟨p, i, Option.none⟩ x) (i := i + 1) (fun k hk => by
        obtain ⟨u, hu⟩ := hc (k + 1) (by simp; omega)
        refine ⟨u, ?_⟩
        rw [World.cell?_setCell_other _ _ _ _ (by intro e; injection e with e1 e2; omega), show i + 1 + k = i + (k + 1) by omega]
        exact hu) j v (by simpa using h)
      rw [show i + (j + 1) = i + 1 + j by omega]
      exact this
theorem BV.st {W : World} {b : Nat} {us vs : List Value} (x : BV W b us) (hl : us.length = vs.length) : BV (stV W b 0 vs) b vs :=
  ⟨fun j v h => by
    have := stV_at (p := b) (vs := vs) (W := W) (i := 0) (fun j hj => ⟨us[j]'(by omega), by rw [Nat.zero_add]; exact x.c j _ (List.getElem?_eq_getElem (by omega))⟩) j v h
    rwa [Nat.zero_add] at this, fun j => stV_frz.trans (x.f j), by rw [stV_size]; exact x.lt⟩
theorem BV.other {W : World} {b p i : Nat} {us vs : List Value} (x : BV W b us) (hp : p ≠ b) : BV (stV W p i vs) b us :=
  ⟨fun j v h => (stV_low (.inl hp)).trans (x.c j v h), fun j => stV_frz.trans (x.f j), by rw [stV_size]; exact x.lt⟩
theorem BS.stv {W : World} {b p i : Nat} {s : Sl} {h : Hd} {vs : List Value} (x : BS W b s h) (hp : p ≠ b) : BS (stV W p i vs) b s h :=
  ⟨⟨(stV_low (.inl hp)).trans x.box.c0, (stV_low (.inl hp)).trans x.box.c1, (stV_low (.inl hp)).trans x.box.c2, (stV_low (.inl hp)).trans x.box.c3, (stV_low (.inl hp)).trans x.box.c4, (stV_low (.inl hp)).trans x.box.c5, fun j => stV_frz.trans (x.box.f j)⟩, by rw [stV_size]; exact x.lt⟩
theorem st15 (W : World) (p : Nat) (v0 v1 v2 v3 v4 v5 v6 v7 v8 v9 v10 v11 v12 v13 v14 : Value) : ((((((((((((((W.setCell ⟨p, 0, Option.none⟩ (v0)).setCell ⟨p, 1, Option.none⟩ (v1)).setCell ⟨p, 2, Option.none⟩ (v2)).setCell ⟨p, 3, Option.none⟩ (v3)).setCell ⟨p, 4, Option.none⟩ (v4)).setCell ⟨p, 5, Option.none⟩ (v5)).setCell ⟨p, 6, Option.none⟩ (v6)).setCell ⟨p, 7, Option.none⟩ (v7)).setCell ⟨p, 8, Option.none⟩ (v8)).setCell ⟨p, 9, Option.none⟩ (v9)).setCell ⟨p, 10, Option.none⟩ (v10)).setCell ⟨p, 11, Option.none⟩ (v11)).setCell ⟨p, 12, Option.none⟩ (v12)).setCell ⟨p, 13, Option.none⟩ (v13)).setCell ⟨p, 14, Option.none⟩ (v14) = stV W p 0 [v0, v1, v2, v3, v4, v5, v6, v7, v8, v9, v10, v11, v12, v13, v14] := rfl
theorem st6 (W : World) (p : Nat) (v0 v1 v2 v3 v4 v5 : Value) : (((((W.setCell ⟨p, 0, Option.none⟩ (v0)).setCell ⟨p, 1, Option.none⟩ (v1)).setCell ⟨p, 2, Option.none⟩ (v2)).setCell ⟨p, 3, Option.none⟩ (v3)).setCell ⟨p, 4, Option.none⟩ (v4)).setCell ⟨p, 5, Option.none⟩ (v5) = stV W p 0 [v0, v1, v2, v3, v4, v5] := rfl
/-- A config; a map: as values, as cells. -/
def cval (c : Conf.Cfg) : Value := .agg #[.int .u8 c.tag, .int .i64 c.most, .int .i64 c.seg, .int .i64 c.least, .int .i64 c.den, .int .i64 c.ll, .int .i64 c.rl, .int .i64 c.rh, .int .i64 c.lh]
def mval (c : Conf.Cfg) (s : Sl) (h : Hd) : Value := .agg #[.int .u8 c.tag, .int .i64 c.most, .int .i64 c.seg, .int .i64 c.least, .int .i64 c.den, .int .i64 c.ll, .int .i64 c.rl, .int .i64 c.rh, .int .i64 c.lh, .int .i64 s.seg, .slice h.aw s.ws.length h.cw, .slice h.ak s.ks.length h.ck, .slice h.av s.vs.length h.cv, .slice h.ac s.cs.length h.cc, .int .u64 s.laid]
def cl (c : Conf.Cfg) : List Value := [.int .u8 c.tag, .int .i64 c.most, .int .i64 c.seg, .int .i64 c.least, .int .i64 c.den, .int .i64 c.ll, .int .i64 c.rl, .int .i64 c.rh, .int .i64 c.lh]
def ml (c : Conf.Cfg) (s : Sl) (h : Hd) : List Value := [.int .u8 c.tag, .int .i64 c.most, .int .i64 c.seg, .int .i64 c.least, .int .i64 c.den, .int .i64 c.ll, .int .i64 c.rl, .int .i64 c.rh, .int .i64 c.lh, .int .i64 s.seg, .slice h.aw s.ws.length h.cw, .slice h.ak s.ks.length h.ck, .slice h.av s.vs.length h.cv, .slice h.ac s.cs.length h.cc, .int .u64 s.laid]
def mz : List Value := [.int .u8 0, .int .i64 0, .int .i64 0, .int .i64 0, .int .i64 0, .int .i64 0, .int .i64 0, .int .i64 0, .int .i64 0, .int .i64 0, .slice Option.none 0 0, .slice Option.none 0 0, .slice Option.none 0 0, .slice Option.none 0 0, .int .u64 0]
def sl (s : Sl) (h : Hd) : List Value := [.int .i64 s.seg, .slice h.aw s.ws.length h.cw, .slice h.ak s.ks.length h.ck, .slice h.av s.vs.length h.cv, .slice h.ac s.cs.length h.cc, .int .u64 s.laid]
def sz0 : List Value := [.int .i64 0, .slice Option.none 0 0, .slice Option.none 0 0, .slice Option.none 0 0, .slice Option.none 0 0, .int .u64 0]
def allocC (W : World) (c : Conf.Cfg) : World := W.alloc (.cells #[.int .u8 c.tag, .int .i64 c.most, .int .i64 c.seg, .int .i64 c.least, .int .i64 c.den, .int .i64 c.ll, .int .i64 c.rl, .int .i64 c.rh, .int .i64 c.lh] 23)
theorem allocC_fold (W : World) (c : Conf.Cfg) : W.alloc (.cells #[.int .u8 c.tag, .int .i64 c.most, .int .i64 c.seg, .int .i64 c.least, .int .i64 c.den, .int .i64 c.ll, .int .i64 c.rl, .int .i64 c.rh, .int .i64 c.lh] 23) = allocC W c := rfl
def allocM (W : World) (c : Conf.Cfg) (s : Sl) (h : Hd) : World := W.alloc (.cells #[.int .u8 c.tag, .int .i64 c.most, .int .i64 c.seg, .int .i64 c.least, .int .i64 c.den, .int .i64 c.ll, .int .i64 c.rl, .int .i64 c.rh, .int .i64 c.lh, .int .i64 s.seg, .slice h.aw s.ws.length h.cw, .slice h.ak s.ks.length h.ck, .slice h.av s.vs.length h.cv, .slice h.ac s.cs.length h.cc, .int .u64 s.laid] 31)
theorem allocM_fold (W : World) (c : Conf.Cfg) (s : Sl) (h : Hd) : W.alloc (.cells #[.int .u8 c.tag, .int .i64 c.most, .int .i64 c.seg, .int .i64 c.least, .int .i64 c.den, .int .i64 c.ll, .int .i64 c.rl, .int .i64 c.rh, .int .i64 c.lh, .int .i64 s.seg, .slice h.aw s.ws.length h.cw, .slice h.ak s.ks.length h.ck, .slice h.av s.vs.length h.cv, .slice h.ac s.cs.length h.cc, .int .u64 s.laid] 31) = allocM W c s h := rfl
def allocMZ (W : World) : World := W.alloc (.cells #[.int .u8 0, .int .i64 0, .int .i64 0, .int .i64 0, .int .i64 0, .int .i64 0, .int .i64 0, .int .i64 0, .int .i64 0, .int .i64 0, .slice Option.none 0 0, .slice Option.none 0 0, .slice Option.none 0 0, .slice Option.none 0 0, .int .u64 0] 31)
theorem allocMZ_fold (W : World) : W.alloc (.cells #[.int .u8 0, .int .i64 0, .int .i64 0, .int .i64 0, .int .i64 0, .int .i64 0, .int .i64 0, .int .i64 0, .int .i64 0, .int .i64 0, .slice Option.none 0 0, .slice Option.none 0 0, .slice Option.none 0 0, .slice Option.none 0 0, .int .u64 0] 31) = allocMZ W := rfl
def allocSZ (W : World) : World := W.alloc (.cells #[.int .i64 0, .slice Option.none 0 0, .slice Option.none 0 0, .slice Option.none 0 0, .slice Option.none 0 0, .int .u64 0] 29)
theorem allocSZ_fold (W : World) : W.alloc (.cells #[.int .i64 0, .slice Option.none 0 0, .slice Option.none 0 0, .slice Option.none 0 0, .slice Option.none 0 0, .int .u64 0] 29) = allocSZ W := rfl
def allocA (W : World) (x y : Int) : World := W.alloc (.cells #[.int .i64 x, .int .i64 y] 69)
theorem allocA_fold (W : World) (x y : Int) : W.alloc (.cells #[.int .i64 x, .int .i64 y] 69) = allocA W x y := rfl
theorem allocC_size (W : World) (c : Conf.Cfg) : (allocC W c).heap.size = W.heap.size + 1 := by simp [allocC]
theorem allocC_below (W : World) (c : Conf.Cfg) : Below W.heap.size W (allocC W c) := (Below.refl _ W).alloc (Nat.le_refl _) _
theorem allocM_size (W : World) (c : Conf.Cfg) (s : Sl) (h : Hd) : (allocM W c s h).heap.size = W.heap.size + 1 := by simp [allocM]
theorem allocM_below (W : World) (c : Conf.Cfg) (s : Sl) (h : Hd) : Below W.heap.size W (allocM W c s h) := (Below.refl _ W).alloc (Nat.le_refl _) _
theorem allocMZ_size (W : World)  : (allocMZ W ).heap.size = W.heap.size + 1 := by simp [allocMZ]
theorem allocMZ_below (W : World)  : Below W.heap.size W (allocMZ W ) := (Below.refl _ W).alloc (Nat.le_refl _) _
theorem allocSZ_size (W : World)  : (allocSZ W ).heap.size = W.heap.size + 1 := by simp [allocSZ]
theorem allocSZ_below (W : World)  : Below W.heap.size W (allocSZ W ) := (Below.refl _ W).alloc (Nat.le_refl _) _
theorem allocA_size (W : World) (x y : Int) : (allocA W x y).heap.size = W.heap.size + 1 := by simp [allocA]
theorem allocA_below (W : World) (x y : Int) : Below W.heap.size W (allocA W x y) := (Below.refl _ W).alloc (Nat.le_refl _) _
theorem allocC_bv (W : World) (c : Conf.Cfg) : BV (allocC W c) W.heap.size (cl c) := BV.new W _ _
theorem allocM_bv (W : World) (c : Conf.Cfg) (s : Sl) (h : Hd) : BV (allocM W c s h) W.heap.size (ml c s h) := BV.new W _ _
theorem allocMZ_bv (W : World) : BV (allocMZ W) W.heap.size mz := BV.new W _ _
theorem allocSZ_bv (W : World) : BV (allocSZ W) W.heap.size sz0 := BV.new W _ _
theorem allocA_bp (W : World) (x y : Int) : BP (allocA W x y) W.heap.size x y := ⟨Res.new W x y _, by rw [allocA_size]; omega⟩
theorem setCells_stV {p : Nat} : ∀ (vs : List Value) (W : World) (i : Nat), W.setCells p i vs = stV W p i vs
  | [], _, _ => rfl
  | v :: vs, W, i => by unfold World.setCells stV; exact setCells_stV vs _ _
theorem BV.there {W : World} {b n : Nat} {vs : List Value} (x : BV W b vs) (h : n = vs.length) : W.there b 0 n := fun j hj => by
  rw [Nat.zero_add]
  exact ⟨by rw [x.c j _ (List.getElem?_eq_getElem (by omega))]; rfl, x.f j⟩
theorem there_alloc {W : World} {b o n : Nat} {x : Obj} (h : W.there b o n) : (W.alloc x).there b o n := fun j hj => by
  obtain ⟨u, hu⟩ := Option.isSome_iff_exists.1 (h j hj).1
  have hl := World.block_lt_of_cell? W ⟨b, o + j, Option.none⟩ hu
  have hb := (Below.refl W.heap.size W).alloc (Nat.le_refl _) x
  exact ⟨by rw [hb.cell (p := ⟨b, o + j, Option.none⟩) hl]; exact (h j hj).1, (hb.frozen (p := ⟨b, o + j, Option.none⟩) hl).trans (h j hj).2⟩
theorem there_new {W : World} {t : TypeId} {c : Array Value} {n : Nat} (h : n = c.size) : (W.alloc (.cells c t)).there W.heap.size 0 n :=
  BV.there (BV.new W t c) (by simpa using h)
theorem there_new15 (W : World) (t : TypeId) (v0 v1 v2 v3 v4 v5 v6 v7 v8 v9 v10 v11 v12 v13 v14 : Value) : (W.alloc (.cells #[v0, v1, v2, v3, v4, v5, v6, v7, v8, v9, v10, v11, v12, v13, v14] t)).there W.heap.size 0 15 := there_new rfl
/-- A map stored, as one. -/
theorem store_pma (W : World) (b : Nat) (x0 x1 x2 x3 x4 x5 x6 x7 x8 x9 x10 : Int) (p0 p1 p2 p3 : Option Addr) (n0 k0 n1 k1 n2 k2 n3 k3 : Nat) (ht : W.there b 0 15) : (Instr.storeAt 31 (.pointer (some ⟨b, 0, Option.none⟩)) (.agg #[.int .u8 x0, .int .i64 x1, .int .i64 x2, .int .i64 x3, .int .i64 x4, .int .i64 x5, .int .i64 x6, .int .i64 x7, .int .i64 x8, .int .i64 x9, .slice p0 n0 k0, .slice p1 n1 k1, .slice p2 n2 k2, .slice p3 n3 k3, .int .u64 x10])).run Try.prog W = .ok () (W.setCells b 0 [.int .u8 x0, .int .i64 x1, .int .i64 x2, .int .i64 x3, .int .i64 x4, .int .i64 x5, .int .i64 x6, .int .i64 x7, .int .i64 x8, .int .i64 x9, .slice p0 n0 k0, .slice p1 n1 k1, .slice p2 n2 k2, .slice p3 n3 k3, .int .u64 x10]) :=
  run_storeAt_mid W b 0 31 #[.int .u8 x0, .int .i64 x1, .int .i64 x2, .int .i64 x3, .int .i64 x4, .int .i64 x5, .int .i64 x6, .int .i64 x7, .int .i64 x8, .int .i64 x9, .slice p0 n0 k0, .slice p1 n1 k1, .slice p2 n2 k2, .slice p3 n3 k3, .int .u64 x10] ht (by kernel_rfl) (by simp [Value.oneCell'])
theorem setCells_new15 (W : World) (t : TypeId) (v0 v1 v2 v3 v4 v5 v6 v7 v8 v9 v10 v11 v12 v13 v14 u0 u1 u2 u3 u4 u5 u6 u7 u8 u9 u10 u11 u12 u13 u14 : Value) : (W.alloc (.cells #[v0, v1, v2, v3, v4, v5, v6, v7, v8, v9, v10, v11, v12, v13, v14] t)).setCells W.heap.size 0 [u0, u1, u2, u3, u4, u5, u6, u7, u8, u9, u10, u11, u12, u13, u14] = W.alloc (.cells #[u0, u1, u2, u3, u4, u5, u6, u7, u8, u9, u10, u11, u12, u13, u14] t) := by
  unfold World.setCells
  simp [World.setCells, World.setCell_alloc_new]
theorem setCells_fold (W : World) (b : Nat) (v0 v1 v2 v3 v4 v5 v6 v7 v8 v9 v10 v11 v12 v13 v14 : Value) : W.setCells b 0 [v0, v1, v2, v3, v4, v5, v6, v7, v8, v9, v10, v11, v12, v13, v14] = stV W b 0 [v0, v1, v2, v3, v4, v5, v6, v7, v8, v9, v10, v11, v12, v13, v14] := setCells_stV _ _ _
/-- A map stored: the operation. -/
theorem wpList_store_map {ops : Array Oper} {rest : List Oper} {op : Oper} {a : Act} {Q : Exit → Act → World → Prop} {w : World} (x y : Operand) (hgd : op.guard = none) (ho : op.op = .store 31 x y) {b : Nat} {x0 x1 x2 x3 x4 x5 x6 x7 x8 x9 x10 : Int} {p0 p1 p2 p3 : Option Addr} {n0 k0 n1 k1 n2 k2 n3 k3 : Nat} (hx : a.eval x = .pointer (some ⟨b, 0, Option.none⟩)) (hy : a.eval y = .agg #[.int .u8 x0, .int .i64 x1, .int .i64 x2, .int .i64 x3, .int .i64 x4, .int .i64 x5, .int .i64 x6, .int .i64 x7, .int .i64 x8, .int .i64 x9, .slice p0 n0 k0, .slice p1 n1 k1, .slice p2 n2 k2, .slice p3 n3 k3, .int .u64 x10]) (ht : w.there b 0 15) (h : wpList Try.prog ops Q rest (a.put op.dst undef) (stV w b 0 [.int .u8 x0, .int .i64 x1, .int .i64 x2, .int .i64 x3, .int .i64 x4, .int .i64 x5, .int .i64 x6, .int .i64 x7, .int .i64 x8, .int .i64 x9, .slice p0 n0 k0, .slice p1 n1 k1, .slice p2 n2 k2, .slice p3 n3 k3, .int .u64 x10])) : wpList Try.prog ops Q (op :: rest) a w :=
  wpList_store_mid hgd 31 x y ho b 0 #[.int .u8 x0, .int .i64 x1, .int .i64 x2, .int .i64 x3, .int .i64 x4, .int .i64 x5, .int .i64 x6, .int .i64 x7, .int .i64 x8, .int .i64 x9, .slice p0 n0 k0, .slice p1 n1 k1, .slice p2 n2 k2, .slice p3 n3 k3, .int .u64 x10] hx hy ht (by kernel_rfl) (by simp [Value.oneCell']) (by rw [setCells_stV]; exact h)
theorem wpList_store_newmap {ops : Array Oper} {rest : List Oper} {op : Oper} {a : Act} {Q : Exit → Act → World → Prop} {W : World} {t : TypeId} {v0 v1 v2 v3 v4 v5 v6 v7 v8 v9 v10 v11 v12 v13 v14 : Value} (x y : Operand) (hgd : op.guard = none) (ho : op.op = .store 31 x y) {x0 x1 x2 x3 x4 x5 x6 x7 x8 x9 x10 : Int} {p0 p1 p2 p3 : Option Addr} {n0 k0 n1 k1 n2 k2 n3 k3 : Nat} (hx : a.eval x = .pointer (some ⟨W.heap.size, 0, Option.none⟩)) (hy : a.eval y = .agg #[.int .u8 x0, .int .i64 x1, .int .i64 x2, .int .i64 x3, .int .i64 x4, .int .i64 x5, .int .i64 x6, .int .i64 x7, .int .i64 x8, .int .i64 x9, .slice p0 n0 k0, .slice p1 n1 k1, .slice p2 n2 k2, .slice p3 n3 k3, .int .u64 x10]) (h : wpList Try.prog ops Q rest (a.put op.dst undef) (W.alloc (.cells #[.int .u8 x0, .int .i64 x1, .int .i64 x2, .int .i64 x3, .int .i64 x4, .int .i64 x5, .int .i64 x6, .int .i64 x7, .int .i64 x8, .int .i64 x9, .slice p0 n0 k0, .slice p1 n1 k1, .slice p2 n2 k2, .slice p3 n3 k3, .int .u64 x10] t))) : wpList Try.prog ops Q (op :: rest) a (W.alloc (.cells #[v0, v1, v2, v3, v4, v5, v6, v7, v8, v9, v10, v11, v12, v13, v14] t)) :=
  wpList_store_mid hgd 31 x y ho W.heap.size 0 #[.int .u8 x0, .int .i64 x1, .int .i64 x2, .int .i64 x3, .int .i64 x4, .int .i64 x5, .int .i64 x6, .int .i64 x7, .int .i64 x8, .int .i64 x9, .slice p0 n0 k0, .slice p1 n1 k1, .slice p2 n2 k2, .slice p3 n3 k3, .int .u64 x10] hx hy (there_new15 _ _ _ _ _ _ _ _ _ _ _ _ _ _ _ _ _) (by kernel_rfl) (by simp [Value.oneCell']) (by rw [show (#[.int .u8 x0, .int .i64 x1, .int .i64 x2, .int .i64 x3, .int .i64 x4, .int .i64 x5, .int .i64 x6, .int .i64 x7, .int .i64 x8, .int .i64 x9, .slice p0 n0 k0, .slice p1 n1 k1, .slice p2 n2 k2, .slice p3 n3 k3, .int .u64 x10] : Array Value).toList = [.int .u8 x0, .int .i64 x1, .int .i64 x2, .int .i64 x3, .int .i64 x4, .int .i64 x5, .int .i64 x6, .int .i64 x7, .int .i64 x8, .int .i64 x9, .slice p0 n0 k0, .slice p1 n1 k1, .slice p2 n2 k2, .slice p3 n3 k3, .int .u64 x10] from rfl, setCells_new15]; exact h)
/-- What answers a map and an error. -/
def AnsM (V : (Conf.Cfg × Sl) × Int) (w : World) (e : Ending) (w' : World) : Prop :=
  ∃ h', e = .returned (.tuple #[mval V.1.1 V.1.2 h', .int .i64 V.2]) ∧ SOwn w' w.heap.size w'.heap.size V.1.2 h' ∧ Below w.heap.size w w'
end Go.Proofs.Ytiemfklonhlnnaa.Load

namespace Go.Proofs.Ytiemfklonhlnnaa.Load
open Go.RowKit Go.Shelf Go.Sort Go.Proofs.Ytiemfklonhlnnaa Go.Proofs.Ytiemfklonhlnnaa.Occ Go.Proofs.Ytiemfklonhlnnaa.Slo Go.Proofs.Ytiemfklonhlnnaa.Seek Go.Proofs.Ytiemfklonhlnnaa.Lay
attribute [local go_sem] sval Oper.semAt_some

/-- It can be read, and its counts have room. -/
structure MRd (W : World) (s : Sl) (h : Hd) : Prop where
  rd : SRd W s h
  cap : s.cs.length ≤ h.cc
theorem MRd.next {W W' : World} {s : Sl} {h : Hd} (x : MRd W s h) (hb : Below W.heap.size W W') : MRd W' s h := ⟨x.rd.next hb, x.cap⟩
theorem St.mrd {W : World} {s : Sl} {h : Hd} (x : MRd W s h) : St (fun W => MRd W s h) W := ⟨x, fun _ _ x hb => x.next hb⟩
theorem SOwn.mrd {W : World} {lo hi : Nat} {s : Sl} {h : Hd} (x : SOwn W lo hi s h) : MRd W s h := ⟨SOwn.rd x, by
  obtain ⟨a, c, e, -, -, hc, -⟩ := owns_arg (k := .i64) x.oc
  simp only [Value.slice.injEq] at e
  omega⟩
set_option maxRecDepth 100000 in
set_option maxHeartbeats 8000000 in
theorem among_any (s : Sl) (h : Hd) (F T : Int) (a b : Nat) (w : World) (R : MRd w s h) (hs : s.seg = 4) (hc : s.cs.length = 4) (hF : Int.tdiv F 4 = (a : Int)) (hT : Int.tdiv T 4 = (b : Int)) (hab : a < b) (hb4 : b ≤ 4) :
    Calls Try.prog 31 #[sval s h, .int .i64 F, .int .i64 T] w fun e w' => e = .returned (.int .i64 (amongV s a b)) ∧ Below w.heap.size w w' := by
  obtain ⟨g, o, eg, hlt, -⟩ := rd_at R.rd.fc (i := 0) (by omega)
  have hcap := R.cap
  have HCC : Hid (∀ i, i < b - a → (allocS w s h).cell? ⟨g, o + a + i, Option.none⟩ = some (.int .i64 (((s.cs.drop a).take (b - a)).getD i 0))) := Lib.hid (fun i hi => by
    obtain ⟨b1, o1, e1, -, c1⟩ := rd_at (R.next (allocS_below w s h)).rd.fc (i := a + i) (by omega)
    rw [eg] at e1
    cases e1
    rw [Nat.add_assoc, c1]
    congr 2
    simp [List.getD_eq_getElem?_getD, List.getElem?_take, List.getElem?_drop, hi])
  have HV : Hid (amongV s a b = sumW ((s.cs.drop a).take (b - a))) := Lib.hid rfl
  have hzl : ((s.cs.drop a).take (b - a)).length = b - a := by rw [List.length_take, List.length_drop]; omega
  have HST := Lib.hid (fun k hk => sumW_take ((s.cs.drop a).take (b - a)) k hk)
  have HFU : Hid (((s.cs.drop a).take (b - a)).take (b - a) = (s.cs.drop a).take (b - a)) := Lib.hid (List.take_of_length_le (by omega))
  generalize (s.cs.drop a).take (b - a) = Z at *
  have w1 : IntKind.i64.wrap (a : Int) = (a : Int) := by rw [IntKind.wrap_i64]; omega
  have w2 : IntKind.i64.wrap (b : Int) = (b : Int) := by rw [IntKind.wrap_i64]; omega
  have E0 := Lib.hid (((St.below' (allocS_below w s h))).and (St.bs (allocS_bs w s h)))
  rw [hc] at hcap
  have HE := Lib.hid (And.intro eg (And.intro hs hc))
  clear R hlt eg hs hc
  go_enter Try.func31, Try.ntmps31
  go_wp2
  rw [allocS_fold]
  generalize allocS w s h = w0 at *
  obtain ⟨⟨⟨bs_0, bs_1, bs_2, bs_3, bs_4, bs_5, -⟩, bs_l⟩, -⟩ := E0.out.now
  have hbc : b ≤ h.cc := by omega
  have hac : ¬ h.cc = a := by omega
  have hab2 : a ≤ b := by omega
  rw [HE.out.1, HE.out.2.2] at bs_4
  rw [HE.out.2.1] at bs_0
  refine still_lit mixed' (by kernel_rfl) ?_
  repeat still_step
  refine wpStill_nil ?_
  go_wp2
  go_loopw [6, 8, 21] (fun n _ i wr => ∃ k : Nat, k ≤ b - a ∧ i = .int .i64 k ∧ n = .int .i64 (sumW (Z.take k)) ∧ wr = w0.drew) (fun _ _ i _ => b - a - (intOf i).toNat)
  case atStart => exact ⟨0, Nat.zero_le _, rfl, rfl, rfl⟩
  case round =>
    obtain ⟨k, hk, rfl, rfl, rfl⟩ := hrel
    by_cases hlt : k < b - a
    · have cz := HCC.out k hlt
      have hst := HST.out k (by omega)
      generalize Z.getD k 0 = z at *
      generalize hy : sumW (Z.take k) = y at *
      have HST2 := Lib.hid hst
      clear hst hy
      go_wp2
      go_roundw
      case rel => exact ⟨k + 1, by omega, by go_num, by rw [HST2.out]; first | rfl | simp [IntKind.wrap_i64, wrap64], by first | rfl | trivial⟩
      case measure => simp [intOf]; omega
    · obtain rfl : k = b - a := by omega
      rw [HFU.out]
      go_wp2
      go_ret
      exact ⟨by rw [HV.out]; rfl, (E0.out.now.2).drew⟩
end Go.Proofs.Ytiemfklonhlnnaa.Load

namespace Go.Proofs.Ytiemfklonhlnnaa.Load
open Go.RowKit Go.Shelf Go.Sort Go.Proofs.Ytiemfklonhlnnaa Go.Proofs.Ytiemfklonhlnnaa.Occ Go.Proofs.Ytiemfklonhlnnaa.Slo Go.Proofs.Ytiemfklonhlnnaa.Seek Go.Proofs.Ytiemfklonhlnnaa.Lay
attribute [local go_sem] sval cval mval Oper.semAt_some

theorem chkS_good {s : Sl} (G : Good s) : chkS s = 0 := by unfold chkS; rw [if_pos G.ok]
set_option maxRecDepth 100000 in
set_option maxHeartbeats 16000000 in
theorem gapCheck_no (c : Conf.Cfg) (s : Sl) (h : Hd) (w : World) (W : c.Wf) (hne : Conf.checkV c ≠ 0) :
    Calls Try.prog 21 #[cval c, sval s h] w fun e w' => e = .returned (.int .i64 (Conf.checkV c)) ∧ Below w.heap.size w w' := by
  have HC := Lib.hid (fun w1 => Conf.check_any c w1 W)
  have hn : (Conf.checkV c != 0) = true := by rw [bne_iff_ne]; exact hne
  generalize Conf.checkV c = k at *
  have E0 := Lib.hid (St.below' ((allocC_below w c).trans ((allocS_below (allocC w c) s h).mono (by rw [allocC_size]; omega))))
  clear W hne
  go_enter Try.func21, Try.ntmps21
  go_wp2_with fail
  rw [allocC_fold, allocS_fold]
  generalize allocS (allocC w c) s h = w0 at *
  refine (HC.out _).mono ?_
  rintro e w1 ⟨rfl, hb⟩
  have E1 := Lib.hid (E0.out.next hb)
  clear hb
  go_wp2
  go_ret
  exact ⟨rfl, E1.out.now⟩
set_option maxRecDepth 100000 in
set_option maxHeartbeats 16000000 in
theorem gapCheck_ok (c : Conf.Cfg) (s : Sl) (h : Hd) (w : World) (hc0 : c = c0) (G : Good s) (R : MRd w s h) :
    Calls Try.prog 21 #[cval c, sval s h] w fun e w' => e = .returned (.int .i64 0) ∧ Below w.heap.size w w' := by
  have HCW : Hid c.Wf := Lib.hid (by rw [hc0]; exact c0_wf)
  have hls : (Lit.int .i64 (s.ks.length : Int)).wf = true := by rw [G.ks]; decide
  have HC := Lib.hid (fun w1 => Conf.check_any c w1 HCW.out)
  rw [show Conf.checkV c = 0 by rw [hc0]; decide +kernel] at HC
  have HH := Lib.hid (fun w1 => Conf.high_any c (s.ks.length : Int) w1 HCW.out hls)
  rw [show Conf.highV c (s.ks.length : Int) = (2, 0) by rw [hc0, G.ks]; decide +kernel] at HH
  dsimp only at HH
  have HSC := Lib.hid (fun w1 R => sCheck_any s h w1 G.wf R)
  rw [chkS_good G] at HSC
  have HA0 := Lib.hid (fun w1 R => among_any s h 0 (s.ks.length : Int) 0 4 w1 R G.seg G.cs (by decide) (by rw [G.ks]; decide) (by decide) (by decide))
  have t2 : decide (c.most < amongV s 0 4) = false := decide_eq_false (by have := G.most; rw [hc0]; show ¬ (8 : Int) < _; omega)
  generalize amongV s 0 4 = n0 at *
  have t1 : (s.seg != c.seg) = false := by rw [G.seg, hc0]; rfl
  have HROW : Hid (∀ k w1, k < 3 → Calls Try.prog 32 #[.int .i64 c.seg, .int .i64 (s.ks.length : Int), .int .i64 (k : Nat)] w1 fun e w' => Win.AnsP (Win.rowV 4 16 (k : Nat)) w1 e w') := Lib.hid (fun k w1 hk => by
    have := Win.Row_any c.seg (s.ks.length : Int) (k : Nat) w1
    rw [show Win.rowV c.seg (s.ks.length : Int) (k : Nat) = Win.rowV 4 16 (k : Nat) by rw [G.ks, hc0]; rfl] at this
    exact this)
  have HAM : Hid (∀ k j w1, k < 3 → j < 2 ^ (2 - k) → MRd w1 s h → Calls Try.prog 31 #[sval s h, .int .i64 ((4 * (j * 2 ^ k) : Nat) : Int), .int .i64 ((4 * ((j + 1) * 2 ^ k) : Nat) : Int)] w1 fun e w' => e = .returned (.int .i64 (amongV s (j * 2 ^ k) ((j + 1) * 2 ^ k))) ∧ Below w1.heap.size w1 w') := Lib.hid (fun k j w1 hk hj R => by
    have hi := row_in hk hj
    have hlt : j * 2 ^ k < (j + 1) * 2 ^ k := Nat.mul_lt_mul_of_pos_right (by omega) (Nat.pow_pos (by decide))
    exact among_any s h _ _ _ _ w1 R G.seg G.cs (by rw [Int.tdiv_eq_ediv_of_nonneg (by omega)]; omega) (by rw [Int.tdiv_eq_ediv_of_nonneg (by omega)]; omega) hlt hi.2)
  have HFU : Hid (∀ k j w1, k < 3 → j < 2 ^ (2 - k) → Calls Try.prog 33 #[.agg #[.int .u8 c.tag, .int .i64 c.most, .int .i64 c.seg, .int .i64 c.least, .int .i64 c.den, .int .i64 c.ll, .int .i64 c.rl, .int .i64 c.rh, .int .i64 c.lh], .int .i64 (s.ks.length : Int), .int .i64 (k : Nat), .int .i64 (amongV s (j * 2 ^ k) ((j + 1) * 2 ^ k))] w1 fun e w' => e = .returned (.tuple #[.bool true, .int .i64 (Conf.fullV c0 16 (k : Nat) (amongV s (j * 2 ^ k) ((j + 1) * 2 ^ k))).2]) ∧ Below w1.heap.size w1 w') := Lib.hid (fun k j w1 hk hj => by
    have := Conf.full_any c (s.ks.length : Int) (k : Nat) (amongV s (j * 2 ^ k) ((j + 1) * 2 ^ k)) w1 HCW.out hls
    rw [show Conf.fullV c (s.ks.length : Int) (k : Nat) (amongV s (j * 2 ^ k) ((j + 1) * 2 ^ k)) = Conf.fullV c0 16 (k : Nat) (amongV s (j * 2 ^ k) ((j + 1) * 2 ^ k)) by rw [G.ks, hc0]; rfl, (G.at hk hj).1] at this
    exact this)
  have HSP : Hid (∀ k j w1, k < 3 → j < 2 ^ (2 - k) → Calls Try.prog 34 #[.agg #[.int .u8 c.tag, .int .i64 c.most, .int .i64 c.seg, .int .i64 c.least, .int .i64 c.den, .int .i64 c.ll, .int .i64 c.rl, .int .i64 c.rh, .int .i64 c.lh], .int .i64 (s.ks.length : Int), .int .i64 (k : Nat), .int .i64 (amongV s (j * 2 ^ k) ((j + 1) * 2 ^ k))] w1 fun e w' => e = .returned (.tuple #[.bool true, .int .i64 (Conf.sparseV c0 16 (k : Nat) (amongV s (j * 2 ^ k) ((j + 1) * 2 ^ k))).2]) ∧ Below w1.heap.size w1 w') := Lib.hid (fun k j w1 hk hj => by
    have := Conf.sparse_any c (s.ks.length : Int) (k : Nat) (amongV s (j * 2 ^ k) ((j + 1) * 2 ^ k)) w1 HCW.out hls
    rw [show Conf.sparseV c (s.ks.length : Int) (k : Nat) (amongV s (j * 2 ^ k) ((j + 1) * 2 ^ k)) = Conf.sparseV c0 16 (k : Nat) (amongV s (j * 2 ^ k) ((j + 1) * 2 ^ k)) by rw [G.ks, hc0]; rfl, (G.at hk hj).2] at this
    exact this)
  have HR := Lib.hid R
  have h16 : s.ks.length = 16 := G.ks
  have H16 := Lib.hid h16
  clear G R hc0 hls h16
  have E0 := Lib.hid (((((St.below' ((allocC_below w c).trans ((allocS_below (allocC w c) s h).mono (by rw [allocC_size]; omega))))).and (St.mrd ((HR.out.next (allocC_below w c)).next (allocS_below (allocC w c) s h)))).and (St.bv ((allocC_bv w c).next (allocS_below (allocC w c) s h)))).and (St.bs (b := w.heap.size + 1) (by have := allocS_bs (allocC w c) s h; rw [allocC_size] at this; exact this)))
  go_enter Try.func21, Try.ntmps21
  go_wp2_with fail
  rw [allocC_fold, allocS_fold]
  generalize (allocS (allocC w c) s h) = w0 at *
  refine (HC.out _).mono ?_
  rintro e w1 ⟨rfl, hb⟩
  have E1 := Lib.hid (E0.out.next hb)
  clear hb
  obtain ⟨⟨⟨bs_0, bs_1, bs_2, bs_3, bs_4, bs_5, -⟩, bs_l⟩, bc_v, -, -⟩ := E1.out.now
  have bc_0 := bc_v.c 0 _ rfl; have bc_1 := bc_v.c 1 _ rfl; have bc_2 := bc_v.c 2 _ rfl; have bc_3 := bc_v.c 3 _ rfl; have bc_4 := bc_v.c 4 _ rfl; have bc_5 := bc_v.c 5 _ rfl; have bc_6 := bc_v.c 6 _ rfl; have bc_7 := bc_v.c 7 _ rfl; have bc_8 := bc_v.c 8 _ rfl; have bc_l := bc_v.lt
  clear bc_v
  go_wp2_with fail
  clear bc_0 bc_1 bc_2 bc_3 bc_4 bc_5 bc_6 bc_7 bc_8 bc_l bs_0 bs_1 bs_2 bs_3 bs_4 bs_5 bs_l
  refine (HH.out _).mono ?_
  rintro e w2 ⟨rfl, hb⟩
  have E2 := Lib.hid (E1.out.next hb)
  clear hb
  clear HC HH
  go_wp2_with fail
  refine region_qb' w2 w2.heap.size (Below.refl _ _) mixed' (by kernel_rfl) fun w3 hB hz => ?_
  have E3 := Lib.hid (E2.out.next hB)
  clear hB hz
  have EC := Lib.hid (fun d os => E3.out.next (below_regrown w3 d os))
  obtain ⟨⟨⟨bs_0, bs_1, bs_2, bs_3, bs_4, bs_5, -⟩, bs_l⟩, bc_v, -, -⟩ := E3.out.now
  have bc_0 := bc_v.c 0 _ rfl; have bc_1 := bc_v.c 1 _ rfl; have bc_2 := bc_v.c 2 _ rfl; have bc_3 := bc_v.c 3 _ rfl; have bc_4 := bc_v.c 4 _ rfl; have bc_5 := bc_v.c 5 _ rfl; have bc_6 := bc_v.c 6 _ rfl; have bc_7 := bc_v.c 7 _ rfl; have bc_8 := bc_v.c 8 _ rfl; have bc_l := bc_v.lt
  clear bc_v
  have qbc_0 := cell_regrown bc_0
  have qbc_1 := cell_regrown bc_1
  have qbc_2 := cell_regrown bc_2
  have qbc_3 := cell_regrown bc_3
  have qbc_4 := cell_regrown bc_4
  have qbc_5 := cell_regrown bc_5
  have qbc_6 := cell_regrown bc_6
  have qbc_7 := cell_regrown bc_7
  have qbc_8 := cell_regrown bc_8
  have qbs_0 := cell_regrown bs_0
  have qbs_1 := cell_regrown bs_1
  have qbs_2 := cell_regrown bs_2
  have qbs_3 := cell_regrown bs_3
  have qbs_4 := cell_regrown bs_4
  have qbs_5 := cell_regrown bs_5
  clear bc_0 bc_1 bc_2 bc_3 bc_4 bc_5 bc_6 bc_7 bc_8 bc_l bs_0 bs_1 bs_2 bs_3 bs_4 bs_5 bs_l
  repeat (go_big_quiet_step (fail))
  go_big_quiet_step (exact Calls.regrown_of (HSC.out _ ((EC.out _ _).now.2.2.1).rd))
  repeat (go_big_quiet_step (fail))
  go_big_quiet_step (exact Calls.regrown_of (HA0.out _ (EC.out _ _).now.2.2.1))
  repeat (go_big_quiet_step (fail))
  refine wpQuiet_nil ?_
  rintro _ ⟨⟨dq, osq⟩, rfl⟩
  have E4 := Lib.hid (EC.out dq osq)
  generalize grow (redrawn w3 dq) osq = w4 at *
  clear EC qbc_0 qbc_1 qbc_2 qbc_3 qbc_4 qbc_5 qbc_6 qbc_7 qbc_8 qbs_0 qbs_1 qbs_2 qbs_3 qbs_4 qbs_5
  clear HSC HA0 t1 t2
  go_wp2
  go_loopw [9, 10, 11, 13, 14, 15, 16, 17, 18, 57] (fun _ _ _ _ _ _ _ _ _ i wr => ∃ k : Nat, k ≤ 3 ∧ i = .int .i64 k ∧ Below w4.heap.size w4 wr) (fun _ _ _ _ _ _ _ _ _ i _ => 3 - (intOf i).toNat)
  case atStart => exact ⟨0, by decide, rfl, Below.refl _ _⟩
  case round =>
    obtain ⟨k, hk, rfl, hb⟩ := hrel
    have E5 := Lib.hid ((E4.out.next hb).and (St.below' hb))
    clear hb
    by_cases hlt : k < 3
    · have HR1 := Lib.hid (fun w1 => HROW.out k w1 hlt)
      have HRL : Hid ((Win.rowV 4 16 (k : Nat)).1.length = 2 ^ (2 - k)) := Lib.hid (row_len hlt)
      have HRA := Lib.hid (fun j hj => row_at (h := k) (k := j) hlt hj)
      unfold Win.AnsP at HR1
      generalize (Win.rowV 4 16 (k : Nat)).1 = RL at *
      generalize (Win.rowV 4 16 (k : Nat)).2 = re at *
      obtain ⟨-, -, bc_v, -, -⟩ := E5.out.now
      have bc_0 := bc_v.c 0 _ rfl; have bc_1 := bc_v.c 1 _ rfl; have bc_2 := bc_v.c 2 _ rfl; have bc_3 := bc_v.c 3 _ rfl; have bc_4 := bc_v.c 4 _ rfl; have bc_5 := bc_v.c 5 _ rfl; have bc_6 := bc_v.c 6 _ rfl; have bc_7 := bc_v.c 7 _ rfl; have bc_8 := bc_v.c 8 _ rfl; have bc_l := bc_v.lt
      clear bc_v
      go_wp2_with fail
      clear bc_0 bc_1 bc_2 bc_3 bc_4 bc_5 bc_6 bc_7 bc_8 bc_l
      refine (HR1.out _).mono ?_
      rintro e w6 ⟨v, rfl, ho, hb⟩
      obtain ⟨ar, cr, rfl, -, hr2, -, -⟩ := owns2_arg ho
      clear ho
      have E6 := Lib.hid ((E5.out.next hb).and (St.rd2 hr2))
      clear hb
      clear hr2 HR1
      have hrl4 : RL.length ≤ 4 := by have := HRL.out; have h2 : 2 ^ (2 - k) ≤ 2 ^ 2 := Nat.pow_le_pow_right (by decide) (by omega); omega
      go_wp2
      go_loopw [13, 14, 15, 16, 17, 18, 70] (fun _ _ _ _ _ _ i wq => ∃ j : Nat, j ≤ RL.length ∧ i = .int .i64 j ∧ Below w6.heap.size w6 wq) (fun _ _ _ _ _ _ i _ => RL.length - (intOf i).toNat)
      case atStart => exact ⟨0, Nat.zero_le _, rfl, Below.refl _ _⟩
      case round =>
        obtain ⟨j, hj, rfl, hb⟩ := hrel
        have E7 := Lib.hid ((E6.out.next hb).and (St.below' hb))
        clear hb
        by_cases hjl : j < RL.length
        · have hj2 : j < 2 ^ (2 - k) := by have := HRL.out; omega
          obtain ⟨bz, oz, rfl, ca, cb⟩ := Rd2.at E7.out.now.2.1 (Below.refl _ _) (Nat.le_refl _) hjl
          rw [HRA.out j hj2] at ca cb
          dsimp only at ca cb
          have HA1 := Lib.hid (fun w1 R => HAM.out k j w1 hlt hj2 R)
          have HF1 := Lib.hid (fun w1 => HFU.out k j w1 hlt hj2)
          have HS1 := Lib.hid (fun w1 => HSP.out k j w1 hlt hj2)
          generalize amongV s (j * 2 ^ k) ((j + 1) * 2 ^ k) = n1 at *
          generalize (Conf.fullV c0 16 (k : Nat) n1).2 = fe at *
          generalize (Conf.sparseV c0 16 (k : Nat) n1).2 = se at *
          generalize ((4 * (j * 2 ^ k) : Nat) : Int) = x0 at *
          generalize ((4 * ((j + 1) * 2 ^ k) : Nat) : Int) = x1 at *
          obtain ⟨-, -, -, ⟨⟨bs_0, bs_1, bs_2, bs_3, bs_4, bs_5, -⟩, bs_l⟩, -, -, -⟩ := E7.out.now
          go_wp2_with fail
          clear bs_0 bs_1 bs_2 bs_3 bs_4 bs_5 bs_l
          clear ca cb
          rw [allocA_fold]
          have E8 := Lib.hid (E7.out.next (allocA_below wr x0 x1))
          generalize allocA wr x0 x1 = wa at *
          refine (HA1.out _ E8.out.now.2.2.2.2.2.1).mono ?_
          rintro e w9 ⟨rfl, hb⟩
          have E9 := Lib.hid (E8.out.next hb)
          clear hb
          obtain ⟨-, -, -, -, bc_v, -, -⟩ := E9.out.now
          have bc_0 := bc_v.c 0 _ rfl; have bc_1 := bc_v.c 1 _ rfl; have bc_2 := bc_v.c 2 _ rfl; have bc_3 := bc_v.c 3 _ rfl; have bc_4 := bc_v.c 4 _ rfl; have bc_5 := bc_v.c 5 _ rfl; have bc_6 := bc_v.c 6 _ rfl; have bc_7 := bc_v.c 7 _ rfl; have bc_8 := bc_v.c 8 _ rfl; have bc_l := bc_v.lt
          clear bc_v
          go_wp2_with fail
          clear bc_0 bc_1 bc_2 bc_3 bc_4 bc_5 bc_6 bc_7 bc_8 bc_l
          refine (HF1.out _).mono ?_
          rintro e w10 ⟨rfl, hb⟩
          have E10 := Lib.hid (E9.out.next hb)
          clear hb
          obtain ⟨-, -, -, -, bc_v, -, -⟩ := E10.out.now
          have bc_0 := bc_v.c 0 _ rfl; have bc_1 := bc_v.c 1 _ rfl; have bc_2 := bc_v.c 2 _ rfl; have bc_3 := bc_v.c 3 _ rfl; have bc_4 := bc_v.c 4 _ rfl; have bc_5 := bc_v.c 5 _ rfl; have bc_6 := bc_v.c 6 _ rfl; have bc_7 := bc_v.c 7 _ rfl; have bc_8 := bc_v.c 8 _ rfl; have bc_l := bc_v.lt
          clear bc_v
          go_wp2_with fail
          clear bc_0 bc_1 bc_2 bc_3 bc_4 bc_5 bc_6 bc_7 bc_8 bc_l
          refine (HS1.out _).mono ?_
          rintro e w11 ⟨rfl, hb⟩
          have E11 := Lib.hid (E10.out.next hb)
          clear hb
          go_wp2
          go_roundw
          case rel => exact ⟨j + 1, by omega, by go_num, E11.out.now.1⟩
          case measure => simp [intOf]; omega
        · obtain rfl : j = RL.length := by omega
          go_wp2
          go_roundw
          case rel => exact ⟨k + 1, by omega, by go_num, E7.out.now.2.2.1⟩
          case measure => simp [intOf]; omega
    · obtain rfl : k = 3 := by omega
      go_wp2
      go_ret
      exact ⟨rfl, E5.out.now.2.2.2.2⟩
end Go.Proofs.Ytiemfklonhlnnaa.Load

namespace Go.Proofs.Ytiemfklonhlnnaa.Load
open Go.RowKit Go.Shelf Go.Sort Go.Proofs.Ytiemfklonhlnnaa Go.Proofs.Ytiemfklonhlnnaa.Occ Go.Proofs.Ytiemfklonhlnnaa.Slo Go.Proofs.Ytiemfklonhlnnaa.Seek Go.Proofs.Ytiemfklonhlnnaa.Lay
attribute [local go_sem] sval cval mval Oper.semAt_some

def gapLoadV (s : Sl) (ps : List (Int × Int)) : Sl × Int := if 8 < ps.length then (noneS, 9) else ((intoSV s 16 ps).1, 0)
theorem sval_noneS : sval noneS noneH = .agg #[.int .i64 0, .slice Option.none 0 0, .slice Option.none 0 0, .slice Option.none 0 0, .slice Option.none 0 0, .int .u64 0] := rfl
set_option maxRecDepth 100000 in
set_option maxHeartbeats 16000000 in
theorem gapNew_any (c : Conf.Cfg) (w : World) (hc0 : c = c0) : Calls Try.prog 20 #[cval c] w fun e w' => AnsS (mE, 0) w e w' := by
  have HCW : Hid c.Wf := Lib.hid (by rw [hc0]; exact c0_wf)
  have HC := Lib.hid (fun w1 => Conf.check_any c w1 HCW.out)
  rw [show Conf.checkV c = 0 by rw [hc0]; decide +kernel] at HC
  have HN := Lib.hid (fun w1 => New_any c.seg c.least w1 HCW.out.seg HCW.out.least)
  rw [show newSV c.seg c.least = (mE, 0) by rw [hc0]; exact mE_new] at HN
  unfold AnsS at HN ⊢
  dsimp only at HN ⊢
  generalize mE = S at *
  clear hc0
  have E0 := Lib.hid ((((St.below' ((allocC_below w c).trans ((allocSZ_below (allocC w c)).mono (by rw [allocC_size]; omega))))).and (St.bv ((allocC_bv w c).next (allocSZ_below (allocC w c))))).and (St.bv (b := w.heap.size + 1) (by have := allocSZ_bv (allocC w c); rw [allocC_size] at this; exact this)))
  go_enter Try.func20, Try.ntmps20
  go_wp2_with fail
  rw [allocC_fold, allocSZ_fold]
  generalize (allocSZ (allocC w c)) = w0 at *
  refine (HC.out _).mono ?_
  rintro e w1 ⟨rfl, hb⟩
  have E1 := Lib.hid (E0.out.next hb)
  clear hb
  obtain ⟨-, bc_v, -⟩ := E1.out.now
  have bc_0 := bc_v.c 0 _ rfl; have bc_1 := bc_v.c 1 _ rfl; have bc_2 := bc_v.c 2 _ rfl; have bc_3 := bc_v.c 3 _ rfl; have bc_4 := bc_v.c 4 _ rfl; have bc_5 := bc_v.c 5 _ rfl; have bc_6 := bc_v.c 6 _ rfl; have bc_7 := bc_v.c 7 _ rfl; have bc_8 := bc_v.c 8 _ rfl; have bc_l := bc_v.lt
  clear bc_v
  go_wp2_with fail
  clear bc_0 bc_1 bc_2 bc_3 bc_4 bc_5 bc_6 bc_7 bc_8 bc_l
  refine (HN.out _).mono ?_
  rintro e w2 ⟨h', rfl, ho, hb⟩
  have E2 := Lib.hid ((E1.out.next hb).and (St.own ho))
  clear hb
  clear ho
  obtain ⟨-, bz_v, -, -⟩ := E2.out.now
  have bz_0 := bz_v.c 0 _ rfl; have bz_1 := bz_v.c 1 _ rfl; have bz_2 := bz_v.c 2 _ rfl; have bz_3 := bz_v.c 3 _ rfl; have bz_4 := bz_v.c 4 _ rfl; have bz_5 := bz_v.c 5 _ rfl; have bz_l := bz_v.lt
  clear bz_v
  have g := E2.out.now.2.1.f
  have g0 := g 0; have g1 := g 1; have g2 := g 2; have g3 := g 3; have g4 := g 4; have g5 := g 5
  clear g
  go_wp2
  (rw [st6]; have D := BV.st (vs := [.int .i64 S.seg, .slice h'.aw S.ws.length h'.cw, .slice h'.ak S.ks.length h'.ck, .slice h'.av S.vs.length h'.cv, .slice h'.ac S.cs.length h'.cc, .int .u64 S.laid]) E2.out.now.2.1 rfl; have q0 := D.c 0 _ rfl; have q1 := D.c 1 _ rfl; have q2 := D.c 2 _ rfl; have q3 := D.c 3 _ rfl; have q4 := D.c 4 _ rfl; have q5 := D.c 5 _ rfl; refine bodyPost_ret (v := .tuple #[sval S h', .int .i64 0]) (by simp [results, Try.results20, mval, cval, sval, go_sem, q0, q1, q2, q3, q4, q5]) rfl ⟨h', rfl, ?_, stV_below E2.out.now.2.2.2 (by omega)⟩)
  have hz1 := E1.out.now.1.lt
  exact (stV_own E2.out.now.1 hz1).mono (by omega) (by rw [stV_size]; exact Nat.le_refl _)
set_option maxRecDepth 100000 in
set_option maxHeartbeats 16000000 in
theorem gapLoad_any (c : Conf.Cfg) (s : Sl) (h : Hd) (al : Option Addr) (cl : Nat) (ps : List (Int × Int)) (w : World) (hc0 : c = c0) (G : Good s) (R : MRd w s h) (hrp : Rd2 w al ps) (lp : ps.length ≤ 100) :
    Calls Try.prog 23 #[cval c, sval s h, .slice al ps.length cl] w fun e w' => AnsS (gapLoadV s ps) w e w' := by
  have HCW : Hid c.Wf := Lib.hid (by rw [hc0]; exact c0_wf)
  have HC := Lib.hid (fun w1 R => gapCheck_ok c s h w1 hc0 G R)
  have hm : c.most = 8 := by rw [hc0]; rfl
  have HR := Lib.hid R
  have HRP := Lib.hid hrp
  have HM := Lib.hid hm
  unfold AnsS
  by_cases h8 : 8 < ps.length
  · have HV : Hid (gapLoadV s ps = (noneS, 9)) := Lib.hid (if_pos h8)
    have t1 : decide (c.most < (ps.length : Int)) = true := by rw [hm]; simp; omega
    have E0 := Lib.hid (((((((St.below' (((allocC_below w c).trans ((allocS_below (allocC w c) s h).mono (by rw [allocC_size]; omega))).trans ((allocSZ_below (allocS (allocC w c) s h)).mono (by rw [allocS_size, allocC_size]; omega))))).and (St.mrd (((HR.out.next (allocC_below w c)).next (allocS_below (allocC w c) s h)).next (allocSZ_below (allocS (allocC w c) s h))))).and ((((St.rd2 HRP.out).next (allocC_below w c)).next (allocS_below (allocC w c) s h)).next (allocSZ_below (allocS (allocC w c) s h)))).and (St.bv (((allocC_bv w c).next (allocS_below (allocC w c) s h)).next (allocSZ_below (allocS (allocC w c) s h))))).and (St.bs (b := w.heap.size + 1) (by have := (allocS_bs (allocC w c) s h).next (allocSZ_below (allocS (allocC w c) s h)); rw [allocC_size] at this; exact this))).and (St.bv (b := w.heap.size + 2) (by have := allocSZ_bv (allocS (allocC w c) s h); rw [allocS_size, allocC_size] at this; exact this)))
    clear hrp R G hc0 hm
    go_enter Try.func23, Try.ntmps23
    go_wp2_with fail
    rw [allocC_fold, allocS_fold, allocSZ_fold]
    generalize (allocSZ (allocS (allocC w c) s h)) = w0 at *
    refine (HC.out _ E0.out.now.2.2.2.2.1).mono ?_
    rintro e w1 ⟨rfl, hb⟩
    have E1 := Lib.hid (E0.out.next hb)
    clear hb
    clear h8 HM
    obtain ⟨bz_v, -, bc_v, -, -, -⟩ := E1.out.now
    have bc_0 := bc_v.c 0 _ rfl; have bc_1 := bc_v.c 1 _ rfl; have bc_2 := bc_v.c 2 _ rfl; have bc_3 := bc_v.c 3 _ rfl; have bc_4 := bc_v.c 4 _ rfl; have bc_5 := bc_v.c 5 _ rfl; have bc_6 := bc_v.c 6 _ rfl; have bc_7 := bc_v.c 7 _ rfl; have bc_8 := bc_v.c 8 _ rfl; have bc_l := bc_v.lt
    clear bc_v
    have bz_0 := bz_v.c 0 _ rfl; have bz_1 := bz_v.c 1 _ rfl; have bz_2 := bz_v.c 2 _ rfl; have bz_3 := bz_v.c 3 _ rfl; have bz_4 := bz_v.c 4 _ rfl; have bz_5 := bz_v.c 5 _ rfl; have bz_l := bz_v.lt
    clear bz_v
    have g := E1.out.now.1.f
    have g0 := g 0; have g1 := g 1; have g2 := g 2; have g3 := g 3; have g4 := g 4; have g5 := g 5
    clear g
    go_wp2
    first
    | (rw [st6]; have D := BV.st (vs := [.int .i64 0, .slice Option.none 0 0, .slice Option.none 0 0, .slice Option.none 0 0, .slice Option.none 0 0, .int .u64 0]) E1.out.now.1 rfl; have q0 := D.c 0 _ rfl; have q1 := D.c 1 _ rfl; have q2 := D.c 2 _ rfl; have q3 := D.c 3 _ rfl; have q4 := D.c 4 _ rfl; have q5 := D.c 5 _ rfl; refine bodyPost_ret (v := .tuple #[sval noneS noneH, .int .i64 9]) (by simp [results, Try.results23, mval, cval, sval, go_sem, noneS, noneH, q0, q1, q2, q3, q4, q5]) rfl ⟨noneH, by rw [HV.out], by rw [HV.out]; exact noneS_own _ _ _, stV_below E1.out.now.2.2.2.2.2 (by omega)⟩)
    | (refine bodyPost_ret (v := .tuple #[sval noneS noneH, .int .i64 9]) (by simp [results, Try.results23, mval, cval, sval, go_sem, noneS, noneH, bz_0, bz_1, bz_2, bz_3, bz_4, bz_5]) rfl ⟨noneH, by rw [HV.out], by rw [HV.out]; exact noneS_own _ _ _, E1.out.now.2.2.2.2.2⟩)
  · have HV : Hid (gapLoadV s ps = ((intoSV s 16 ps).1, 0)) := Lib.hid (if_neg h8)
    have t1 : decide (c.most < (ps.length : Int)) = false := by rw [hm]; simp; omega
    have HCAP := Lib.hid (fun w1 => Conf.cap_any c (ps.length : Int) w1 HCW.out)
    rw [show Conf.capV c (ps.length : Int) = (16, 0) by rw [hc0]; exact cap0 ⟨ps.length, by omega⟩] at HCAP
    dsimp only at HCAP
    have HI := Lib.hid (fun w1 R RP => Into_any s h 16 al cl ps w1 G.wf R (by decide) RP (by omega))
    rw [into_ok G (by omega)] at HI
    unfold AnsS at HI
    dsimp only at HI
    generalize (intoSV s 16 ps).1 = S at *
    have E0 := Lib.hid (((((((St.below' (((allocC_below w c).trans ((allocS_below (allocC w c) s h).mono (by rw [allocC_size]; omega))).trans ((allocSZ_below (allocS (allocC w c) s h)).mono (by rw [allocS_size, allocC_size]; omega))))).and (St.mrd (((HR.out.next (allocC_below w c)).next (allocS_below (allocC w c) s h)).next (allocSZ_below (allocS (allocC w c) s h))))).and ((((St.rd2 HRP.out).next (allocC_below w c)).next (allocS_below (allocC w c) s h)).next (allocSZ_below (allocS (allocC w c) s h)))).and (St.bv (((allocC_bv w c).next (allocS_below (allocC w c) s h)).next (allocSZ_below (allocS (allocC w c) s h))))).and (St.bs (b := w.heap.size + 1) (by have := (allocS_bs (allocC w c) s h).next (allocSZ_below (allocS (allocC w c) s h)); rw [allocC_size] at this; exact this))).and (St.bv (b := w.heap.size + 2) (by have := allocSZ_bv (allocS (allocC w c) s h); rw [allocS_size, allocC_size] at this; exact this)))
    clear hrp R G hc0 hm
    go_enter Try.func23, Try.ntmps23
    go_wp2_with fail
    rw [allocC_fold, allocS_fold, allocSZ_fold]
    generalize (allocSZ (allocS (allocC w c) s h)) = w0 at *
    refine (HC.out _ E0.out.now.2.2.2.2.1).mono ?_
    rintro e w1 ⟨rfl, hb⟩
    have E1 := Lib.hid (E0.out.next hb)
    clear hb
    clear h8 HM
    obtain ⟨-, -, bc_v, -, -, -⟩ := E1.out.now
    have bc_0 := bc_v.c 0 _ rfl; have bc_1 := bc_v.c 1 _ rfl; have bc_2 := bc_v.c 2 _ rfl; have bc_3 := bc_v.c 3 _ rfl; have bc_4 := bc_v.c 4 _ rfl; have bc_5 := bc_v.c 5 _ rfl; have bc_6 := bc_v.c 6 _ rfl; have bc_7 := bc_v.c 7 _ rfl; have bc_8 := bc_v.c 8 _ rfl; have bc_l := bc_v.lt
    clear bc_v
    go_wp2_with fail
    clear bc_0 bc_1 bc_2 bc_3 bc_4 bc_5 bc_6 bc_7 bc_8 bc_l
    refine (HCAP.out _).mono ?_
    rintro e w2 ⟨rfl, hb⟩
    have E2 := Lib.hid (E1.out.next hb)
    clear hb
    obtain ⟨-, ⟨⟨bs_0, bs_1, bs_2, bs_3, bs_4, bs_5, -⟩, bs_l⟩, -, -, -, -⟩ := E2.out.now
    go_wp2_with fail
    clear bs_0 bs_1 bs_2 bs_3 bs_4 bs_5 bs_l
    refine (HI.out _ (E2.out.now.2.2.2.2.1).rd E2.out.now.2.2.2.1).mono ?_
    rintro e w3 ⟨h', rfl, ho, hb⟩
    have E3 := Lib.hid ((E2.out.next hb).and (St.own ho))
    clear hb
    clear ho
    obtain ⟨-, bz_v, -, -, -, -, -⟩ := E3.out.now
    have bz_0 := bz_v.c 0 _ rfl; have bz_1 := bz_v.c 1 _ rfl; have bz_2 := bz_v.c 2 _ rfl; have bz_3 := bz_v.c 3 _ rfl; have bz_4 := bz_v.c 4 _ rfl; have bz_5 := bz_v.c 5 _ rfl; have bz_l := bz_v.lt
    clear bz_v
    have g := E3.out.now.2.1.f
    have g0 := g 0; have g1 := g 1; have g2 := g 2; have g3 := g 3; have g4 := g 4; have g5 := g 5
    clear g
    go_wp2
    (rw [st6]; have D := BV.st (vs := [.int .i64 S.seg, .slice h'.aw S.ws.length h'.cw, .slice h'.ak S.ks.length h'.ck, .slice h'.av S.vs.length h'.cv, .slice h'.ac S.cs.length h'.cc, .int .u64 S.laid]) E3.out.now.2.1 rfl; have q0 := D.c 0 _ rfl; have q1 := D.c 1 _ rfl; have q2 := D.c 2 _ rfl; have q3 := D.c 3 _ rfl; have q4 := D.c 4 _ rfl; have q5 := D.c 5 _ rfl; refine bodyPost_ret (v := .tuple #[sval S h', .int .i64 0]) (by simp [results, Try.results23, mval, cval, sval, go_sem, q0, q1, q2, q3, q4, q5]) rfl ⟨h', by rw [HV.out], ?_, stV_below E3.out.now.2.2.2.2.2.2 (by omega)⟩)
    rw [HV.out]
    have hz1 := E2.out.now.1.lt
    exact (stV_own E3.out.now.1 hz1).mono (by omega) (by rw [stV_size]; exact Nat.le_refl _)
end Go.Proofs.Ytiemfklonhlnnaa.Load

namespace Go.Proofs.Ytiemfklonhlnnaa.Load
open Go.RowKit Go.Shelf Go.Sort Go.Proofs.Ytiemfklonhlnnaa Go.Proofs.Ytiemfklonhlnnaa.Occ Go.Proofs.Ytiemfklonhlnnaa.Slo Go.Proofs.Ytiemfklonhlnnaa.Seek Go.Proofs.Ytiemfklonhlnnaa.Lay
attribute [local go_sem] sval cval mval Oper.semAt_some
set_option maxRecDepth 100000 in
set_option maxHeartbeats 16000000 in
theorem pmaNew_any (c : Conf.Cfg) (w : World) (hc0 : c = c0) : Calls Try.prog 11 #[cval c] w fun e w' => AnsM ((c, mE), 0) w e w' := by
  have HN := Lib.hid (fun w1 => gapNew_any c w1 hc0)
  unfold AnsS at HN
  unfold AnsM
  dsimp only at HN ⊢
  generalize mE = S at *
  clear hc0
  have E0 := Lib.hid ((((St.below' ((allocC_below w c).trans ((allocMZ_below (allocC w c)).mono (by rw [allocC_size]; omega))))).and (St.bv ((allocC_bv w c).next (allocMZ_below (allocC w c))))).and (St.bv (b := w.heap.size + 1) (by have := allocMZ_bv (allocC w c); rw [allocC_size] at this; exact this)))
  go_enter Try.func11, Try.ntmps11
  go_wp2_with fail
  rw [allocC_fold, allocMZ_fold]
  generalize (allocMZ (allocC w c)) = w0 at *
  refine (HN.out _).mono ?_
  rintro e w1 ⟨h', rfl, ho, hb⟩
  have E1 := Lib.hid ((E0.out.next hb).and (St.own ho))
  clear hb
  clear ho
  have hz1 := E0.out.now.1.lt
  have hz0 := E0.out.now.2.2.size
  obtain ⟨-, -, bc_v, -⟩ := E1.out.now
  have bc_0 := bc_v.c 0 _ rfl; have bc_1 := bc_v.c 1 _ rfl; have bc_2 := bc_v.c 2 _ rfl; have bc_3 := bc_v.c 3 _ rfl; have bc_4 := bc_v.c 4 _ rfl; have bc_5 := bc_v.c 5 _ rfl; have bc_6 := bc_v.c 6 _ rfl; have bc_7 := bc_v.c 7 _ rfl; have bc_8 := bc_v.c 8 _ rfl; have bc_l := bc_v.lt
  clear bc_v
  have hth : w1.there _ 0 15 := BV.there (E1.out.now.2.1) rfl
  go_wp2_with (first | (refine wpList_store_map _ _ rfl rfl rfl rfl (by first | exact hth | exact there_alloc hth) ?_) | (refine wpList_store_newmap _ _ rfl rfl rfl rfl ?_))
  clear bc_0 bc_1 bc_2 bc_3 bc_4 bc_5 bc_6 bc_7 bc_8 bc_l
  rw [allocS_fold]
  have E2 := Lib.hid (E1.out.next (allocS_below w1 S h'))
  have D := BV.st (vs := [.int .u8 c.tag, .int .i64 c.most, .int .i64 c.seg, .int .i64 c.least, .int .i64 c.den, .int .i64 c.ll, .int .i64 c.rl, .int .i64 c.rh, .int .i64 c.lh, .int .i64 S.seg, .slice h'.aw S.ws.length h'.cw, .slice h'.ak S.ks.length h'.ck, .slice h'.av S.vs.length h'.cv, .slice h'.ac S.cs.length h'.cc, .int .u64 S.laid]) (E2.out.now.2.1) rfl
  have q0 := D.c 0 _ rfl; have q1 := D.c 1 _ rfl; have q2 := D.c 2 _ rfl; have q3 := D.c 3 _ rfl; have q4 := D.c 4 _ rfl; have q5 := D.c 5 _ rfl; have q6 := D.c 6 _ rfl; have q7 := D.c 7 _ rfl; have q8 := D.c 8 _ rfl; have q9 := D.c 9 _ rfl; have q10 := D.c 10 _ rfl; have q11 := D.c 11 _ rfl; have q12 := D.c 12 _ rfl; have q13 := D.c 13 _ rfl; have q14 := D.c 14 _ rfl
  refine bodyPost_ret (v := .tuple #[mval c S h', .int .i64 0]) (by simp [results, Try.results11, mval, cval, sval, go_sem, q0, q1, q2, q3, q4, q5, q6, q7, q8, q9, q10, q11, q12, q13, q14]) rfl ⟨h', rfl, ?_, stV_below E2.out.now.2.2.2 (by omega)⟩
  exact (stV_own E2.out.now.1 hz1).mono (by omega) (by rw [stV_size, allocS_size]; omega)
set_option maxRecDepth 100000 in
set_option maxHeartbeats 16000000 in
theorem pmaCheck_ok (c : Conf.Cfg) (s : Sl) (h : Hd) (w : World) (hc0 : c = c0) (G : Good s) (R : MRd w s h) : Calls Try.prog 12 #[mval c s h] w fun e w' => e = .returned (.int .i64 0) ∧ Below w.heap.size w w' := by
  have HC := Lib.hid (fun w1 R => gapCheck_ok c s h w1 hc0 G R)
  have HK := Lib.hid (fun w1 R => kCheck_any s h w1 G.wf R)
  rw [G.chk] at HK
  have HR := Lib.hid R
  clear G R hc0
  have E0 := Lib.hid ((((St.below' (allocM_below w c s h))).and (St.mrd (HR.out.next (allocM_below w c s h)))).and (St.bv (allocM_bv w c s h)))
  go_enter Try.func12, Try.ntmps12
  go_wp2_with fail
  rw [allocM_fold]
  generalize (allocM w c s h) = w0 at *
  refine (HC.out _ E0.out.now.2.1).mono ?_
  rintro e w1 ⟨rfl, hb⟩
  have E1 := Lib.hid (E0.out.next hb)
  clear hb
  obtain ⟨bm_v, -, -⟩ := E1.out.now
  have bm_0 := bm_v.c 0 _ rfl; have bm_1 := bm_v.c 1 _ rfl; have bm_2 := bm_v.c 2 _ rfl; have bm_3 := bm_v.c 3 _ rfl; have bm_4 := bm_v.c 4 _ rfl; have bm_5 := bm_v.c 5 _ rfl; have bm_6 := bm_v.c 6 _ rfl; have bm_7 := bm_v.c 7 _ rfl; have bm_8 := bm_v.c 8 _ rfl; have bm_9 := bm_v.c 9 _ rfl; have bm_10 := bm_v.c 10 _ rfl; have bm_11 := bm_v.c 11 _ rfl; have bm_12 := bm_v.c 12 _ rfl; have bm_13 := bm_v.c 13 _ rfl; have bm_14 := bm_v.c 14 _ rfl; have bm_l := bm_v.lt
  clear bm_v
  go_wp2_with fail
  clear bm_0 bm_1 bm_2 bm_3 bm_4 bm_5 bm_6 bm_7 bm_8 bm_9 bm_10 bm_11 bm_12 bm_13 bm_14 bm_l
  refine (HK.out _ (E1.out.now.2.1).rd).mono ?_
  rintro e w2 ⟨rfl, hb⟩
  have E2 := Lib.hid (E1.out.next hb)
  clear hb
  go_wp2
  go_ret
  exact ⟨rfl, E2.out.now.2.2⟩
set_option maxRecDepth 100000 in
set_option maxHeartbeats 16000000 in
theorem pmaCheck_no (c : Conf.Cfg) (s : Sl) (h : Hd) (w : World) (W : c.Wf) (hne : Conf.checkV c ≠ 0) : Calls Try.prog 12 #[mval c s h] w fun e w' => e = .returned (.int .i64 (Conf.checkV c)) ∧ Below w.heap.size w w' := by
  have HC := Lib.hid (fun w1 => gapCheck_no c s h w1 W hne)
  have hn : (Conf.checkV c != 0) = true := by rw [bne_iff_ne]; exact hne
  generalize Conf.checkV c = k at *
  clear W hne
  have E0 := Lib.hid ((St.below' (allocM_below w c s h)))
  go_enter Try.func12, Try.ntmps12
  go_wp2_with fail
  rw [allocM_fold]
  generalize (allocM w c s h) = w0 at *
  refine (HC.out _).mono ?_
  rintro e w1 ⟨rfl, hb⟩
  have E1 := Lib.hid (E0.out.next hb)
  clear hb
  go_wp2
  go_ret
  exact ⟨rfl, E1.out.now⟩
set_option maxRecDepth 100000 in
set_option maxHeartbeats 16000000 in
theorem Pairs_ok (c : Conf.Cfg) (s : Sl) (h : Hd) (w : World) (hc0 : c = c0) (G : Good s) (R : MRd w s h) : Calls Try.prog 14 #[mval c s h] w fun e w' => AnsPr (allP s, 0) w e w' := by
  have HC := Lib.hid (fun w1 R => pmaCheck_ok c s h w1 hc0 G R)
  have HP := Lib.hid (fun w1 R => sPairs_any s h 0 (s.ks.length : Int) w1 G.wf R)
  rw [allV_ok G.ok] at HP
  have HR := Lib.hid R
  unfold AnsPr at HP ⊢
  dsimp only at HP ⊢
  generalize allP s = P at *
  clear G R hc0
  have E0 := Lib.hid ((((St.below' (allocM_below w c s h))).and (St.mrd (HR.out.next (allocM_below w c s h)))).and (St.bv (allocM_bv w c s h)))
  go_enter Try.func14, Try.ntmps14
  go_wp2_with fail
  rw [allocM_fold]
  generalize (allocM w c s h) = w0 at *
  refine (HC.out _ E0.out.now.2.1).mono ?_
  rintro e w1 ⟨rfl, hb⟩
  have E1 := Lib.hid (E0.out.next hb)
  clear hb
  obtain ⟨bm_v, -, -⟩ := E1.out.now
  have bm_0 := bm_v.c 0 _ rfl; have bm_1 := bm_v.c 1 _ rfl; have bm_2 := bm_v.c 2 _ rfl; have bm_3 := bm_v.c 3 _ rfl; have bm_4 := bm_v.c 4 _ rfl; have bm_5 := bm_v.c 5 _ rfl; have bm_6 := bm_v.c 6 _ rfl; have bm_7 := bm_v.c 7 _ rfl; have bm_8 := bm_v.c 8 _ rfl; have bm_9 := bm_v.c 9 _ rfl; have bm_10 := bm_v.c 10 _ rfl; have bm_11 := bm_v.c 11 _ rfl; have bm_12 := bm_v.c 12 _ rfl; have bm_13 := bm_v.c 13 _ rfl; have bm_14 := bm_v.c 14 _ rfl; have bm_l := bm_v.lt
  clear bm_v
  go_wp2_with fail
  clear bm_0 bm_1 bm_2 bm_3 bm_4 bm_5 bm_6 bm_7 bm_8 bm_9 bm_10 bm_11 bm_12 bm_13 bm_14 bm_l
  have hz0 := E1.out.now.2.2.size
  refine (HP.out _ (E1.out.now.2.1).rd).mono ?_
  rintro e w2 ⟨v, rfl, ho, hb⟩
  have E2 := Lib.hid ((E1.out.next hb).and (St.row ho))
  clear hb
  clear ho
  go_wp2
  go_ret2
  exact ⟨v, rfl, (E2.out.now.1).mono (by omega), E2.out.now.2.2.2⟩
set_option maxRecDepth 100000 in
set_option maxHeartbeats 16000000 in
theorem Pairs_no (c : Conf.Cfg) (s : Sl) (h : Hd) (w : World) (W : c.Wf) (hne : Conf.checkV c ≠ 0) : Calls Try.prog 14 #[mval c s h] w fun e w' => e = .returned (.tuple #[.slice Option.none 0 0, .int .i64 (Conf.checkV c)]) ∧ Below w.heap.size w w' := by
  have HC := Lib.hid (fun w1 => pmaCheck_no c s h w1 W hne)
  have hn : (Conf.checkV c != 0) = true := by rw [bne_iff_ne]; exact hne
  generalize Conf.checkV c = k at *
  clear W hne
  have E0 := Lib.hid ((St.below' (allocM_below w c s h)))
  go_enter Try.func14, Try.ntmps14
  go_wp2_with fail
  rw [allocM_fold]
  generalize (allocM w c s h) = w0 at *
  refine (HC.out _).mono ?_
  rintro e w1 ⟨rfl, hb⟩
  have E1 := Lib.hid (E0.out.next hb)
  clear hb
  go_wp2
  go_ret2
  exact ⟨rfl, E1.out.now⟩
end Go.Proofs.Ytiemfklonhlnnaa.Load
