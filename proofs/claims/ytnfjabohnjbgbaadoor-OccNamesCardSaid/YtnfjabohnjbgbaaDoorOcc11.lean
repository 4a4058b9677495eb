/- Contracts of package occ: the iterator of a part's words. -/
import Derived.Test.YtnfjabohnjbgbaaDoorOcc10
namespace Go.Proofs.YtnfjabohnjbgbaaDoor.Occ
open Go.RowKit Go.Shelf Go.Proofs.YtnfjabohnjbgbaaDoor
attribute [local go_sem] Oper.semAt_some

/-- Numbers that lie below a block stay. -/
def RdN (n : Nat) (k : IntKind) (w : World) (a : Option Addr) (zs : List Int) : Prop :=
  zs = [] ∨ ∃ b off, a = some ⟨b, off, Option.none⟩ ∧ b < n ∧ ∀ i, i < zs.length → w.cell? ⟨b, off + i, Option.none⟩ = some (.int k (zs.getD i 0))
theorem RdN.of {n : Nat} {k : IntKind} {w : World} {a : Option Addr} {zs : List Int} (h : Rd k w a zs) (hn : w.heap.size ≤ n) : RdN n k w a zs := by
  rcases h with h | ⟨b, off, ha, hlt, hc⟩
  · exact .inl h
  · exact .inr ⟨b, off, ha, by omega, hc⟩
theorem RdN.keep {n : Nat} {k : IntKind} {w w1 : World} {a : Option Addr} {zs : List Int} (h : RdN n k w a zs) (hb : Below n w w1) : RdN n k w1 a zs := by
  rcases h with h | ⟨b, off, ha, hlt, hc⟩
  · exact .inl h
  · exact .inr ⟨b, off, ha, hlt, fun i hi => (hb.cell (p := ⟨b, off + i, Option.none⟩) hlt).trans (hc i hi)⟩
theorem RdN.rd {n : Nat} {k : IntKind} {w : World} {a : Option Addr} {zs : List Int} (h : RdN n k w a zs) (hn : n ≤ w.heap.size) : Rd k w a zs := by
  rcases h with h | ⟨b, off, ha, hlt, hc⟩
  · exact .inl h
  · exact .inr ⟨b, off, ha, by omega, hc⟩

/-- What a round is handed: by its number. -/
def ym (ws : List Int) (f t j : Nat) : Nat × Nat := yl ws f t (min j (ny f t))
def encP (x : Nat × Nat) : Array Value := #[.int .i64 (x.1 : Int), .int .u64 (x.2 : Int)]
def encJ (ws : List Int) (f t j : Nat) : Array Value := encP (ym ws f t j)
/-- The slots that the rounds have told. -/
def bI (ws : List Int) (f t : Nat) (l : List Nat) : List Nat := blL (l.map (ym ws f t))
theorem bI_snoc (ws : List Int) (f t : Nat) (l : List Nat) (j : Nat) : bI ws f t (l ++ [j]) = bI ws f t l ++ bl (ym ws f t j).2 (ym ws f t j).1 := by
  unfold bI; rw [List.map_append, List.map_cons, List.map_nil, blL_snoc]
theorem ym_upto (ws : List Int) (f t : Nat) : (upto id (ny f t)).map (ym ws f t) = upto (yl ws f t) (ny f t) := by
  unfold upto
  rw [List.map_map]
  apply List.map_congr_left
  intro j hj
  have := List.mem_range.1 hj
  show ym ws f t j = _
  unfold ym
  rw [Nat.min_eq_left (by omega)]
theorem bI_all (ws : List Int) (f t : Nat) (hft : f ≤ t) : bI ws f t (upto id (ny f t)) = occs ws f (t - f) := by
  unfold bI; rw [ym_upto, occs_all ws f t hft]
theorem bI_pre {ws : List Int} {f t : Nat} (hft : f ≤ t) {pre : List Nat} (h : pre <+: upto id (ny f t)) : ∃ r, occs ws f (t - f) = bI ws f t pre ++ r := by
  have h2 : pre.map (ym ws f t) <+: upto (yl ws f t) (ny f t) := by rw [← ym_upto]; exact h.map _
  exact occs_pre hft h2
theorem ym_lt {ws : List Int} (hu : U64 ws) (f t j : Nat) : (ym ws f t j).2 < 18446744073709551616 := cutN_lt _ _ _ (wd_of hu _)
theorem ym_first (ws : List Int) (f t j : Nat) (hft : f ≤ t) : (ym ws f t j).1 ≤ t + 63 := by
  show 64 * (f / 64 + min j (ny f t)) ≤ t + 63
  unfold ny; omega
theorem bI_length {ws : List Int} {f t : Nat} (l : List Nat) : (bI ws f t l).length ≤ 64 * l.length := by
  induction l with
  | nil => exact Nat.zero_le _
  | cons j l ih =>
    show (bl (ym ws f t j).2 (ym ws f t j).1 ++ bI ws f t l).length ≤ _
    rw [List.length_append, List.length_cons]
    have : (bl (ym ws f t j).2 (ym ws f t j).1).length ≤ 64 := by
      unfold bl; rw [List.length_map]
      have := List.length_filter_le (fun i => (ym ws f t j).2.testBit i) (List.range 64)
      rwa [List.length_range] at this
    omega

set_option maxRecDepth 100000 in
set_option maxHeartbeats 2000000 in
theorem parts1_in (m l Bw Bf Bt n0 lo hi f t ca : Nat) (a : Option Addr) (ws : List Int) (hu : U64 ws) (hln : ws.length ≤ 100000) (ht : t ≤ 64 * ws.length) (hft : f ≤ t) (b1 : lo ≤ Bw ∧ Bw < hi) (b2 : lo ≤ Bf ∧ Bf < hi) (b3 : lo ≤ Bt ∧ Bt < hi) (J Jx : List Nat → World → Prop)
    (hY : ∀ pre x W, J pre W → pre.length < ny f t → YieldAt Fence.wide (m - 1) Tryd.prog l (encJ ws f t x) W fun e W' =>
      (e = .returned (.bool true) ∧ J (pre ++ [x]) W' ∧ Keeps n0 lo hi W W') ∨ (e = .returned (.bool false) ∧ Jx (pre ++ [x]) W'))
    (W : World) (hnz : n0 ≤ W.heap.size) (hrw : RdN n0 .u64 W a ws) (hcw : W.cell? ⟨Bw, 0, Option.none⟩ = some (.slice a ws.length ca)) (hcf : W.cell? ⟨Bf, 0, Option.none⟩ = some (.int .i64 f)) (hct : W.cell? ⟨Bt, 0, Option.none⟩ = some (.int .i64 t)) (h0 : J [] W) :
    CallsIn Fence.wide m Tryd.prog 38 #[.func (.yield l) #[] #[], .pointer (some ⟨Bw, 0, Option.none⟩), .pointer (some ⟨Bf, 0, Option.none⟩), .pointer (some ⟨Bt, 0, Option.none⟩)] W fun e W' => (∃ v, e = .returned v) ∧
      ((∃ ys, ys = upto id (ny f t) ∧ J ys W') ∨ (∃ pre, pre <+: upto id (ny f t) ∧ Jx pre W')) := by
  have hd : (f : Int) / 64 = ((f / 64 : Nat) : Int) := rfl
  have HU := Lib.hid hu
  have HRW := Lib.hid hrw
  have HNY : Hid (ny f t = (t + 63) / 64 - f / 64) := Lib.hid rfl
  have HF : Hid (64 * (f / 64) ≤ f ∧ f < 64 * (f / 64) + 64) := Lib.hid (by omega)
  have HYL : Hid (∀ j, j < ny f t → encJ ws f t j = encP (64 * (f / 64 + j), pw ws f t (f / 64 + j))) := Lib.hid (fun j hj => by unfold encJ ym; rw [Nat.min_eq_left (by omega)]; rfl)
  have HNY2 : Hid (ny f t = (t + 63) / 64 - f / 64) := Lib.hid rfl
  clear hu hrw
  generalize ny f t = ln at *
  generalize hq : f / 64 = q at *
  clear hq
  refine callsIn_of_wp Tryd.func38 rfl trivial ?_ rfl
  simp only [Tryd.ntmps38, List.size_toArray, List.length_cons, List.length_nil, Nat.reduceAdd, Nat.reduceSub, Array.replicate_succ, Array.replicate_zero, List.push_toArray, List.append_toArray, List.nil_append, List.cons_append]
  gi_wp2
  gi_loopw [6] (fun i wr => ∃ j : Nat, j ≤ ln ∧ i = .int .i64 ((q : Int) + (j : Int)) ∧ J (upto id j) wr ∧ RdN n0 .u64 wr a ws ∧ n0 ≤ wr.heap.size ∧ (∀ b o, lo ≤ b → b < hi → wr.cell? ⟨b, o, Option.none⟩ = W.cell? ⟨b, o, Option.none⟩)) (fun i _ => q + ln - (intOf i).toNat)
  case atStart => exact ⟨0, Nat.zero_le _, by go_num, h0, HRW.out, hnz, fun _ _ _ _ => rfl⟩
  case round =>
    obtain ⟨j, hj, rfl, hJs, hrd, hwz, hsame⟩ := hrel
    have c1 := (hsame Bw 0 b1.1 b1.2).trans hcw
    have c2 := (hsame Bf 0 b2.1 b2.2).trans hcf
    have c3 := (hsame Bt 0 b3.1 b3.2).trans hct
    have HS := Lib.hid hsame
    have HRD := Lib.hid hrd
    clear hrd hsame
    have hln2 := HNY.out
    by_cases hlt : j < ln
    · have h1 := HF.out
      have hlt2 : ((q : Int) + (j : Int)) * 64 < (t : Int) := by omega
      have HCUT := Lib.hid (cut_any a Bw Bf Bt ca ws f t (q + j) wr HU.out (HRD.out.rd hwz) c1 c2 c3 hln ht hft (by omega) (by omega))
      rw [Int.natCast_add] at HCUT
      obtain ⟨fn, tmps, assign, body, hy, hR⟩ := hY _ j wr hJs (by rw [upto_length]; exact hlt)
      rw [HYL.out j hlt] at hy
      dsimp only [encP] at hy
      have hpl : ((64 * (q + j) : Nat) : Int) = ((q : Int) + (j : Int)) * 64 := by omega
      rw [hpl] at hy
      have HNEW : Hid (upto id (j + 1) = upto id j ++ [j]) := Lib.hid (upto_succ _ _)
      have hb1 : q + j ≤ 6500000 := by omega
      have HL2 := Lib.hid hln2
      clear hpl h1 hln2
      generalize pw ws f t (q + j) = x at *
      gi_wp2_with fail
      refine ⟨trivial, fun h => (by cases h), (callsIn_wide.2 HCUT.out).mono ?_⟩
      rintro e w1 ⟨rfl, rfl⟩
      gi_wp2_with fail
      refine ⟨fun h => (by cases h), hR.mono ?_⟩
      rintro e W3 (⟨rfl, hJ3, hk3⟩ | ⟨rfl, hJx3⟩)
      · gi_wp2
        go_roundw
        case rel => exact ⟨j + 1, by omega, by go_num, by rw [HNEW.out]; exact hJ3, HRD.out.keep hk3.below, Nat.le_trans hwz hk3.below.size, fun b o h1 h2 => (hk3.cell h1 h2).trans (HS.out b o h1 h2)⟩
        case measure => simp [intOf]; omega
      · gi_wp2
        refine bodyPost_ret (results_none rfl _ _ _) rfl ?_
        exact ⟨⟨_, rfl⟩, .inr ⟨_, upto_prefix _ (show j + 1 ≤ ln by omega), by rw [HNEW.out]; exact hJx3⟩⟩
    · obtain rfl : j = ln := by omega
      have h1 := HF.out
      have hge : ¬ ((q : Int) + (j : Int)) * 64 < (t : Int) := by omega
      have hb1 : q + j ≤ 6500000 := by omega
      clear h1 hln2
      gi_wp2
      refine ⟨rfl, _, results_none rfl _ _ _, ?_⟩
      exact ⟨⟨_, rfl⟩, .inl hJs⟩

/-- The iterator's value: three boxes. -/
def boxP (w : World) (a : Option Addr) (ln ca : Nat) (f t : Int) : World := ((w.alloc (.cells #[.slice a ln ca] 22)).alloc (.cells #[.int .i64 f] 3)).alloc (.cells #[.int .i64 t] 3)
theorem boxP_size (w : World) (a : Option Addr) (ln ca : Nat) (f t : Int) : (boxP w a ln ca f t).heap.size = w.heap.size + 3 := by simp [boxP]
theorem boxP_below (w : World) (a : Option Addr) (ln ca : Nat) (f t : Int) : Below w.heap.size w (boxP w a ln ca f t) := (((Below.refl _ w).alloc (Nat.le_refl _) _).alloc (by simp) _).alloc (by simp; omega) _
theorem boxP_cells (w : World) (a : Option Addr) (ln ca : Nat) (f t : Int) : (boxP w a ln ca f t).cell? ⟨w.heap.size, 0, Option.none⟩ = some (.slice a ln ca) ∧ (boxP w a ln ca f t).cell? ⟨w.heap.size + 1, 0, Option.none⟩ = some (.int .i64 f) ∧ (boxP w a ln ca f t).cell? ⟨w.heap.size + 2, 0, Option.none⟩ = some (.int .i64 t) := by
  have a1 := Boxed.new w 22 (.slice a ln ca)
  have a2 := Boxed.new (w.alloc (.cells #[.slice a ln ca] 22)) 3 (.int .i64 f)
  have a3 := Boxed.new ((w.alloc (.cells #[.slice a ln ca] 22)).alloc (.cells #[.int .i64 f] 3)) 3 (.int .i64 t)
  simp only [World.size_alloc] at a2 a3
  exact ⟨((a1.alloc _).alloc _).cell, (a2.alloc _).cell, a3.cell⟩
set_option maxHeartbeats 1000000 in
theorem parts_any (a : Option Addr) (ln ca : Nat) (f t : Int) (w : World) :
    Calls Tryd.prog 28 #[.slice a ln ca, .int .i64 f, .int .i64 t] w fun e w' => e = .returned (.func (.func 38) #[] #[.pointer (some ⟨w.heap.size, 0, Option.none⟩), .pointer (some ⟨w.heap.size + 1, 0, Option.none⟩), .pointer (some ⟨w.heap.size + 2, 0, Option.none⟩)]) ∧
      boxP w a ln ca f t = w' := by
  go_enter Tryd.func28, Tryd.ntmps28
  go_wp2
  go_ret
  exact ⟨rfl, rfl⟩

/-- The words come one behind the other; or a part of them, a round having said 'no more'. -/
theorem parts_stops (m n0 f t ca : Nat) (a : Option Addr) (ws : List Int) (w : World) (hu : U64 ws) (hr : RdN n0 .u64 w a ws) (hn : n0 ≤ w.heap.size) (hln : ws.length ≤ 100000) (ht : t ≤ 64 * ws.length) (hft : f ≤ t) :
    SeqStopsK Fence.wide m Tryd.prog 38 #[.pointer (some ⟨w.heap.size, 0, Option.none⟩), .pointer (some ⟨w.heap.size + 1, 0, Option.none⟩), .pointer (some ⟨w.heap.size + 2, 0, Option.none⟩)] (encJ ws f t) (Keeps n0 w.heap.size (w.heap.size + 3)) (fun ys => ys = upto id (ny f t)) (fun pre => pre <+: upto id (ny f t)) (ny f t) (boxP w a ws.length ca f t) := fun l J Jx W hW hJ hJz hY h0 => by
  obtain ⟨c1, c2, c3⟩ := boxP_cells w a ws.length ca f t
  have hs := boxP_size w a ws.length ca f t
  have hb := boxP_below w a ws.length ca f t
  exact parts1_in m l _ _ _ n0 w.heap.size (w.heap.size + 3) f t ca a ws hu hln ht hft (by omega) (by omega) (by omega) J Jx hY W (by have := hW.size; omega) (hr.keep ((hb.mono hn).trans (hW.mono (by omega)))) ((hW.cell (p := ⟨w.heap.size, 0, Option.none⟩) (by show w.heap.size < _; omega)).trans c1) ((hW.cell (p := ⟨w.heap.size + 1, 0, Option.none⟩) (by show w.heap.size + 1 < _; omega)).trans c2) ((hW.cell (p := ⟨w.heap.size + 2, 0, Option.none⟩) (by show w.heap.size + 2 < _; omega)).trans c3) h0

end Go.Proofs.YtnfjabohnjbgbaaDoor.Occ
