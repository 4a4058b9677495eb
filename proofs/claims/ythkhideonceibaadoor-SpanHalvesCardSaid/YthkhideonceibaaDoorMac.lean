/- Contracts of package occ: the words of a part, without the bits of others. Contracts of package occ: the iterator of a part's words. Contracts of package occ: Count. Contracts of package occ: Next. Contracts of package occ: Last. -/
import Derived.Test.YthkhideonceibaaDoorMab
import Derived.Stop.RegionWithIn
set_option linter.unusedSimpArgs false
set_option linter.unusedVariables false
namespace Go.Proofs.YthkhideonceibaaDoor.Occ
open Go.RowKit Go.Shelf Go.Proofs.YthkhideonceibaaDoor

theorem cut_none (x : Nat) (hx : x < 18446744073709551616) : cutN x 0 0 = x := by unfold cutN; simp; omega
set_option maxRecDepth 100000 in
set_option maxHeartbeats 1000000 in
theorem cut_core (b off Bw Bf Bt ca ln x f t k l h : Nat) (w : World) (hx : x < 18446744073709551616)
    (hcw : w.cell? ⟨Bw, 0, Option.none⟩ = some (.slice (some ⟨b, off, Option.none⟩) ln ca)) (hcf : w.cell? ⟨Bf, 0, Option.none⟩ = some (.int .i64 f)) (hct : w.cell? ⟨Bt, 0, Option.none⟩ = some (.int .i64 t))
    (hcx : w.cell? ⟨b, off + k, Option.none⟩ = some (.int .u64 x)) (hk : k < ln) (hln : ln ≤ 100000) (hf : f ≤ 6500000) (ht : t ≤ 6500000) (hl : l = f - 64 * k) (hh : h = 64 * (k + 1) - t) (hl2 : l < 64) (hh2 : h < 64) :
    Calls Tryd.prog 76 #[.int .i64 k, .pointer (some ⟨Bw, 0, Option.none⟩), .pointer (some ⟨Bf, 0, Option.none⟩), .pointer (some ⟨Bt, 0, Option.none⟩)] w fun e w' => e = .returned (.int .u64 ((cutN x l h : Nat) : Int)) ∧ w = w' := by
  obtain ⟨y, hy⟩ : ∃ y, y = x / 2 ^ l * 2 ^ l := ⟨_, rfl⟩
  obtain ⟨z, hz⟩ : ∃ z, z = y * 2 ^ h % 18446744073709551616 := ⟨_, rfl⟩
  obtain ⟨u, hu⟩ : ∃ u, u = z / 2 ^ h := ⟨_, rfl⟩
  have hyx : y ≤ x := by rw [hy]; exact Nat.div_mul_le_self _ _
  have hzl : z < 18446744073709551616 := by rw [hz]; exact Nat.mod_lt _ (by decide)
  have HC : Hid (cutN x l h = u) := Lib.hid (by unfold cutN; rw [← hy, ← hz, ← hu])
  have e1 : (x : Int) / 2 ^ l * 2 ^ l = (y : Int) := by rw [hy]; simp
  have e2 : IntKind.u64.wrap ((y : Int) * 2 ^ h) = (z : Int) := by rw [IntKind.wrap_u64, hz]; simp
  have e3 : (z : Int) / 2 ^ h = (u : Int) := by rw [hu]; simp
  rw [HC.out]
  have g1 : ((k : Int) + 1) * 64 - (t : Int) = (h : Int) ∨ h = 0 := by omega
  by_cases h1 : l = 0
  · subst h1
    have hyx2 : y = x := by rw [hy]; simp
    subst hyx2
    have g2 : ¬ (0 : Int) < (f : Int) - (k : Int) * 64 := by omega
    by_cases h2 : h = 0
    · subst h2
      have hux : u = y := by rw [hu, hz]; simp; omega
      subst hux
      have g3 : ¬ (0 : Int) < ((k : Int) + 1) * 64 - (t : Int) := by omega
      clear hy hz hu HC e1 e2 e3 hl hh g1
      go_enter Tryd.func76, Tryd.ntmps76
      go_wp2
      go_ret
      exact ⟨rfl, rfl⟩
    · have g3 : ((k : Int) + 1) * 64 - (t : Int) = (h : Int) := by omega
      have h2' : 0 < h := by omega
      clear hy hz hu HC e1 hl hh g1 h2
      go_enter Tryd.func76, Tryd.ntmps76
      go_wp2
      go_ret
      exact ⟨rfl, rfl⟩
  · have g2 : (f : Int) - (k : Int) * 64 = (l : Int) := by omega
    have h1' : 0 < l := by omega
    by_cases h2 : h = 0
    · subst h2
      have hux : u = y := by rw [hu, hz]; simp; omega
      subst hux
      have g3 : ¬ (0 : Int) < ((k : Int) + 1) * 64 - (t : Int) := by omega
      clear hy hz hu HC e2 e3 hl hh g1 h1
      go_enter Tryd.func76, Tryd.ntmps76
      go_wp2
      go_ret
      exact ⟨rfl, rfl⟩
    · have g3 : ((k : Int) + 1) * 64 - (t : Int) = (h : Int) := by omega
      have h2' : 0 < h := by omega
      clear hy hz hu HC hl hh g1 h2 h1
      go_enter Tryd.func76, Tryd.ntmps76
      go_wp2
      go_ret
      exact ⟨rfl, rfl⟩
theorem cut_any (a : Option Addr) (Bw Bf Bt ca : Nat) (ws : List Int) (f t k : Nat) (w : World) (hu : U64 ws) (hr : Rd .u64 w a ws)
    (hcw : w.cell? ⟨Bw, 0, Option.none⟩ = some (.slice a ws.length ca)) (hcf : w.cell? ⟨Bf, 0, Option.none⟩ = some (.int .i64 f)) (hct : w.cell? ⟨Bt, 0, Option.none⟩ = some (.int .i64 t))
    (hln : ws.length ≤ 100000) (ht : t ≤ 64 * ws.length) (hft : f ≤ t) (hk : 64 * k < t) (hk2 : f < 64 * (k + 1)) :
    Calls Tryd.prog 76 #[.int .i64 k, .pointer (some ⟨Bw, 0, Option.none⟩), .pointer (some ⟨Bf, 0, Option.none⟩), .pointer (some ⟨Bt, 0, Option.none⟩)] w fun e w' => e = .returned (.int .u64 ((pw ws f t k : Nat) : Int)) ∧ w = w' := by
  obtain ⟨b, off, rfl, hc⟩ := Rd.word hu hr k (by omega)
  exact cut_core b off Bw Bf Bt ca ws.length (wd ws k) f t k _ _ w (wd_of hu k) hcw hcf hct hc (by omega) hln (by omega) (by omega) rfl rfl (by omega) (by omega)

end Go.Proofs.YthkhideonceibaaDoor.Occ

namespace Go.Proofs.YthkhideonceibaaDoor.Occ
open Go.RowKit Go.Shelf Go.Proofs.YthkhideonceibaaDoor
attribute [local go_sem] Oper.semAt_some

/-- Numbers that lie below a block stay. -/
def RdN (n : Nat) (k : IntKind) (w : World) (a : Option Addr) (zs : List Int) : Prop :=
  zs = [] ∨ ∃ b off, a = some ⟨b, off, Option.none⟩ ∧ b < n ∧ ∀ i, i < zs.length → w.cell? ⟨b, off + i, Option.none⟩ = some (.int k (zs.getD i 0))
theorem RdN.of {n : Nat} {k : IntKind} {w : World} {a : Option Addr} {zs : List Int} (h : Rd k w a zs) (hn : w.heap.size ≤ n) : RdN n k w a zs := by
  rcases h with h | ⟨b, off, ha, hlt, hc⟩
  · exact .inl h
  · exact .inr ⟨b, off, ha, by omega, hc⟩
theorem RdN.keep {n : Nat} {k : IntKind} {w w1 : World} {a : Option Addr} {zs : List Int} (h : RdN n k w a zs) (hb : Below n w w1) : RdN n k w1 a zs := by
  rcases h with h | ⟨b, off, ha, hlt, hc⟩
  · exact .inl h
  · exact .inr ⟨b, off, ha, hlt, fun i hi => (hb.cell (p := ⟨b, off + i, Option.none⟩) hlt).trans (hc i hi)⟩
theorem RdN.rd {n : Nat} {k : IntKind} {w : World} {a : Option Addr} {zs : List Int} (h : RdN n k w a zs) (hn : n ≤ w.heap.size) : Rd k w a zs := by
  rcases h with h | ⟨b, off, ha, hlt, hc⟩
  · exact .inl h
  · exact .inr ⟨b, off, ha, by omega, hc⟩

/-- What a round is handed: by its number. -/
def ym (ws : List Int) (f t j : Nat) : Nat × Nat := yl ws f t (min j (ny f t))
def encP (x : Nat × Nat) : Array Value := #[.int .i64 (x.1 : Int), .int .u64 (x.2 : Int)]
def encJ (ws : List Int) (f t j : Nat) : Array Value := encP (ym ws f t j)
/-- The slots that the rounds have told. -/
def bI (ws : List Int) (f t : Nat) (l : List Nat) : List Nat := blL (l.map (ym ws f t))
theorem bI_snoc (ws : List Int) (f t : Nat) (l : List Nat) (j : Nat) : bI ws f t (l ++ [j]) = bI ws f t l ++ bl (ym ws f t j).2 (ym ws f t j).1 := by
  unfold bI; rw [List.map_append, List.map_cons, List.map_nil, blL_snoc]
theorem ym_upto (ws : List Int) (f t : Nat) : (upto id (ny f t)).map (ym ws f t) = upto (yl ws f t) (ny f t) := by
  unfold upto
  rw [List.map_map]
  apply List.map_congr_left
  intro j hj
  have := List.mem_range.1 hj
  show ym ws f t j = _
  unfold ym
  rw [Nat.min_eq_left (by omega)]
theorem bI_all (ws : List Int) (f t : Nat) (hft : f ≤ t) : bI ws f t (upto id (ny f t)) = occs ws f (t - f) := by
  unfold bI; rw [ym_upto, occs_all ws f t hft]
theorem bI_pre {ws : List Int} {f t : Nat} (hft : f ≤ t) {pre : List Nat} (h : pre <+: upto id (ny f t)) : ∃ r, occs ws f (t - f) = bI ws f t pre ++ r := by
  have h2 : pre.map (ym ws f t) <+: upto (yl ws f t) (ny f t) := by rw [← ym_upto]; exact h.map _
  exact occs_pre hft h2
theorem ym_lt {ws : List Int} (hu : U64 ws) (f t j : Nat) : (ym ws f t j).2 < 18446744073709551616 := cutN_lt _ _ _ (wd_of hu _)
theorem ym_first (ws : List Int) (f t j : Nat) (hft : f ≤ t) : (ym ws f t j).1 ≤ t + 63 := by
  show 64 * (f / 64 + min j (ny f t)) ≤ t + 63
  unfold ny; omega
theorem bI_length {ws : List Int} {f t : Nat} (l : List Nat) : (bI ws f t l).length ≤ 64 * l.length := by
  induction l with
  | nil => exact Nat.zero_le _
  | cons j l ih =>
    show (bl (ym ws f t j).2 (ym ws f t j).1 ++ bI ws f t l).length ≤ _
    rw [List.length_append, List.length_cons]
    have : (bl (ym ws f t j).2 (ym ws f t j).1).length ≤ 64 := by
      unfold bl; rw [List.length_map]
      have := List.length_filter_le (fun i => (ym ws f t j).2.testBit i) (List.range 64)
      rwa [List.length_range] at this
    omega

set_option maxRecDepth 100000 in
set_option maxHeartbeats 2000000 in
theorem parts1_in (m l Bw Bf Bt n0 lo hi f t ca : Nat) (a : Option Addr) (ws : List Int) (hu : U64 ws) (hln : ws.length ≤ 100000) (ht : t ≤ 64 * ws.length) (hft : f ≤ t) (b1 : lo ≤ Bw ∧ Bw < hi) (b2 : lo ≤ Bf ∧ Bf < hi) (b3 : lo ≤ Bt ∧ Bt < hi) (J Jx : List Nat → World → Prop)
    (hY : ∀ pre x W, J pre W → pre.length < ny f t → YieldAt Fence.wide (m - 1) Tryd.prog l (encJ ws f t x) W fun e W' =>
      (e = .returned (.bool true) ∧ J (pre ++ [x]) W' ∧ Keeps n0 lo hi W W') ∨ (e = .returned (.bool false) ∧ Jx (pre ++ [x]) W'))
    (W : World) (hnz : n0 ≤ W.heap.size) (hrw : RdN n0 .u64 W a ws) (hcw : W.cell? ⟨Bw, 0, Option.none⟩ = some (.slice a ws.length ca)) (hcf : W.cell? ⟨Bf, 0, Option.none⟩ = some (.int .i64 f)) (hct : W.cell? ⟨Bt, 0, Option.none⟩ = some (.int .i64 t)) (h0 : J [] W) :
    CallsIn Fence.wide m Tryd.prog 75 #[.func (.yield l) #[] #[], .pointer (some ⟨Bw, 0, Option.none⟩), .pointer (some ⟨Bf, 0, Option.none⟩), .pointer (some ⟨Bt, 0, Option.none⟩)] W fun e W' => (∃ v, e = .returned v) ∧
      ((∃ ys, ys = upto id (ny f t) ∧ J ys W') ∨ (∃ pre, pre <+: upto id (ny f t) ∧ Jx pre W')) := by
  have hd : (f : Int) / 64 = ((f / 64 : Nat) : Int) := rfl
  have HU := Lib.hid hu
  have HRW := Lib.hid hrw
  have HNY : Hid (ny f t = (t + 63) / 64 - f / 64) := Lib.hid rfl
  have HF : Hid (64 * (f / 64) ≤ f ∧ f < 64 * (f / 64) + 64) := Lib.hid (by omega)
  have HYL : Hid (∀ j, j < ny f t → encJ ws f t j = encP (64 * (f / 64 + j), pw ws f t (f / 64 + j))) := Lib.hid (fun j hj => by unfold encJ ym; rw [Nat.min_eq_left (by omega)]; rfl)
  have HNY2 : Hid (ny f t = (t + 63) / 64 - f / 64) := Lib.hid rfl
  clear hu hrw
  generalize ny f t = ln at *
  generalize hq : f / 64 = q at *
  clear hq
  refine callsIn_of_wp Tryd.func75 rfl trivial ?_ rfl
  simp only [Tryd.ntmps75, List.size_toArray, List.length_cons, List.length_nil, Nat.reduceAdd, Nat.reduceSub, Array.replicate_succ, Array.replicate_zero, List.push_toArray, List.append_toArray, List.nil_append, List.cons_append]
  gi_wp2
  gi_loopw [6] (fun i wr => ∃ j : Nat, j ≤ ln ∧ i = .int .i64 ((q : Int) + (j : Int)) ∧ J (upto id j) wr ∧ RdN n0 .u64 wr a ws ∧ n0 ≤ wr.heap.size ∧ (∀ b o, lo ≤ b → b < hi → wr.cell? ⟨b, o, Option.none⟩ = W.cell? ⟨b, o, Option.none⟩)) (fun i _ => q + ln - (intOf i).toNat)
  case atStart => exact ⟨0, Nat.zero_le _, by go_num, h0, HRW.out, hnz, fun _ _ _ _ => rfl⟩
  case round =>
    obtain ⟨j, hj, rfl, hJs, hrd, hwz, hsame⟩ := hrel
    have c1 := (hsame Bw 0 b1.1 b1.2).trans hcw
    have c2 := (hsame Bf 0 b2.1 b2.2).trans hcf
    have c3 := (hsame Bt 0 b3.1 b3.2).trans hct
    have HS := Lib.hid hsame
    have HRD := Lib.hid hrd
    clear hrd hsame
    have hln2 := HNY.out
    by_cases hlt : j < ln
    · have h1 := HF.out
      have hlt2 : ((q : Int) + (j : Int)) * 64 < (t : Int) := by omega
      have HCUT := Lib.hid (cut_any a Bw Bf Bt ca ws f t (q + j) wr HU.out (HRD.out.rd hwz) c1 c2 c3 hln ht hft (by omega) (by omega))
      rw [Int.natCast_add] at HCUT
      obtain ⟨fn, tmps, assign, body, hy, hR⟩ := hY _ j wr hJs (by rw [upto_length]; exact hlt)
      rw [HYL.out j hlt] at hy
      dsimp only [encP] at hy
      have hpl : ((64 * (q + j) : Nat) : Int) = ((q : Int) + (j : Int)) * 64 := by omega
      rw [hpl] at hy
      have HNEW : Hid (upto id (j + 1) = upto id j ++ [j]) := Lib.hid (upto_succ _ _)
      have hb1 : q + j ≤ 6500000 := by omega
      have HL2 := Lib.hid hln2
      clear hpl h1 hln2
      generalize pw ws f t (q + j) = x at *
      gi_wp2_with fail
      refine ⟨trivial, fun h => (by cases h), (callsIn_wide.2 HCUT.out).mono ?_⟩
      rintro e w1 ⟨rfl, rfl⟩
      gi_wp2_with fail
      refine ⟨fun h => (by cases h), hR.mono ?_⟩
      rintro e W3 (⟨rfl, hJ3, hk3⟩ | ⟨rfl, hJx3⟩)
      · gi_wp2
        go_roundw
        case rel => exact ⟨j + 1, by omega, by go_num, by rw [HNEW.out]; exact hJ3, HRD.out.keep hk3.below, Nat.le_trans hwz hk3.below.size, fun b o h1 h2 => (hk3.cell h1 h2).trans (HS.out b o h1 h2)⟩
        case measure => simp [intOf]; omega
      · gi_wp2
        refine bodyPost_ret (results_none rfl _ _ _) rfl ?_
        exact ⟨⟨_, rfl⟩, .inr ⟨_, upto_prefix _ (show j + 1 ≤ ln by omega), by rw [HNEW.out]; exact hJx3⟩⟩
    · obtain rfl : j = ln := by omega
      have h1 := HF.out
      have hge : ¬ ((q : Int) + (j : Int)) * 64 < (t : Int) := by omega
      have hb1 : q + j ≤ 6500000 := by omega
      clear h1 hln2
      gi_wp2
      refine ⟨rfl, _, results_none rfl _ _ _, ?_⟩
      exact ⟨⟨_, rfl⟩, .inl hJs⟩

/-- The iterator's value: three boxes. -/
def boxP (w : World) (a : Option Addr) (ln ca : Nat) (f t : Int) : World := ((w.alloc (.cells #[.slice a ln ca] 22)).alloc (.cells #[.int .i64 f] 3)).alloc (.cells #[.int .i64 t] 3)
theorem boxP_size (w : World) (a : Option Addr) (ln ca : Nat) (f t : Int) : (boxP w a ln ca f t).heap.size = w.heap.size + 3 := by simp [boxP]
theorem boxP_below (w : World) (a : Option Addr) (ln ca : Nat) (f t : Int) : Below w.heap.size w (boxP w a ln ca f t) := (((Below.refl _ w).alloc (Nat.le_refl _) _).alloc (by simp) _).alloc (by simp; omega) _
theorem boxP_cells (w : World) (a : Option Addr) (ln ca : Nat) (f t : Int) : (boxP w a ln ca f t).cell? ⟨w.heap.size, 0, Option.none⟩ = some (.slice a ln ca) ∧ (boxP w a ln ca f t).cell? ⟨w.heap.size + 1, 0, Option.none⟩ = some (.int .i64 f) ∧ (boxP w a ln ca f t).cell? ⟨w.heap.size + 2, 0, Option.none⟩ = some (.int .i64 t) := by
  have a1 := Boxed.new w 22 (.slice a ln ca)
  have a2 := Boxed.new (w.alloc (.cells #[.slice a ln ca] 22)) 3 (.int .i64 f)
  have a3 := Boxed.new ((w.alloc (.cells #[.slice a ln ca] 22)).alloc (.cells #[.int .i64 f] 3)) 3 (.int .i64 t)
  simp only [World.size_alloc] at a2 a3
  exact ⟨((a1.alloc _).alloc _).cell, (a2.alloc _).cell, a3.cell⟩
set_option maxHeartbeats 1000000 in
theorem parts_any (a : Option Addr) (ln ca : Nat) (f t : Int) (w : World) :
    Calls Tryd.prog 58 #[.slice a ln ca, .int .i64 f, .int .i64 t] w fun e w' => e = .returned (.func (.func 75) #[] #[.pointer (some ⟨w.heap.size, 0, Option.none⟩), .pointer (some ⟨w.heap.size + 1, 0, Option.none⟩), .pointer (some ⟨w.heap.size + 2, 0, Option.none⟩)]) ∧
      boxP w a ln ca f t = w' := by
  go_enter Tryd.func58, Tryd.ntmps58
  go_wp2
  go_ret
  exact ⟨rfl, rfl⟩

/-- The words come one behind the other; or a part of them, a round having said 'no more'. -/
theorem parts_stops (m n0 f t ca : Nat) (a : Option Addr) (ws : List Int) (w : World) (hu : U64 ws) (hr : RdN n0 .u64 w a ws) (hn : n0 ≤ w.heap.size) (hln : ws.length ≤ 100000) (ht : t ≤ 64 * ws.length) (hft : f ≤ t) :
    SeqStopsK Fence.wide m Tryd.prog 75 #[.pointer (some ⟨w.heap.size, 0, Option.none⟩), .pointer (some ⟨w.heap.size + 1, 0, Option.none⟩), .pointer (some ⟨w.heap.size + 2, 0, Option.none⟩)] (encJ ws f t) (Keeps n0 w.heap.size (w.heap.size + 3)) (fun ys => ys = upto id (ny f t)) (fun pre => pre <+: upto id (ny f t)) (ny f t) (boxP w a ws.length ca f t) := fun l J Jx W hW hJ hJz hY h0 => by
  obtain ⟨c1, c2, c3⟩ := boxP_cells w a ws.length ca f t
  have hs := boxP_size w a ws.length ca f t
  have hb := boxP_below w a ws.length ca f t
  exact parts1_in m l _ _ _ n0 w.heap.size (w.heap.size + 3) f t ca a ws hu hln ht hft (by omega) (by omega) (by omega) J Jx hY W (by have := hW.size; omega) (hr.keep ((hb.mono hn).trans (hW.mono (by omega)))) ((hW.cell (p := ⟨w.heap.size, 0, Option.none⟩) (by show w.heap.size < _; omega)).trans c1) ((hW.cell (p := ⟨w.heap.size + 1, 0, Option.none⟩) (by show w.heap.size + 1 < _; omega)).trans c2) ((hW.cell (p := ⟨w.heap.size + 2, 0, Option.none⟩) (by show w.heap.size + 2 < _; omega)).trans c3) h0

end Go.Proofs.YthkhideonceibaaDoor.Occ

namespace Go.Proofs.YthkhideonceibaaDoor.Occ
open Go.RowKit Go.Shelf Go.Proofs.YthkhideonceibaaDoor
attribute [local go_sem] Oper.semAt_some

set_option maxRecDepth 100000 in
set_option maxHeartbeats 2000000 in
theorem count_ok (a : Option Addr) (ca : Nat) (ws : List Int) (m f t : Nat) (w : World) (hu : U64 ws) (hr : Rd .u64 w a ws) (hl : ws.length ≤ 100000) (hv : askV ws m (inB m f t) = 0) :
    Calls Tryd.prog 49 #[.slice a ws.length ca, .int .i64 m, .int .i64 f, .int .i64 t] w fun e w' => e = .returned (.tuple #[.int .i64 ((occs ws f (t - f)).length : Int), .int .i64 0]) ∧ Below w.heap.size w w' := by
  obtain ⟨hc, hb⟩ := askV_ok hv
  obtain ⟨m', hm', hm, hlen, _⟩ := chkV_ok hc
  obtain rfl : m = m' := Int.ofNat_inj.1 hm'
  obtain ⟨h0, h1, h2⟩ := inB_iff.1 hb
  have hft : f ≤ t := by omega
  have htl : t ≤ 64 * ws.length := by omega
  have hb0 : Below w.heap.size w (w.alloc (.cells #[.int .i64 0] 3)) := (Below.refl _ w).alloc (Nat.le_refl _) _
  have HA := Lib.hid (asked_any a ca ws m true (w.alloc (.cells #[.int .i64 0] 3)) hu (hr.mono hb0 (Nat.le_refl _)) hl)
  rw [hb] at hv
  rw [hv] at HA
  have HU := Lib.hid hu
  have HR := Lib.hid hr
  have HALL := Lib.hid (bI_all ws f t hft)
  have HNY : Hid (ny f t ≤ 100001) := Lib.hid (by unfold ny; omega)
  have hm2 : (f : Int) ≤ (t : Int) := by omega
  have hm3 : (t : Int) ≤ (m : Int) := h2
  clear hu hr hc hb hlen hv hm' h0 h1 h2
  refine (callsIn_wide (n := 2)).1 ?_
  refine callsIn_of_wp_marks Tryd.func49 rfl trivial ?_ rfl
  simp only [Tryd.ntmps49, List.size_toArray, List.length_cons, List.length_nil, Nat.reduceAdd, Nat.reduceSub, Array.replicate_succ, Array.replicate_zero, List.push_toArray, List.append_toArray, List.nil_append, List.cons_append]
  gi_wp2_with fail
  refine ⟨trivial, (callsIn_wide.2 HA.out).mono ?_⟩
  rintro e w' ⟨rfl, rfl⟩
  gi_wp2_with fail
  refine ⟨trivial, (callsIn_wide.2 (parts_any _ _ _ _ _ _)).mono ?_⟩
  rintro e w' ⟨rfl, rfl⟩
  have bM := Boxed.new w 3 (.int .i64 0)
  have hw2 : (w.alloc (.cells #[.int .i64 0] 3)).heap.size = w.heap.size + 1 := by simp
  generalize w.alloc (.cells #[.int .i64 0] 3) = w2 at *
  have hst := parts_stops 1 w.heap.size f t ca a ws w2 HU.out ((RdN.of HR.out (Nat.le_refl _)).keep hb0) (by omega) hl htl hft
  have hs := boxP_size w2 a ws.length ca f t
  have hbx := boxP_below w2 a ws.length ca f t
  have HW2 := Lib.hid hw2
  have HS := Lib.hid hs
  clear hw2 hs
  gi_wp2_with fail
  have hw2 : w2.heap.size ≤ w.heap.size + 1 ∧ w.heap.size + 1 ≤ w2.heap.size := by have := HW2.out; omega
  have hs : (boxP w2 a ws.length ca f t).heap.size ≤ w2.heap.size + 3 ∧ w2.heap.size + 3 ≤ (boxP w2 a ws.length ca f t).heap.size := by have := HS.out; omega
  have bM := bM.kept (grown0 hbx) (by simp)
  have hB3 := hb0.trans (hbx.mono (by omega))
  generalize boxP w2 a ws.length ca f t = w3 at *
  have hKE := Keeps.b (n0 := w.heap.size) (lo := w2.heap.size) (hi := w2.heap.size + 3) (w := w3) (by omega) (by omega)
  refine rangeFunc_put (fun j => [(35, .int .i64 ((ym ws f t j).1 : Int)), (36, .int .u64 ((ym ws f t j).2 : Int)), (12, .int .u64 ((ym ws f t j).2 : Int))]) rfl (by decide) (gf := 75) (lb := #[.pointer (some ⟨w2.heap.size, 0, Option.none⟩), .pointer (some ⟨w2.heap.size + 1, 0, Option.none⟩), .pointer (some ⟨w2.heap.size + 2, 0, Option.none⟩)]) rfl trivial (enters_of Tryd.func75 (by kernel_rfl) rfl) hst Keeps.t hKE (Below.refl _ _) (fun _ => rfl)
    (fun pre W => (W.cell? ⟨w.heap.size, 0, Option.none⟩ = some (.int .i64 (((bI ws f t pre).length : Nat) : Int)) ∧ W.frozen? ⟨w.heap.size, 0, Option.none⟩ = false) ∧ Below w.heap.size w W)
    (fun c pre W => False ∧ Below w.heap.size w W)
    (OwnFrom.and (Own.from (fun s A B row hs hg hr => ⟨cell_kept hs.1 hg hr, (frozen_kept hs.1 hg hr).trans hs.2⟩) _) (ownFrom_below (Nat.le_refl _) (by omega)))
    (fun c => OwnFrom.and (Own.from (fun s A B row hs hg hr => hs) _) (ownFrom_below (Nat.le_refl _) (by omega)))
    ⟨⟨bM.cell, bM.frozen⟩, hB3⟩ ?assign ?body ?done ?stop
  case assign =>
    intro l x W K hK
    dsimp only [encJ, encP]
    gi_wp2
    exact hK
  case body =>
    rintro l pre j W ⟨⟨hc, hf⟩, hB⟩ hN
    have hlt := ym_lt HU.out f t j
    have HSN := Lib.hid (bI_snoc ws f t pre j)
    have HBL := Lib.hid (bl_length (ym ws f t j).2 (ym ws f t j).1)
    have hbn := bI_length (ws := ws) (f := f) (t := t) pre
    have hny := HNY.out
    have hpop : popN (ym ws f t j).2 ≤ 64 := by
      have := HBL.out
      unfold bl at this; rw [List.length_map] at this
      have h3 := List.length_filter_le (fun i => (ym ws f t j).2.testBit i) (List.range 64)
      rw [List.length_range] at h3
      unfold popN; omega
    have HO := Lib.hid (fun w => OnesCount_any (ym ws f t j).2 w hlt)
    have hnew : ((bI ws f t (pre ++ [j])).length : Int) = ((bI ws f t pre).length : Int) + (popN (ym ws f t j).2 : Int) := by
      rw [HSN.out, List.length_append, HBL.out]; unfold popN; omega
    have HNEW := Lib.hid hnew
    clear hnew
    generalize (bI ws f t pre).length = cn at *
    generalize (ym ws f t j).2 = x at *
    generalize (ym ws f t j).1 = fi at *
    generalize popN x = p at *
    have hcn : cn ≤ 6500000 := by omega
    have hwr : IntKind.i64.wrap ((cn : Int) + (p : Int)) = (cn : Int) + (p : Int) := by rw [IntKind.wrap_i64]; omega
    clear hbn hny
    gi_wp2
    gi_region_with (first | (refine ⟨trivial, rfl, (CallsIn.inRound l (callsIn_wide.2 (HO.out _))).mono ?_⟩; rintro e w1 ⟨rfl, rfl⟩))
    all_goals
      gi_wp2
      have hk1 : Keeps w.heap.size w2.heap.size (w2.heap.size + 3) W (W.setCell ⟨w.heap.size, 0, Option.none⟩ (.int .i64 ((cn : Int) + (p : Int)))) := (Keeps.refl _ _ _ W).setCell _ (by simp) (by simp; omega) _
      refine ⟨((KeepsOthers.setCell _ _ _).trans (KeepsOthers.drew _)).from _, hk1.t ⟨(Below.refl _ _).drew, fun _ _ _ => rfl⟩, ⟨⟨?_, ?_⟩, (hB.setCell (by simp) _).drew⟩⟩
      · rw [cell_drew_own, World.cell?_setCell_same' _ _ _ (by rw [hc]; rfl), HNEW.out]
      · rw [frozen_drew_own, World.frozen?_setCell]; exact hf
  case done =>
    rintro D ys W hD rfl ⟨⟨hc, hf⟩, hB⟩ hK
    rw [HALL.out] at hc
    obtain ⟨cn, hcn⟩ : ∃ cn, cn = (occs ws f (t - f)).length := ⟨_, rfl⟩
    rw [← hcn] at hc
    have HCN := Lib.hid hcn
    clear hcn
    gi_wp2
    have hK' := (KeepsOthers.setCell W ⟨w.heap.size, 0, Option.none⟩ (.int .i64 cn)).same D _ hK rfl
    refine ⟨by simp, .inl ⟨_, _, rfl, run_takeDeferred hK', ?_⟩⟩
    have hc5 := cell_kept (World.cell?_setCell_same' W ⟨w.heap.size, 0, Option.none⟩ (.int .i64 cn) (by rw [hc]; rfl)) (grownBy_putObj' _ D (.deferred Option.none)) (fun r e => by cases e; exact ⟨_, hK', rfl⟩)
    refine ⟨.tuple #[.int .i64 cn, .int .i64 0], by simp [results, Tryd.results49, go_sem, hc5], by rw [HCN.out], ?_⟩
    exact (hB.setCell (by simp) _).trans (belowK_b (w := w) (Nat.le_refl _) _ D _ _ (by omega) hK' rfl rfl)
  case stop =>
    rintro D c pre W hD hpre ⟨h, hB⟩ hK
    exact h.elim

set_option maxRecDepth 100000 in
set_option maxHeartbeats 1000000 in
theorem Count_any (a : Option Addr) (ca : Nat) (ws : List Int) (n f t : Int) (w : World) (hu : U64 ws) (hr : Rd .u64 w a ws) (hl : ws.length ≤ 100000) :
    Calls Tryd.prog 49 #[.slice a ws.length ca, .int .i64 n, .int .i64 f, .int .i64 t] w fun e w' => e = .returned (.tuple #[.int .i64 (cntV ws n f t).1, .int .i64 (cntV ws n f t).2]) ∧ Below w.heap.size w w' := by
  by_cases hv : askV ws n (inB n f t) = 0
  · obtain ⟨hc, hb⟩ := askV_ok hv
    obtain ⟨m, rfl, hm, hlen, _⟩ := chkV_ok hc
    obtain ⟨h0, h1, h2⟩ := inB_iff.1 hb
    obtain ⟨f, rfl⟩ := Int.eq_ofNat_of_zero_le h0
    obtain ⟨t, rfl⟩ := Int.eq_ofNat_of_zero_le (show 0 ≤ t by omega)
    rw [show cntV ws (m : Int) (f : Int) (t : Int) = (((occs ws f (t - f)).length : Int), 0) by unfold cntV; rw [if_pos hv, Int.toNat_natCast, show ((t : Int) - (f : Int)).toNat = t - f by omega]]
    exact count_ok a ca ws m f t w hu hr hl hv
  · rw [show cntV ws n f t = (0, askV ws n (inB n f t)) from if_neg hv]
    have hb0 : Below w.heap.size w (w.alloc (.cells #[.int .i64 0] 3)) := (Below.refl _ w).alloc (Nat.le_refl _) _
    have HA1 := Lib.hid (asked_any a ca ws n (inB n f t) (w.alloc (.cells #[.int .i64 0] 3)) hu (hr.mono hb0 (Nat.le_refl _)) hl)
    have HB0 := Lib.hid hb0
    generalize hc : askV ws n (inB n f t) = c at *
    clear hu hr hc hb0
    by_cases h0 : 0 ≤ f
    · by_cases h1 : f ≤ t
      · by_cases h2 : t ≤ n
        · rw [inB_iff.2 ⟨h0, h1, h2⟩] at HA1
          go_enter Tryd.func49, Tryd.ntmps49
          go_wp2_with fail
          refine HA1.out.mono ?_
          rintro e w' ⟨rfl, rfl⟩
          go_wp2
          exact bodyPost_ret (v := .tuple #[.int .i64 0, .int .i64 c]) (by simp [results, Tryd.results49, go_sem]) rfl ⟨rfl, HB0.out⟩
        · rw [show inB n f t = false by rw [Bool.eq_false_iff]; exact fun g => h2 (inB_iff.1 g).2.2] at HA1
          go_enter Tryd.func49, Tryd.ntmps49
          go_wp2_with fail
          refine HA1.out.mono ?_
          rintro e w' ⟨rfl, rfl⟩
          go_wp2
          exact bodyPost_ret (v := .tuple #[.int .i64 0, .int .i64 c]) (by simp [results, Tryd.results49, go_sem]) rfl ⟨rfl, HB0.out⟩
      · rw [show inB n f t = false by rw [Bool.eq_false_iff]; exact fun g => h1 (inB_iff.1 g).2.1] at HA1
        go_enter Tryd.func49, Tryd.ntmps49
        go_wp2_with fail
        refine HA1.out.mono ?_
        rintro e w' ⟨rfl, rfl⟩
        go_wp2
        exact bodyPost_ret (v := .tuple #[.int .i64 0, .int .i64 c]) (by simp [results, Tryd.results49, go_sem]) rfl ⟨rfl, HB0.out⟩
    · rw [show inB n f t = false by rw [Bool.eq_false_iff]; exact fun g => h0 (inB_iff.1 g).1] at HA1
      go_enter Tryd.func49, Tryd.ntmps49
      go_wp2_with fail
      refine HA1.out.mono ?_
      rintro e w' ⟨rfl, rfl⟩
      go_wp2
      exact bodyPost_ret (v := .tuple #[.int .i64 0, .int .i64 c]) (by simp [results, Tryd.results49, go_sem]) rfl ⟨rfl, HB0.out⟩

end Go.Proofs.YthkhideonceibaaDoor.Occ

namespace Go.Proofs.YthkhideonceibaaDoor.Occ
open Go.RowKit Go.Shelf Go.Proofs.YthkhideonceibaaDoor
attribute [local go_sem] Oper.semAt_some

theorem firstV_cons (x : Nat) (l : List Nat) : firstV (x :: l) = ((x : Int), 0) := by unfold firstV; simp
theorem ctz_le (x : Nat) (h0 : x ≠ 0) (hx : x < 18446744073709551616) : Lib.ctz 64 x < 64 := (Lib.lowest_bit 64 x h0 hx).2
theorem bl_nil {x f : Nat} (hx : x < 18446744073709551616) (h : bl x f = []) : x = 0 := by
  by_cases h0 : x = 0
  · exact h0
  · rw [bl_head x f h0 hx] at h; cases h

/-- A round has said 'no more': the first slot has been found. -/
def NextAt (ws : List Int) (f m n0 : Nat) (c : Code) (pre : List Nat) (W : World) : Prop :=
  ∃ ini j, pre = ini ++ [j] ∧ bI ws f m ini = [] ∧ (ym ws f m j).2 ≠ 0 ∧ c = .ret ∧ W.cell? ⟨n0, 0, Option.none⟩ = some (.int .i64 (((ym ws f m j).1 + Lib.ctz 64 (ym ws f m j).2 : Nat) : Int)) ∧ W.cell? ⟨n0 + 1, 0, Option.none⟩ = some (.int .i64 0)

set_option maxRecDepth 100000 in
set_option maxHeartbeats 2000000 in
theorem next_ok (a : Option Addr) (ca : Nat) (ws : List Int) (m f : Nat) (w : World) (hT : Tab w) (hu : U64 ws) (hr : Rd .u64 w a ws) (hl : ws.length ≤ 100000) (hv : askV ws m (upB m f) = 0) :
    Calls Tryd.prog 46 #[.slice a ws.length ca, .int .i64 m, .int .i64 f] w fun e w' => e = .returned (.tuple #[.int .i64 (firstV (occs ws f (m - f))).1, .int .i64 (firstV (occs ws f (m - f))).2]) ∧ Below w.heap.size w w' := by
  obtain ⟨hc, hb⟩ := askV_ok hv
  obtain ⟨m', hm', hm, hlen, _⟩ := chkV_ok hc
  obtain rfl : m = m' := Int.ofNat_inj.1 hm'
  obtain ⟨h0, h1⟩ := upB_iff.1 hb
  have hft : f ≤ m := by omega
  have htl : m ≤ 64 * ws.length := by omega
  have hb0 : Below w.heap.size w ((w.alloc (.cells #[.int .i64 0] 3)).alloc (.cells #[.int .i64 0] 31)) := ((Below.refl _ w).alloc (Nat.le_refl _) _).alloc (by simp) _
  have HA := Lib.hid (asked_any a ca ws m true ((w.alloc (.cells #[.int .i64 0] 3)).alloc (.cells #[.int .i64 0] 31)) hu (hr.mono hb0 (Nat.le_refl _)) hl)
  rw [hb] at hv
  rw [hv] at HA
  have HT := Lib.hid hT
  have HU := Lib.hid hu
  have HR := Lib.hid hr
  have HALL := Lib.hid (bI_all ws f m hft)
  have HFT := Lib.hid hft
  have hm2 : (f : Int) ≤ (m : Int) := by omega
  clear hu hr hc hb hlen hv hm' h0 h1 hT
  refine (callsIn_wide (n := 2)).1 ?_
  refine callsIn_of_wp_marks Tryd.func46 rfl trivial ?_ rfl
  simp only [Tryd.ntmps46, List.size_toArray, List.length_cons, List.length_nil, Nat.reduceAdd, Nat.reduceSub, Array.replicate_succ, Array.replicate_zero, List.push_toArray, List.append_toArray, List.nil_append, List.cons_append]
  gi_wp2_with fail
  refine ⟨trivial, (callsIn_wide.2 HA.out).mono ?_⟩
  rintro e w' ⟨rfl, rfl⟩
  gi_wp2_with fail
  refine ⟨trivial, (callsIn_wide.2 (parts_any _ _ _ _ _ _)).mono ?_⟩
  rintro e w' ⟨rfl, rfl⟩
  have bY := (Boxed.new w 3 (.int .i64 0)).alloc (.cells #[.int .i64 0] 31)
  have bM := Boxed.new (w.alloc (.cells #[.int .i64 0] 3)) 31 (.int .i64 0)
  rw [World.size_alloc] at bM
  have hw2 : ((w.alloc (.cells #[.int .i64 0] 3)).alloc (.cells #[.int .i64 0] 31)).heap.size = w.heap.size + 2 := by simp
  generalize (w.alloc (.cells #[.int .i64 0] 3)).alloc (.cells #[.int .i64 0] 31) = w2 at *
  have hst := parts_stops 1 w.heap.size f m ca a ws w2 HU.out ((RdN.of HR.out (Nat.le_refl _)).keep hb0) (by omega) hl htl hft
  have hs := boxP_size w2 a ws.length ca f m
  have hbx := boxP_below w2 a ws.length ca f m
  have HW2 := Lib.hid hw2
  have HS := Lib.hid hs
  clear hw2 hs
  gi_wp2_with fail
  have hw2 : w2.heap.size ≤ w.heap.size + 2 ∧ w.heap.size + 2 ≤ w2.heap.size := by have := HW2.out; omega
  have hs : (boxP w2 a ws.length ca f m).heap.size ≤ w2.heap.size + 3 ∧ w2.heap.size + 3 ≤ (boxP w2 a ws.length ca f m).heap.size := by have := HS.out; omega
  have bY := bY.kept (grown0 hbx) (by simp)
  have bM := bM.kept (grown0 hbx) (by simp)
  have hB3 := hb0.trans (hbx.mono (by omega))
  generalize boxP w2 a ws.length ca f m = w3 at *
  have hKE := Keeps.b (n0 := w.heap.size) (lo := w2.heap.size) (hi := w2.heap.size + 3) (w := w3) (by omega) (by omega)
  refine rangeFunc_put (fun j => [(28, .int .i64 ((ym ws f m j).1 : Int)), (29, .int .u64 ((ym ws f m j).2 : Int)), (9, .int .i64 ((ym ws f m j).1 : Int)), (10, .int .u64 ((ym ws f m j).2 : Int))]) rfl (by decide) (gf := 75) (lb := #[.pointer (some ⟨w2.heap.size, 0, Option.none⟩), .pointer (some ⟨w2.heap.size + 1, 0, Option.none⟩), .pointer (some ⟨w2.heap.size + 2, 0, Option.none⟩)]) rfl trivial (enters_of Tryd.func75 (by kernel_rfl) rfl) hst Keeps.t hKE (Below.refl _ _) (fun _ => rfl)
    (fun pre W => (W.cell? ⟨w.heap.size, 0, Option.none⟩ = some (.int .i64 0) ∧ W.frozen? ⟨w.heap.size, 0, Option.none⟩ = false ∧ W.cell? ⟨w.heap.size + 1, 0, Option.none⟩ = some (.int .i64 0) ∧ W.frozen? ⟨w.heap.size + 1, 0, Option.none⟩ = false ∧ bI ws f m pre = []) ∧ Below w.heap.size w W)
    (fun c pre W => NextAt ws f m w.heap.size c pre W ∧ Below w.heap.size w W)
    (OwnFrom.and (Own.from (fun s A B row hs hg hr => ⟨cell_kept hs.1 hg hr, (frozen_kept hs.1 hg hr).trans hs.2.1, cell_kept hs.2.2.1 hg hr, (frozen_kept hs.2.2.1 hg hr).trans hs.2.2.2.1, hs.2.2.2.2⟩) _) (ownFrom_below (Nat.le_refl _) (by omega)))
    (fun c => OwnFrom.and (Own.from (fun s A B row hs hg hr => by obtain ⟨ini, j, e1, e2, e3, e4, e5, e6⟩ := hs; exact ⟨ini, j, e1, e2, e3, e4, cell_kept e5 hg hr, cell_kept e6 hg hr⟩) _) (ownFrom_below (Nat.le_refl _) (by omega)))
    ⟨⟨bY.cell, bY.frozen, bM.cell, bM.frozen, rfl⟩, hB3⟩ ?assign ?body ?done ?stop
  case assign =>
    intro l x W K hK
    dsimp only [encJ, encP]
    gi_wp2
    exact hK
  case body =>
    rintro l pre j W ⟨⟨hc, hf, hc2, hf2, hpre⟩, hB⟩ hN
    have hlt := ym_lt HU.out f m j
    have hfi := ym_first ws f m j hft
    have HSN := Lib.hid (bI_snoc ws f m pre j)
    have HP := Lib.hid hpre
    have HTZ := Lib.hid (Trailing_any (ym ws f m j).2 W hlt (HT.out.mono hB))
    have HCZ := Lib.hid (ctz_le (ym ws f m j).2 · hlt)
    have HIX : Hid (∀ W' : World, (ym ws f m j).2 ≠ 0 → W'.cell? ⟨w.heap.size, 0, Option.none⟩ = some (.int .i64 (((ym ws f m j).1 + Lib.ctz 64 (ym ws f m j).2 : Nat) : Int)) → W'.cell? ⟨w.heap.size + 1, 0, Option.none⟩ = some (.int .i64 0) → NextAt ws f m w.heap.size .ret (pre ++ [j]) W') := Lib.hid (fun W' h1 h2 h3 => ⟨pre, j, rfl, hpre, h1, rfl, h2, h3⟩)
    clear hpre
    generalize (ym ws f m j).2 = x at *
    generalize (ym ws f m j).1 = fi at *
    by_cases hx : x = 0
    · subst hx
      have HNIL : Hid (bI ws f m (pre ++ [j]) = []) := Lib.hid (by rw [HSN.out, HP.out, bl_zero]; rfl)
      gi_wp2
      exact ⟨KeepsFrom.refl _ _, Keeps.refl _ _ _ _, ⟨⟨hc, hf, hc2, hf2, HNIL.out⟩, hB⟩⟩
    · have hz := HCZ.out hx
      have hx2 : ((x : Int) != 0) = true := by rw [bne_iff_ne]; omega
      have HXX := Lib.hid hx
      generalize Lib.ctz 64 x = z at *
      clear hx
      gi_wp2_with fail
      refine ⟨trivial, rfl, (CallsIn.inRound l (callsIn_wide.2 HTZ.out)).mono ?_⟩
      rintro e w1 ⟨rfl, rfl⟩
      gi_wp2
      refine ⟨((KeepsOthers.setCell _ _ _).trans (KeepsOthers.setCell _ _ _)).from _, HIX.out _ HXX.out ?_ ?_, (hB.setCell (by simp) _).setCell (by simp) _⟩
      · rw [World.cell?_setCell_other _ _ _ _ (by simp), World.cell?_setCell_same' _ _ _ (by rw [hc]; rfl)]; simp
      · rw [World.cell?_setCell_same' _ _ _ (by rw [World.cell?_setCell_other _ _ _ _ (by simp), hc2]; rfl)]
  case done =>
    rintro D ys W hD rfl ⟨⟨hc, hf, hc2, hf2, hnil⟩, hB⟩ hK
    rw [HALL.out] at hnil
    have HN := Lib.hid hnil
    clear hnil
    gi_wp2
    have hK' := (KeepsOthers.setCell _ ⟨w.heap.size + 1, 0, Option.none⟩ (.int .i64 6)).same D _ ((KeepsOthers.setCell W ⟨w.heap.size, 0, Option.none⟩ (.int .i64 0)).same D _ hK rfl) rfl
    refine ⟨by simp, .inl ⟨_, _, rfl, run_takeDeferred hK', ?_⟩⟩
    have hc4 : ((W.setCell ⟨w.heap.size, 0, Option.none⟩ (.int .i64 0)).setCell ⟨w.heap.size + 1, 0, Option.none⟩ (.int .i64 6)).cell? ⟨w.heap.size, 0, Option.none⟩ = some (.int .i64 0) := by
      rw [World.cell?_setCell_other _ _ _ _ (by simp), World.cell?_setCell_same' _ _ _ (by rw [hc]; rfl)]
    have hc6 : ((W.setCell ⟨w.heap.size, 0, Option.none⟩ (.int .i64 0)).setCell ⟨w.heap.size + 1, 0, Option.none⟩ (.int .i64 6)).cell? ⟨w.heap.size + 1, 0, Option.none⟩ = some (.int .i64 6) := by
      rw [World.cell?_setCell_same' _ _ _ (by rw [World.cell?_setCell_other _ _ _ _ (by simp), hc2]; rfl)]
    have hc5 := cell_kept hc4 (grownBy_putObj' _ D (.deferred Option.none)) (fun r e => by cases e; exact ⟨_, hK', rfl⟩)
    have hc7 := cell_kept hc6 (grownBy_putObj' _ D (.deferred Option.none)) (fun r e => by cases e; exact ⟨_, hK', rfl⟩)
    refine ⟨.tuple #[.int .i64 0, .int .i64 6], by simp [results, Tryd.results46, go_sem, hc5, hc7], by rw [HN.out]; rfl, ?_⟩
    exact ((hB.setCell (by simp) _).setCell (by simp) _).trans (belowK_b (w := w) (Nat.le_refl _) _ D _ _ (by omega) hK' rfl rfl)
  case stop =>
    rintro D c pre W hD hpre ⟨⟨ini, j, rfl, h1, h2, rfl, hc, hc2⟩, hB⟩ hK
    have HV : Hid (firstV (occs ws f (m - f)) = ((((ym ws f m j).1 + Lib.ctz 64 (ym ws f m j).2 : Nat) : Int), 0)) := Lib.hid (by
      obtain ⟨r, hr⟩ := bI_pre hft hpre
      rw [hr, bI_snoc, h1, bl_head _ _ h2 (ym_lt HU.out f m j)]
      exact firstV_cons _ _)
    generalize (ym ws f m j).1 + Lib.ctz 64 (ym ws f m j).2 = z at *
    clear h1 h2
    gi_wp2
    refine ⟨by simp, .inl ⟨_, _, rfl, run_takeDeferred hK, ?_⟩⟩
    have hc5 := cell_kept hc (grownBy_putObj' _ D (.deferred Option.none)) (fun r e => by cases e; exact ⟨_, hK, rfl⟩)
    have hc7 := cell_kept hc2 (grownBy_putObj' _ D (.deferred Option.none)) (fun r e => by cases e; exact ⟨_, hK, rfl⟩)
    refine ⟨.tuple #[.int .i64 z, .int .i64 0], by simp [results, Tryd.results46, go_sem, hc5, hc7], by rw [HV.out], ?_⟩
    exact hB.trans (belowK_b (w := w) (Nat.le_refl _) _ D _ _ (by omega) hK rfl rfl)

end Go.Proofs.YthkhideonceibaaDoor.Occ

namespace Go.Proofs.YthkhideonceibaaDoor.Occ
open Go.RowKit Go.Shelf Go.Proofs.YthkhideonceibaaDoor
attribute [local go_sem] Oper.semAt_some

theorem endV_snoc (l : List Nat) (x : Nat) : endV (l ++ [x]) = ((x : Int), 0) := by unfold endV; simp
theorem endV_app (l r : List Nat) (x : Nat) : endV (l ++ (r ++ [x])) = ((x : Int), 0) := by rw [← List.append_assoc]; exact endV_snoc _ _
/-- What has been told till now. -/
def LastAt (ws : List Int) (t n0 : Nat) (pre : List Nat) (W : World) : Prop :=
  ∃ y z, endV (bI ws 0 t pre) = (y, z) ∧ W.cell? ⟨n0, 0, Option.none⟩ = some (.int .i64 y) ∧ W.frozen? ⟨n0, 0, Option.none⟩ = false ∧ W.cell? ⟨n0 + 1, 0, Option.none⟩ = some (.int .i64 z) ∧ W.frozen? ⟨n0 + 1, 0, Option.none⟩ = false

set_option maxRecDepth 100000 in
set_option maxHeartbeats 2000000 in
theorem last_ok (a : Option Addr) (ca : Nat) (ws : List Int) (m t : Nat) (w : World) (hu : U64 ws) (hr : Rd .u64 w a ws) (hl : ws.length ≤ 100000) (hv : askV ws m (upB m t) = 0) :
    Calls Tryd.prog 47 #[.slice a ws.length ca, .int .i64 m, .int .i64 t] w fun e w' => e = .returned (.tuple #[.int .i64 (endV (occs ws 0 t)).1, .int .i64 (endV (occs ws 0 t)).2]) ∧ Below w.heap.size w w' := by
  obtain ⟨hc, hb⟩ := askV_ok hv
  obtain ⟨m', hm', hm, hlen, _⟩ := chkV_ok hc
  obtain rfl : m = m' := Int.ofNat_inj.1 hm'
  obtain ⟨h0, h1⟩ := upB_iff.1 hb
  have hft : 0 ≤ t := Nat.zero_le _
  have htl : t ≤ 64 * ws.length := by omega
  have ht16 : t ≤ 65536 := by omega
  have hb0 : Below w.heap.size w ((w.alloc (.cells #[.int .i64 0] 3)).alloc (.cells #[.int .i64 6] 31)) := ((Below.refl _ w).alloc (Nat.le_refl _) _).alloc (by simp) _
  have HA := Lib.hid (asked_any a ca ws m true w hu hr hl)
  rw [hb] at hv
  rw [hv] at HA
  have HU := Lib.hid hu
  have HR := Lib.hid hr
  have HALL := Lib.hid (bI_all ws 0 t hft)
  rw [Nat.sub_zero] at HALL
  have hm2 : (t : Int) ≤ (m : Int) := by omega
  clear hu hr hc hb hlen hv hm' h0 h1
  refine (callsIn_wide (n := 2)).1 ?_
  refine callsIn_of_wp_marks Tryd.func47 rfl trivial ?_ rfl
  simp only [Tryd.ntmps47, List.size_toArray, List.length_cons, List.length_nil, Nat.reduceAdd, Nat.reduceSub, Array.replicate_succ, Array.replicate_zero, List.push_toArray, List.append_toArray, List.nil_append, List.cons_append]
  gi_wp2_with fail
  refine ⟨trivial, (callsIn_wide.2 HA.out).mono ?_⟩
  rintro e w' ⟨rfl, rfl⟩
  gi_wp2_with fail
  refine ⟨trivial, (callsIn_wide.2 (parts_any _ _ _ _ _ _)).mono ?_⟩
  rintro e w' ⟨rfl, rfl⟩
  have bY := (Boxed.new w 3 (.int .i64 0)).alloc (.cells #[.int .i64 6] 31)
  have bM := Boxed.new (w.alloc (.cells #[.int .i64 0] 3)) 31 (.int .i64 6)
  rw [World.size_alloc] at bM
  have hw2 : ((w.alloc (.cells #[.int .i64 0] 3)).alloc (.cells #[.int .i64 6] 31)).heap.size = w.heap.size + 2 := by simp
  generalize (w.alloc (.cells #[.int .i64 0] 3)).alloc (.cells #[.int .i64 6] 31) = w2 at *
  have hst := parts_stops 1 w.heap.size 0 t ca a ws w2 HU.out ((RdN.of HR.out (Nat.le_refl _)).keep hb0) (by omega) hl htl hft
  have hs := boxP_size w2 a ws.length ca (0 : Nat) t
  have hbx := boxP_below w2 a ws.length ca (0 : Nat) t
  have HW2 := Lib.hid hw2
  have HS := Lib.hid hs
  clear hw2 hs
  gi_wp2_with fail
  have hw2 : w2.heap.size ≤ w.heap.size + 2 ∧ w.heap.size + 2 ≤ w2.heap.size := by have := HW2.out; omega
  have hs : (boxP w2 a ws.length ca (0 : Nat) t).heap.size ≤ w2.heap.size + 3 ∧ w2.heap.size + 3 ≤ (boxP w2 a ws.length ca (0 : Nat) t).heap.size := by have := HS.out; omega
  have bY := bY.kept (grown0 hbx) (by simp)
  have bM := bM.kept (grown0 hbx) (by simp)
  have hB3 := hb0.trans (hbx.mono (by omega))
  rw [Int.natCast_zero] at *
  generalize boxP w2 a ws.length ca 0 t = w3 at *
  have hKE := Keeps.b (n0 := w.heap.size) (lo := w2.heap.size) (hi := w2.heap.size + 3) (w := w3) (by omega) (by omega)
  refine rangeFunc_put (fun j => [(29, .int .i64 ((ym ws 0 t j).1 : Int)), (30, .int .u64 ((ym ws 0 t j).2 : Int)), (11, .int .i64 ((ym ws 0 t j).1 : Int)), (12, .int .u64 ((ym ws 0 t j).2 : Int))]) rfl (by decide) (gf := 75) (lb := #[.pointer (some ⟨w2.heap.size, 0, Option.none⟩), .pointer (some ⟨w2.heap.size + 1, 0, Option.none⟩), .pointer (some ⟨w2.heap.size + 2, 0, Option.none⟩)]) rfl trivial (enters_of Tryd.func75 (by kernel_rfl) rfl) hst Keeps.t hKE (Below.refl _ _) (fun _ => rfl)
    (fun pre W => LastAt ws t w.heap.size pre W ∧ Below w.heap.size w W)
    (fun c pre W => False ∧ Below w.heap.size w W)
    (OwnFrom.and (Own.from (fun s A B row hs hg hr => by obtain ⟨y, z, e, h1, h2, h3, h4⟩ := hs; exact ⟨y, z, e, cell_kept h1 hg hr, (frozen_kept h1 hg hr).trans h2, cell_kept h3 hg hr, (frozen_kept h3 hg hr).trans h4⟩) _) (ownFrom_below (Nat.le_refl _) (by omega)))
    (fun c => OwnFrom.and (Own.from (fun s A B row hs hg hr => hs) _) (ownFrom_below (Nat.le_refl _) (by omega)))
    ⟨⟨0, 6, rfl, bY.cell, bY.frozen, bM.cell, bM.frozen⟩, hB3⟩ ?assign ?body ?done ?stop
  case assign =>
    intro l x W K hK
    dsimp only [encJ, encP]
    gi_wp2
    exact hK
  case body =>
    rintro l pre j W ⟨hlast, hB⟩ hN
    have hlt := ym_lt HU.out 0 t j
    have hfi := ym_first ws 0 t j hft
    have HSN := Lib.hid (bI_snoc ws 0 t pre j)
    have HBL := Lib.hid (bl_last (ym ws 0 t j).2 (ym ws 0 t j).1 · hlt)
    have HLZ := Lib.hid (Tryd.bits_LeadingZeros64 ((ym ws 0 t j).2 : Int) W (by omega) (by omega))
    rw [Int.toNat_natCast] at HLZ
    obtain ⟨y0, z0, he, hc, hf, hc2, hf2⟩ := hlast
    have HE := Lib.hid he
    clear he
    have HIX : Hid (∀ (W' : World) (y z : Int), endV (bI ws 0 t (pre ++ [j])) = (y, z) → W'.cell? ⟨w.heap.size, 0, Option.none⟩ = some (.int .i64 y) → W'.frozen? ⟨w.heap.size, 0, Option.none⟩ = false → W'.cell? ⟨w.heap.size + 1, 0, Option.none⟩ = some (.int .i64 z) → W'.frozen? ⟨w.heap.size + 1, 0, Option.none⟩ = false → LastAt ws t w.heap.size (pre ++ [j]) W') := Lib.hid (fun W' y z h0 h1 h2 h3 h4 => ⟨y, z, h0, h1, h2, h3, h4⟩)
    generalize (ym ws 0 t j).2 = x at *
    generalize (ym ws 0 t j).1 = fi at *
    by_cases hx : x = 0
    · subst hx
      have HNIL : Hid (endV (bI ws 0 t (pre ++ [j])) = (y0, z0)) := Lib.hid (by rw [HSN.out, bl_zero, List.append_nil]; exact HE.out)
      gi_wp2
      exact ⟨KeepsFrom.refl _ _, Keeps.refl _ _ _ _, ⟨HIX.out _ _ _ HNIL.out hc hf hc2 hf2, hB⟩⟩
    · obtain ⟨⟨l0, hl0⟩, hz1, hz2⟩ := HBL.out hx
      have hx2 : ((x : Int) != 0) = true := by rw [bne_iff_ne]; omega
      have HEND : Hid (endV (bI ws 0 t (pre ++ [j])) = (((fi + (Lib.bitLen x - 1) : Nat) : Int), 0)) := Lib.hid (by rw [HSN.out, hl0]; exact endV_app _ _ _)
      generalize Lib.bitLen x = z at *
      clear hx hl0
      gi_wp2_with fail
      refine ⟨trivial, rfl, (CallsIn.inRound l (callsIn_wide.2 HLZ.out)).mono ?_⟩
      rintro e w1 ⟨rfl, rfl⟩
      gi_wp2
      have hk1 : Keeps w.heap.size w2.heap.size (w2.heap.size + 3) w1 ((w1.setCell ⟨w.heap.size, 0, Option.none⟩ (.int .i64 ((fi : Int) + 64 - 1 - (64 - (z : Int))))).setCell ⟨w.heap.size + 1, 0, Option.none⟩ (.int .i64 0)) := ((Keeps.refl _ _ _ w1).setCell _ (by simp) (by simp; omega) _).setCell _ (by simp) (by simp; omega) _
      refine ⟨((KeepsOthers.setCell _ _ _).trans (KeepsOthers.setCell _ _ _)).from _, hk1, HIX.out _ _ _ HEND.out ?_ ?_ ?_ ?_, (hB.setCell (by simp) _).setCell (by simp) _⟩
      · rw [World.cell?_setCell_other _ _ _ _ (by simp), World.cell?_setCell_same' _ _ _ (by rw [hc]; rfl)]; congr 2; omega
      · rw [World.frozen?_setCell, World.frozen?_setCell]; exact hf
      · rw [World.cell?_setCell_same' _ _ _ (by rw [World.cell?_setCell_other _ _ _ _ (by simp), hc2]; rfl)]
      · rw [World.frozen?_setCell, World.frozen?_setCell]; exact hf2
  case done =>
    rintro D ys W hD rfl ⟨⟨y0, z0, he, hc, hf, hc2, hf2⟩, hB⟩ hK
    rw [HALL.out] at he
    have HE := Lib.hid he
    clear he
    gi_wp2
    refine wpIn_region_still_tail 3 mixed' (by kernel_rfl) ?_
    simp only [List.take_succ_cons, List.take_zero, List.drop_succ_cons, List.drop_zero]
    repeat still_step
    refine wpStill_nil ?_
    gi_wp2
    refine ⟨by simp, .inl ⟨_, _, rfl, run_takeDeferred (w := W.drew) hK, ?_⟩⟩
    refine ⟨.tuple #[.int .i64 y0, .int .i64 z0], by simp [results, Tryd.results47, go_sem], by rw [HE.out], ?_⟩
    exact hB.drew.trans (belowK_b (w := w) (Nat.le_refl _) W.drew D _ _ (by omega) hK rfl rfl)
  case stop =>
    rintro D c pre W hD hpre ⟨h, hB⟩ hK
    exact h.elim

end Go.Proofs.YthkhideonceibaaDoor.Occ
