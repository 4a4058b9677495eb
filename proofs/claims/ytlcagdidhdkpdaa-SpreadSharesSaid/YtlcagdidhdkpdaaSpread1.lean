/- Places: the iterator, and what is collected. -/
import Derived.Test.YtlcagdidhdkpdaaRf
namespace Go.Proofs.Ytlcagdidhdkpdaa.Spr
open Go.RowKit Go.Shelf Go.Proofs.Ytlcagdidhdkpdaa
attribute [local go_sem] Oper.semAt_some

theorem mixed : Try.prog.follows .mixedOrders = true := by kernel_rfl

/-- The place of a thing. -/
def place (n f d i : Nat) : Nat := f + i * d / n
def placesL (n f d : Nat) : List Int := upto (fun i => ((place n f d i : Nat) : Int)) n

set_option maxRecDepth 100000 in
set_option maxHeartbeats 2000000 in
theorem places1_in (m l Bn Bf Bt n0 lo hi n f t d : Nat) (hd : t = f + d) (ht : t ≤ 65536) (hnd : n ≤ d) (b1 : lo ≤ Bn ∧ Bn < hi) (b2 : lo ≤ Bf ∧ Bf < hi) (b3 : lo ≤ Bt ∧ Bt < hi) (J Jx : List Int → World → Prop) (hJd : ∀ pre W, J pre W → J pre W.drew)
    (hY : ∀ pre x W, J pre W → pre.length < n → YieldAt Fence.wide (m - 1) Try.prog l #[.int .i64 x] W fun e W' =>
      (e = .returned (.bool true) ∧ J (pre ++ [x]) W' ∧ Keeps n0 lo hi W W') ∨ (e = .returned (.bool false) ∧ Jx (pre ++ [x]) W'))
    (W : World) (hcn : W.cell? ⟨Bn, 0, Option.none⟩ = some (.int .i64 n)) (hcf : W.cell? ⟨Bf, 0, Option.none⟩ = some (.int .i64 f)) (hct : W.cell? ⟨Bt, 0, Option.none⟩ = some (.int .i64 t)) (h0 : J [] W) :
    CallsIn Fence.wide m Try.prog 26 #[.func (.yield l) #[] #[], .pointer (some ⟨Bn, 0, Option.none⟩), .pointer (some ⟨Bf, 0, Option.none⟩), .pointer (some ⟨Bt, 0, Option.none⟩)] W fun e W' => (∃ v, e = .returned v) ∧
      ((∃ ys, ys = placesL n f d ∧ J ys W') ∨ (∃ pre, pre <+: placesL n f d ∧ Jx pre W')) := by
  have hdi : (t : Int) - (f : Int) = (d : Int) := by omega
  have HD := Lib.hid hd
  clear hd
  refine callsIn_of_wp Try.func26 rfl trivial ?_ rfl
  simp only [Try.ntmps26, List.size_toArray, List.length_cons, List.length_nil, Nat.reduceAdd, Nat.reduceSub, Array.replicate_succ, Array.replicate_zero, List.push_toArray, List.append_toArray, List.nil_append, List.cons_append]
  gi_wp2
  gi_loopw [7] (fun i wr => ∃ k : Nat, k ≤ n ∧ i = .int .i64 k ∧ J (upto (fun i => ((place n f d i : Nat) : Int)) k) wr ∧ (∀ b o, lo ≤ b → b < hi → wr.cell? ⟨b, o, Option.none⟩ = W.cell? ⟨b, o, Option.none⟩)) (fun i _ => n - (intOf i).toNat)
  case atStart => exact ⟨0, Nat.zero_le _, rfl, h0, fun _ _ _ _ => rfl⟩
  case round =>
    obtain ⟨k, hk, rfl, hJs, hsame⟩ := hrel
    by_cases hlt : k < n
    · have c1 := (hsame Bn 0 b1.1 b1.2).trans hcn
      have c2 := (hsame Bf 0 b2.1 b2.2).trans hcf
      have c3 := (hsame Bt 0 b3.1 b3.2).trans hct
      have HS := Lib.hid hsame
      have p0 : 0 ≤ (k : Int) * (d : Int) := Int.mul_nonneg (by omega) (by omega)
      have p1 : (k : Int) * (d : Int) ≤ 65536 * 65536 := Int.mul_le_mul (by omega) (by omega) (by omega) (by omega)
      have hq : (k : Int) * (d : Int) / (n : Int) = ((k * d / n : Nat) : Int) := by simp
      have hq1 : k * d / n ≤ 65536 * 65536 := Nat.le_trans (Nat.div_le_self _ _) (by have : ((k * d : Nat) : Int) = (k : Int) * (d : Int) := by simp
                                                                                     omega)
      obtain ⟨fn, tmps, assign, body, hy, hR⟩ := hY _ ((place n f d k : Nat) : Int) wr.drew (hJd _ _ hJs) (by rw [upto_length]; exact hlt)
      have hpl : ((place n f d k : Nat) : Int) = (f : Int) + ((k * d / n : Nat) : Int) := by unfold place; omega
      rw [hpl] at hy
      have HP := Lib.hid hpl
      have w1 : IntKind.i64.wrap (d : Int) = (d : Int) := by rw [IntKind.wrap_i64]; omega
      have w2 : IntKind.i64.wrap ((k : Int) * (d : Int)) = (k : Int) * (d : Int) := by rw [IntKind.wrap_i64]; omega
      have w3 : ((k : Int) * (d : Int)).tdiv (n : Int) = ((k * d / n : Nat) : Int) := by rw [Int.tdiv_eq_ediv_of_nonneg p0]; exact hq
      have w4 : IntKind.i64.wrap ((k * d / n : Nat) : Int) = ((k * d / n : Nat) : Int) := by rw [IntKind.wrap_i64]; omega
      have w5 : IntKind.i64.wrap ((f : Int) + ((k * d / n : Nat) : Int)) = (f : Int) + ((k * d / n : Nat) : Int) := by rw [IntKind.wrap_i64]; omega
      have n0 : ((n : Int) == 0) = false := by rw [beq_eq_false_iff_ne]; omega
      have n1 : (n : Int) ≠ 0 := by omega
      have n2 : n ≠ 0 := by omega
      clear hpl hsame hq
      generalize k * d / n = q at *
      gi_wp2
      refine wpIn_region_still_tail 10 mixed (by kernel_rfl) ?_
      simp only [List.take_succ_cons, List.take_zero, List.drop_succ_cons, List.drop_zero]
      repeat still_step
      refine wpStill_nil ?_
      gi_wp2
      refine ⟨fun h => (by cases h), hR.mono ?_⟩
      rintro e W3 (⟨rfl, hJ3, hk3⟩ | ⟨rfl, hJx3⟩)
      · gi_wp2
        go_roundw
        case rel => exact ⟨k + 1, by omega, by go_num, by rw [upto_succ]; exact hJ3, fun b o h1 h2 => (hk3.cell h1 h2).trans (HS.out b o h1 h2)⟩
        case measure => simp [intOf]; omega
      · gi_wp2
        refine bodyPost_ret (results_none rfl _ _ _) rfl ?_
        exact ⟨⟨_, rfl⟩, .inr ⟨_, upto_prefix _ (show k + 1 ≤ n by omega), by rw [upto_succ]; exact hJx3⟩⟩
    · obtain rfl : k = n := by omega
      clear hsame
      gi_wp2
      go_end0
      exact ⟨⟨_, rfl⟩, .inl ⟨_, rfl, hJs⟩⟩

theorem placesL_length (n f d : Nat) : (placesL n f d).length = n := upto_length _ _

/-- The world behind it. -/
def boxed (w : World) (n f t : Int) : World := ((w.alloc (.cells #[.int .i64 n] 3)).alloc (.cells #[.int .i64 f] 3)).alloc (.cells #[.int .i64 t] 3)
set_option maxHeartbeats 1000000 in
/-- The iterator's value: three boxes. -/
theorem places_any (n f t : Int) (w : World) :
    Calls Try.prog 20 #[.int .i64 n, .int .i64 f, .int .i64 t] w fun e w' => e = .returned (.func (.func 26) #[] #[.pointer (some ⟨w.heap.size, 0, Option.none⟩), .pointer (some ⟨w.heap.size + 1, 0, Option.none⟩), .pointer (some ⟨w.heap.size + 2, 0, Option.none⟩)]) ∧
      boxed w n f t = w' := by
  go_enter Try.func20, Try.ntmps20
  go_wp2
  go_ret
  exact ⟨rfl, rfl⟩

theorem boxed_size (w : World) (n f t : Int) : (boxed w n f t).heap.size = w.heap.size + 3 := by simp [boxed]
theorem boxed_below (w : World) (n f t : Int) : Below w.heap.size w (boxed w n f t) := (((Below.refl _ w).alloc (Nat.le_refl _) _).alloc (by simp) _).alloc (by simp; omega) _
theorem boxed_cells (w : World) (n f t : Int) : (boxed w n f t).cell? ⟨w.heap.size, 0, Option.none⟩ = some (.int .i64 n) ∧ (boxed w n f t).cell? ⟨w.heap.size + 1, 0, Option.none⟩ = some (.int .i64 f) ∧ (boxed w n f t).cell? ⟨w.heap.size + 2, 0, Option.none⟩ = some (.int .i64 t) := by
  have a1 := Boxed.new w 3 (.int .i64 n)
  have a2 := Boxed.new (w.alloc (.cells #[.int .i64 n] 3)) 3 (.int .i64 f)
  have a3 := Boxed.new ((w.alloc (.cells #[.int .i64 n] 3)).alloc (.cells #[.int .i64 f] 3)) 3 (.int .i64 t)
  simp only [World.size_alloc] at a2 a3
  exact ⟨((a1.alloc _).alloc _).cell, (a2.alloc _).cell, a3.cell⟩

/-- The places come one behind the other; or a part of them, a round having said 'no more'. -/
theorem places_stops (m n0 n f t d : Nat) (w : World) (hd : t = f + d) (ht : t ≤ 65536) (hnd : n ≤ d) :
    SeqStopsK Fence.wide m Try.prog 26 #[.pointer (some ⟨w.heap.size, 0, Option.none⟩), .pointer (some ⟨w.heap.size + 1, 0, Option.none⟩), .pointer (some ⟨w.heap.size + 2, 0, Option.none⟩)] (fun x : Int => #[Value.int .i64 x]) (Keeps n0 w.heap.size (w.heap.size + 3)) (fun ys => ys = placesL n f d) (fun pre => pre <+: placesL n f d) n (boxed w n f t) := fun l J Jx W hW hJ _ hY h0 => by
  obtain ⟨c1, c2, c3⟩ := boxed_cells w n f t
  have hs := boxed_size w n f t
  exact places1_in m l _ _ _ n0 w.heap.size (w.heap.size + 3) n f t d hd ht hnd (by omega) (by omega) (by omega) J Jx (fun pre W h => hJ pre W W.drew Option.none h ⟨rfl, rfl, rfl, Nat.le_refl _, fun _ _ _ => rfl⟩ (fun r e => by cases e)) hY W ((hW.cell (p := ⟨w.heap.size, 0, Option.none⟩) (by show w.heap.size < _; omega)).trans c1) ((hW.cell (p := ⟨w.heap.size + 1, 0, Option.none⟩) (by show w.heap.size + 1 < _; omega)).trans c2) ((hW.cell (p := ⟨w.heap.size + 2, 0, Option.none⟩) (by show w.heap.size + 2 < _; omega)).trans c3) h0

end Go.Proofs.Ytlcagdidhdkpdaa.Spr
