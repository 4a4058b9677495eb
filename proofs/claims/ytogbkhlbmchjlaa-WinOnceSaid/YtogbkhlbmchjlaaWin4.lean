/- All windows that have a slot: the iterator, and the list. -/
import Derived.Test.YtogbkhlbmchjlaaWin3
import Derived.Test.YtogbkhlbmchjlaaRfTill
import Derived.Stop.RegionWithIn
namespace Go.Proofs.Ytogbkhlbmchjlaa.Win
open Go.RowKit Go.Shelf Go.Proofs.Ytogbkhlbmchjlaa Go.Proofs.Ytogbkhlbmchjlaa.Frac
attribute [local go_sem] Oper.semAt_some

/-- The window of a height around a slot. -/
def winP (a s h : Nat) : Int × Int := (((lowW (a + h) s : Nat) : Int), ((lowW (a + h) s + 2 ^ (a + h) : Nat) : Int))
def winH (a s h : Nat) : Int × Int × Int := ((h : Int), winP a s h)
def encW (x : Int × Int × Int) : Array Value := #[.int .i64 x.1, .agg #[.int .i64 x.2.1, .int .i64 x.2.2]]

theorem bool_of {e : Ending} {A B : Prop} (h : (e = .returned (.bool true) ∧ A) ∨ (e = .returned (.bool false) ∧ B)) : ∃ b : Bool, e = .returned (.bool b) ∧ ((b = true ∧ A) ∨ (b = false ∧ B)) := by
  rcases h with ⟨h, h2⟩ | ⟨h, h2⟩
  · exact ⟨_, h, .inl ⟨rfl, h2⟩⟩
  · exact ⟨_, h, .inr ⟨rfl, h2⟩⟩

set_option maxRecDepth 100000 in
set_option maxHeartbeats 2000000 in
theorem windows1_in (m l Bs Ba n0 lo hi a s N : Nat) (hm1 : 1 ≤ m) (hN : a + N ≤ 22) (hs : s ≤ 65536) (b1 : lo ≤ Bs ∧ Bs < hi) (b2 : lo ≤ Ba ∧ Ba < hi) (J Jx : List (Int × Int × Int) → World → Prop) (hJN : ∀ pre W, J pre W → pre.length < N) (B : Nat) (hJ : AbidesFrom B J)
    (hY : ∀ pre W, J pre W → YieldAt Fence.wide (m - 1) Try.prog l (encW (winH a s pre.length)) W fun e W' =>
      (e = .returned (.bool true) ∧ J (pre ++ [winH a s pre.length]) W' ∧ Keeps n0 lo hi W W') ∨ (e = .returned (.bool false) ∧ Jx (pre ++ [winH a s pre.length]) W'))
    (W : World) (hhi : hi ≤ W.heap.size) (hcs : W.cell? ⟨Bs, 0, Option.none⟩ = some (.int .i64 ((2 ^ a : Nat) : Int))) (hca : W.cell? ⟨Ba, 0, Option.none⟩ = some (.int .i64 s)) (h0 : J [] W) :
    CallsIn Fence.wide m Try.prog 34 #[.func (.yield l) #[] #[], .pointer (some ⟨Bs, 0, Option.none⟩), .pointer (some ⟨Ba, 0, Option.none⟩)] W fun e W' => (∃ v, e = .returned v) ∧
      (∃ pre, (∃ k, pre = upto (winH a s) (k + 1)) ∧ Jx pre W') := by
  have hmx : Try.prog.follows .mixedOrders = true := mixed'
  refine callsIn_of_wp Try.func34 rfl trivial ?_ rfl
  simp only [Try.ntmps34, List.size_toArray, List.length_cons, List.length_nil, Nat.reduceAdd, Nat.reduceSub, Array.replicate_succ, Array.replicate_zero, List.push_toArray, List.append_toArray, List.nil_append, List.cons_append]
  gi_wp2
  gi_loopw [4] (fun i wr => ∃ k : Nat, i = .int .i64 k ∧ J (upto (winH a s) k) wr ∧ hi ≤ wr.heap.size ∧ (∀ b o, lo ≤ b → b < hi → wr.cell? ⟨b, o, Option.none⟩ = W.cell? ⟨b, o, Option.none⟩)) (fun i _ => N - (intOf i).toNat)
  case atStart => exact ⟨0, rfl, h0, hhi, fun _ _ _ _ => rfl⟩
  case round =>
    obtain ⟨k, rfl, hJs, hsz, hsame⟩ := hrel
    have hkN := hJN _ _ hJs
    rw [upto_length] at hkN
    have c1 := (hsame Bs 0 b1.1 b1.2).trans hcs
    have c2 := (hsame Ba 0 b2.1 b2.2).trans hca
    have HS := Lib.hid hsame
    have HAR := Lib.hid (around_any (a + k) s · (by omega) hs)
    have hmul : ((2 ^ a : Nat) : Int) * (2 : Int) ^ k = ((2 ^ (a + k) : Nat) : Int) := by rw [Nat.pow_add]; simp
    have hp16 : 2 ^ (a + k) ≤ 4194304 := Nat.le_trans (Nat.pow_le_pow_right (by decide) (show a + k ≤ 22 by omega)) (by decide)
    have HW : Hid (winH a s k = ((k : Int), ((lowW (a + k) s : Nat) : Int), ((lowW (a + k) s + 2 ^ (a + k) : Nat) : Int))) := Lib.hid rfl
    clear hsame
    generalize (2 ^ a : Nat) = pa at *
    generalize lowW (a + k) s = low at *
    generalize (2 ^ (a + k) : Nat) = p at *
    generalize low + p = up at *
    have hw : IntKind.i64.wrap (p : Int) = (p : Int) := by rw [IntKind.wrap_i64]; omega
    gi_wp2
    gi_region_with (first | (refine ⟨trivial, (callsIn_wide.2 (HAR.out _)).mono ?_⟩; rintro e w1 ⟨rfl, hb1⟩; have hbb : Below wr.heap.size wr w1 := ((Below.refl _ wr).drew).trans hb1; have hJ1 := hJ _ _ _ Option.none hJs (grown0 hbb) (fun r e => (by cases e)); have hY1 := hY _ w1 hJ1; rw [upto_length] at hY1; obtain ⟨fn, tmps, assign, body, hy, hR⟩ := hY1; rw [HW.out] at hy; dsimp only [encW] at hy) | ((first | refine hR.mono ?_ | refine ⟨fun h => (by cases h), hR.mono ?_⟩); intro e W3 hor; obtain ⟨b, rfl, hb3⟩ := bool_of hor))
    all_goals
      rcases hb3 with ⟨rfl, hJ3, hk3⟩ | ⟨rfl, hJx3⟩
      · have hsz3 : hi ≤ W3.heap.size := Nat.le_trans hsz (Nat.le_trans hbb.size hk3.below.size)
        have hsm : ∀ b o, lo ≤ b → b < hi → W3.cell? ⟨b, o, Option.none⟩ = W.cell? ⟨b, o, Option.none⟩ := fun b o h1 h2 => (hk3.cell h1 h2).trans ((hbb.cell (p := ⟨b, o, Option.none⟩) (Nat.lt_of_lt_of_le h2 hsz)).trans (HS.out b o h1 h2))
        have HSM := Lib.hid hsm
        clear hsm hor c1 c2
        gi_wp2
        go_roundw
        case rel => exact ⟨k + 1, by go_num, by rw [upto_succ]; exact hJ3, hsz3, HSM.out⟩
        case measure => simp [intOf]; omega
      · clear hor c1 c2
        gi_wp2
        go_end0
        exact ⟨⟨_, rfl⟩, upto (winH a s) (k + 1), ⟨k, rfl⟩, by rw [upto_succ]; exact hJx3⟩

/-- The iterator's value: two boxes. -/
def boxW (w : World) (g s : Int) : World := (w.alloc (.cells #[.int .i64 g] 3)).alloc (.cells #[.int .i64 s] 3)
theorem boxW_size (w : World) (g s : Int) : (boxW w g s).heap.size = w.heap.size + 2 := by simp [boxW]
theorem boxW_below (w : World) (g s : Int) : Below w.heap.size w (boxW w g s) := ((Below.refl _ w).alloc (Nat.le_refl _) _).alloc (by simp) _
theorem boxW_cells (w : World) (g s : Int) : (boxW w g s).cell? ⟨w.heap.size, 0, Option.none⟩ = some (.int .i64 g) ∧ (boxW w g s).cell? ⟨w.heap.size + 1, 0, Option.none⟩ = some (.int .i64 s) := by
  have a1 := Boxed.new w 3 (.int .i64 g)
  have a2 := Boxed.new (w.alloc (.cells #[.int .i64 g] 3)) 3 (.int .i64 s)
  simp only [World.size_alloc] at a2
  exact ⟨(a1.alloc _).cell, a2.cell⟩
set_option maxHeartbeats 1000000 in
theorem windows_any (g s : Int) (w : World) :
    Calls Try.prog 29 #[.int .i64 g, .int .i64 s] w fun e w' => e = .returned (.func (.func 34) #[] #[.pointer (some ⟨w.heap.size, 0, Option.none⟩), .pointer (some ⟨w.heap.size + 1, 0, Option.none⟩)]) ∧ boxW w g s = w' := by
  go_enter Try.func29, Try.ntmps29
  go_wp2
  go_ret
  exact ⟨rfl, rfl⟩
theorem windows_till (n0 a s N : Nat) (w : World) (hN : a + N ≤ 22) (hs : s ≤ 65536) :
    SeqTill 1 Try.prog 34 #[.pointer (some ⟨w.heap.size, 0, Option.none⟩), .pointer (some ⟨w.heap.size + 1, 0, Option.none⟩)] encW (winH a s) (Keeps n0 w.heap.size (w.heap.size + 2)) (fun pre => ∃ k, pre = upto (winH a s) (k + 1)) N (boxW w ((2 ^ a : Nat) : Int) s) := fun l J Jx W hW hJ hJN hY h0 => by
  obtain ⟨c1, c2⟩ := boxW_cells w ((2 ^ a : Nat) : Int) s
  have hz := boxW_size w ((2 ^ a : Nat) : Int) s
  exact windows1_in 1 l _ _ n0 w.heap.size (w.heap.size + 2) a s N (by decide) hN hs (by omega) (by omega) J Jx hJN _ hJ hY W (by have := hW.size; omega) ((hW.cell (p := ⟨w.heap.size, 0, Option.none⟩) (by show w.heap.size < _; omega)).trans c1) ((hW.cell (p := ⟨w.heap.size + 1, 0, Option.none⟩) (by show w.heap.size + 1 < _; omega)).trans c2) h0

end Go.Proofs.Ytogbkhlbmchjlaa.Win
