/- Contracts of the functions of package frac, their answers given. -/
import Derived.Test.YthgeghdegpgijaaFrac
namespace Go.Proofs.Ythgeghdegpgijaa.Frac
open Go.RowKit Go.Proofs.Ythgeghdegpgijaa

theorem down_is (n : Int) (w : World) (wn : (Lit.int .i64 n).wf = true) (r e : Int) (h : downV n = (r, e)) :
    Calls Try.prog 40 #[.int .i64 n] w fun x w' => x = .returned (.tuple #[.int .i64 r, .int .i64 e]) ∧ w = w' := by
  have := down_any n w wn; rw [h] at this; exact this

theorem power_is (n : Int) (w : World) (wn : (Lit.int .i64 n).wf = true) (r : Bool) (h : powB n = r) :
    Calls Try.prog 39 #[.int .i64 n] w fun x w' => x = .returned (.bool r) ∧ w = w' := by
  have := power_any n w wn; rw [h] at this; exact this

theorem between_is (a b c d : Int) (w : World) (r e : Int) (h : betweenV a b c d = (r, e)) :
    Calls Try.prog 42 #[.int .i64 a, .int .i64 b, .int .i64 c, .int .i64 d] w fun x w' => x = .returned (.tuple #[.int .i64 r, .int .i64 e]) ∧ Below w.heap.size w w' := by
  have := between_any a b c d w; rw [h] at this; exact this

theorem cross_is (a b c d : Int) (w : World) (r e : Int) (h : crossV a b c d = (r, e)) :
    Calls Try.prog 37 #[.int .i64 a, .int .i64 b, .int .i64 c, .int .i64 d] w fun x w' => x = .returned (.tuple #[.int .i64 r, .int .i64 e]) ∧ Below w.heap.size w w' := by
  have := cross_any a b c d w; rw [h] at this; exact this

end Go.Proofs.Ythgeghdegpgijaa.Frac
