/- The walk of the law ConfNames. -/
import Derived.Test.YthgeghdegpgijaaConfLaws2
namespace Go.Proofs.Ythgeghdegpgijaa.Conf
open Go.RowKit Go.Sort Go.Proofs.Ythgeghdegpgijaa Go.Proofs.Ythgeghdegpgijaa.Frac

theorem belowcell {n : Nat} {W w1 : World} (h : Below n W w1) : ∀ b o, b < n → w1.cell? ⟨b, o, Option.none⟩ = W.cell? ⟨b, o, Option.none⟩ := fun b o hb => h.cell (p := ⟨b, o, Option.none⟩) hb

theorem fin_of {n m : Nat} {w W1 w' : World} (hB : Below n W1 w') (hw : Below m w W1) (h : m ≤ n) : Below m w w' := hw.trans (hB.mono h)

def great : Cfg := ⟨3, 16384, 32, 64, 16, 1, 2, 8, 16⟩
theorem great_wf : great.Wf := ⟨by decide, by decide, by decide, by decide, by decide, by decide, by decide, by decide, by decide⟩
theorem gCap (n r e : Int) (w : World) (h : capV great n = (r, e)) : Calls Try.prog 9 #[.agg #[.int .u8 3, .int .i64 16384, .int .i64 32, .int .i64 64, .int .i64 16, .int .i64 1, .int .i64 2, .int .i64 8, .int .i64 16], .int .i64 n] w fun x w' => x = .returned (.tuple #[.int .i64 r, .int .i64 e]) ∧ Below w.heap.size w w' := cap_is great n w great_wf r e h
theorem gHigh (n r e : Int) (w : World) (wn : (Lit.int .i64 n).wf = true) (h : highV great n = (r, e)) : Calls Try.prog 11 #[.agg #[.int .u8 3, .int .i64 16384, .int .i64 32, .int .i64 64, .int .i64 16, .int .i64 1, .int .i64 2, .int .i64 8, .int .i64 16], .int .i64 n] w fun x w' => x = .returned (.tuple #[.int .i64 r, .int .i64 e]) ∧ Below w.heap.size w w' := high_is great n w great_wf wn r e h
theorem gFull (s h n : Int) (r : Bool) (e : Int) (w : World) (ws : (Lit.int .i64 s).wf = true) (hv : fullV great s h n = (r, e)) : Calls Try.prog 15 #[.agg #[.int .u8 3, .int .i64 16384, .int .i64 32, .int .i64 64, .int .i64 16, .int .i64 1, .int .i64 2, .int .i64 8, .int .i64 16], .int .i64 s, .int .i64 h, .int .i64 n] w fun x w' => x = .returned (.tuple #[.bool r, .int .i64 e]) ∧ Below w.heap.size w w' := full_is great s h n w great_wf ws r e hv
theorem gSparse (s h n : Int) (want : Bool) (w : World) (ws : (Lit.int .i64 s).wf = true) (hv : sparseV great s h n = (want, 0)) : Calls Try.prog 22 #[.agg #[.int .u8 3, .int .i64 16384, .int .i64 32, .int .i64 64, .int .i64 16, .int .i64 1, .int .i64 2, .int .i64 8, .int .i64 16], .int .i64 s, .int .i64 h, .int .i64 n, .bool want] w fun x w' => x = .returned (.bool true) ∧ Below w.heap.size w w' := lawSparse_is great s h n want w great_wf ws hv
theorem gCheck (w : World) : Calls Try.prog 13 #[.agg #[.int .u8 3, .int .i64 16384, .int .i64 32, .int .i64 64, .int .i64 16, .int .i64 1, .int .i64 2, .int .i64 8, .int .i64 16]] w fun x w' => x = .returned (.int .i64 0) ∧ Below w.heap.size w w' := check_is great w great_wf 0 (by decide +kernel)
theorem odd_a (w : World) : Calls Try.prog 23 #[.agg #[.int .u8 4, .int .i64 8, .int .i64 4, .int .i64 16, .int .i64 8, .int .i64 0, .int .i64 1, .int .i64 4, .int .i64 8]] w fun x w' => x = .returned (.bool true) ∧ Below w.heap.size w w' := odd_is ⟨4, 8, 4, 16, 8, 0, 1, 4, 8⟩ w ⟨by decide, by decide, by decide, by decide, by decide, by decide, by decide, by decide, by decide⟩ (by decide +kernel)
theorem odd_b (w : World) : Calls Try.prog 23 #[.agg #[.int .u8 1, .int .i64 8, .int .i64 4, .int .i64 16, .int .i64 8, .int .i64 1, .int .i64 1, .int .i64 4, .int .i64 8]] w fun x w' => x = .returned (.bool true) ∧ Below w.heap.size w w' := odd_is ⟨1, 8, 4, 16, 8, 1, 1, 4, 8⟩ w ⟨by decide, by decide, by decide, by decide, by decide, by decide, by decide, by decide, by decide⟩ (by decide +kernel)
theorem odd_c (w : World) : Calls Try.prog 23 #[.agg #[.int .u8 1, .int .i64 8, .int .i64 4, .int .i64 16, .int .i64 8, .int .i64 0, .int .i64 2, .int .i64 4, .int .i64 8]] w fun x w' => x = .returned (.bool true) ∧ Below w.heap.size w w' := odd_is ⟨1, 8, 4, 16, 8, 0, 2, 4, 8⟩ w ⟨by decide, by decide, by decide, by decide, by decide, by decide, by decide, by decide, by decide⟩ (by decide +kernel)
theorem odd_d (w : World) : Calls Try.prog 23 #[.agg #[.int .u8 1, .int .i64 8, .int .i64 4, .int .i64 8, .int .i64 8, .int .i64 0, .int .i64 1, .int .i64 4, .int .i64 8]] w fun x w' => x = .returned (.bool true) ∧ Below w.heap.size w w' := odd_is ⟨1, 8, 4, 8, 8, 0, 1, 4, 8⟩ w ⟨by decide, by decide, by decide, by decide, by decide, by decide, by decide, by decide, by decide⟩ (by decide +kernel)
theorem odd_f (w : World) : Calls Try.prog 23 #[.agg #[.int .u8 1, .int .i64 8, .int .i64 4, .int .i64 16, .int .i64 8, .int .i64 0, .int .i64 1, .int .i64 3, .int .i64 8]] w fun x w' => x = .returned (.bool true) ∧ Below w.heap.size w w' := odd_is ⟨1, 8, 4, 16, 8, 0, 1, 3, 8⟩ w ⟨by decide, by decide, by decide, by decide, by decide, by decide, by decide, by decide, by decide⟩ (by decide +kernel)
theorem odd_z (w : World) : Calls Try.prog 23 #[.agg #[.int .u8 0, .int .i64 0, .int .i64 0, .int .i64 0, .int .i64 0, .int .i64 0, .int .i64 0, .int .i64 0, .int .i64 0]] w fun x w' => x = .returned (.bool true) ∧ Below w.heap.size w w' := odd_is ⟨0, 0, 0, 0, 0, 0, 0, 0, 0⟩ w ⟨by decide, by decide, by decide, by decide, by decide, by decide, by decide, by decide, by decide⟩ (by decide +kernel)

set_option maxRecDepth 100000 in
set_option maxHeartbeats 8000000 in
theorem confNames (w : World) :
    Calls Try.prog 6 #[] w fun e w' => e = .returned (.bool true) ∧ Below w.heap.size w w' := by
  have hB0 := Below.refl w.heap.size w
  go_enter Try.func6, Try.ntmps6
  iterate 5
    go_wp2_with fail
    refine (chapter_any _ _).mono ?_
    rintro e w1 ⟨rfl, hn⟩
    replace hB0 := bstep0 hB0 hn
    clear hn
  go_wp2_with fail
  refine (gCap 16384 32768 0 _ (by decide +kernel)).mono ?_
  rintro e w' ⟨rfl, hn⟩
  have hB := hn.mono (show w1.heap.size + 6 ≤ _ by simp)
  have hB1 := hB0
  have hc := belowcell hB
  have hsz := hB0.size
  have HB0 := Lib.hid hB0
  clear hn hB1 hB0
  go_wp2_with (first | (go_at_call 9; (first | (with_reducible refine (gCap 16385 0 4 _ ?_).mono ?_) | (with_reducible refine (gCap (-1) 0 2 _ ?_).mono ?_)); (iterate 1 decide +kernel); rintro e w' ⟨rfl, hn⟩; replace hB := bstep1 hB hn (by simp); replace hc := belowcell hB; clear hn) | (go_at_call 11; (first | (with_reducible refine (gHigh 32768 10 0 _ ?_ ?_).mono ?_) | (with_reducible refine (gHigh 65536 0 2 _ ?_ ?_).mono ?_) | (with_reducible refine (gHigh 96 0 2 _ ?_ ?_).mono ?_)); (iterate 2 decide +kernel); rintro e w' ⟨rfl, hn⟩; replace hB := bstep1 hB hn (by simp); replace hc := belowcell hB; clear hn) | (go_at_call 15; (first | (with_reducible refine (gFull 64 2 0 false 2 _ ?_ ?_).mono ?_) | (with_reducible refine (gFull 64 0 33 false 2 _ ?_ ?_).mono ?_)); (iterate 2 decide +kernel); rintro e w' ⟨rfl, hn⟩; replace hB := bstep1 hB hn (by simp); replace hc := belowcell hB; clear hn) | (go_at_call 22; refine (gSparse _ _ _ _ _ ?_ ?_).mono ?_; (iterate 2 decide +kernel); rintro e w' ⟨rfl, hn⟩; replace hB := bstep1 hB hn (by simp); replace hc := belowcell hB; clear hn) | (go_at_call 19; refine (alive_any _).mono ?_; rintro e w' ⟨rfl, hn⟩; replace hB := bstep1 hB hn (by simp); replace hc := belowcell hB; clear hn) | (go_at_call 23; (first | (with_reducible refine (odd_a _).mono ?_) | (with_reducible refine (odd_b _).mono ?_) | (with_reducible refine (odd_c _).mono ?_) | (with_reducible refine (odd_d _).mono ?_) | (with_reducible refine (odd_f _).mono ?_) | (with_reducible refine (odd_z _).mono ?_)); rintro e w' ⟨rfl, hn⟩; replace hB := bstep1 hB hn (by simp); replace hc := belowcell hB; clear hn) | (go_at_call 13; refine (gCheck _).mono ?_; rintro e w' ⟨rfl, hn⟩; replace hB := bstep1 hB hn (by simp); replace hc := belowcell hB; clear hn))
  go_ret
  refine ⟨rfl, fin_of hB ?_ (by omega)⟩
  repeat (first | exact HB0.out | (refine Below.alloc ?_ (by first | omega | (simp; omega)) _))

end Go.Proofs.Ythgeghdegpgijaa.Conf
