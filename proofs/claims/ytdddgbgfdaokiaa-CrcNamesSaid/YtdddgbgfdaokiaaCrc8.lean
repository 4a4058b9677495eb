/- Contracts of the document's answer for crc: Seal, Is, Open. -/
import Derived.Test.YtdddgbgfdaokiaaCrc7
import Derived.Deep.RegionHeld
namespace Go.Proofs.Ytdddgbgfdaokiaa.Crc
open Go.RowKit Go.Proofs.Ytdddgbgfdaokiaa

set_option maxHeartbeats 1000000 in
theorem refSeal_any (a : Option Addr) (cap : Nat) (zs : List Int) (w : World) (hz : Bytes zs) (hr : Rd .u8 w a zs) (hn : a = Option.none → cap = 0) (hl : zs.length ≤ 9223372036854775807) :
    Calls Try.prog 16 #[.slice a zs.length cap] w fun e w' => Ans (sealV zs) w e w' := by
  by_cases h : 1048576 < zs.length
  · have H := Lib.hid (sealV_hi h)
    go_enter Try.func16, Try.ntmps16
    go_wp2
    go_ret2
    exact Ans.nil H.out (Below.refl _ _)
  · have H := Lib.hid (sealV_lo h)
    go_enter Try.func16, Try.ntmps16
    go_wp2_with fail
    refine (refSealed_any a cap zs w hz hr hn (by omega)).mono ?_
    rintro e w' ⟨v, rfl, hv, hb⟩
    have HV := Lib.hid hv
    clear hv
    go_wp2
    go_ret2
    exact Ans.some H.out HV.out hb

/-- Are they sealed bytes? -/
def isV (t : List Int) : Bool := decide (¬ t.length < 4 ∧ sealed (t.take (t.length - 4)) = t)

theorem conv_rd {w : World} {a : Option Addr} {n cap : Nat} {zs : List Int} (h : Rd .u8 w a zs) (hn : zs.length = n) :
    (convert 23 9 (.slice a n cap)).run Try.prog w = .ok (.string (strOfNums zs)) w := by
  subst hn
  exact (Rd_in h).convert rfl cap _ _ _ Try.underlying23 Try.underlying5 Try.underlying9

set_option maxRecDepth 100000 in
set_option maxHeartbeats 2000000 in
theorem refIs_any (a : Option Addr) (cap : Nat) (zs : List Int) (w : World) (hz : Bytes zs) (hr : Rd .u8 w a zs) (hn : a = Option.none → cap = 0) (hl : zs.length ≤ 1048576) (hc : zs.length ≤ cap) :
    Calls Try.prog 29 #[.slice a zs.length cap] w fun e w' => e = .returned (.bool (isV zs)) ∧ Below w.heap.size w w' := by
  by_cases h4 : zs.length < 4
  · have H := Lib.hid (show isV zs = false by unfold isV; simp [h4])
    have hd : decide (4 ≤ (zs.length : Int)) = false := by rw [decide_eq_false_iff_not]; omega
    clear hr hn
    go_enter Try.func29, Try.ntmps29
    go_wp2
    go_quiet (fail)
    go_wp2
    go_ret
    exact ⟨ret_bool H.out.symm, below_drewN (Below.refl _ _) _⟩
  have hlen : (zs.take (zs.length - 4)).length = zs.length - 4 := by rw [List.length_take]; omega
  have ht := hr.take (zs.length - 4)
  have hzt := hz.take (zs.length - 4)
  have HX : Hid (isV zs = decide (sealed (zs.take (zs.length - 4)) = zs)) := Lib.hid (by unfold isV; simp [h4])
  have HE := Lib.hid (str_beq hzt.sealed hz)
  generalize zs.take (zs.length - 4) = ts at *
  have HL2 : Hid (((zs.length : Int) - 4).toNat = ts.length) := Lib.hid (by omega)
  have hl2 : ((zs.length - 4 : Nat) : Int) = (zs.length : Int) - 4 := by omega
  have hs4 : ¬ (zs.length : Int) < 4 := by omega
  have hw : IntKind.i64.wrap ((zs.length : Int) - 4) = (zs.length : Int) - 4 := by rw [IntKind.wrap_i64]; omega
  have hs0 : (4 : Int) ≤ (zs.length : Int) := by omega
  have hs2 : (0 : Int) ≤ (zs.length : Int) - 4 := by omega
  have hs1 : (zs.length : Int) - 4 ≤ (cap : Int) := by omega
  go_enter Try.func29, Try.ntmps29
  go_wp2
  go_region_held (fun w' => Below w.heap.size w w' ∧ (convert 23 9 (.slice a zs.length cap)).run Try.prog w' = .ok (.string (strOfNums zs)) w') (first | exact ⟨hb1, conv_rd hr1 rfl⟩ | exact ⟨Below.refl _ _, conv_rd hr rfl⟩ | (refine ⟨(Below.refl _ _).drew, conv_rd (hr.mono (Below.refl _ _).drew (Nat.le_refl _)) rfl⟩))
    (first | (go_at_call 28
              rw [HL2.out]
              refine (refSealed_any a cap ts _ hzt (ht.mono (Below.refl _ _).drew (Nat.le_refl _)) hn (by omega)).mono ?_
              rintro e w1 ⟨v, rfl, hv, hb⟩
              have hb1 : Below w.heap.size w w1 := (Below.refl w.heap.size w).drew.trans hb
              obtain ⟨a1, c1, rfl, hlx, hv1⟩ := Rd.of_owns hv
              have hr1 := hr.mono hb1 (Nat.le_refl _)
              have hcv := conv_rd (n := (sealed ts).length) (cap := c1) hv1 rfl
              clear hv hb hv1))
  rw [HE.out, ← HX.out]
  have HB := Lib.hid hb1
  clear hr hr1 ht hb1 hcv
  go_wp2
  go_ret
  exact ⟨rfl, HB.out⟩

end Go.Proofs.Ytdddgbgfdaokiaa.Crc
