/- Contracts of package occ: Count. Plain facts on words of the double format that stand for integers: no program in sight. What the functions of package frac compute, as plain functions on integers: no program in sight. Plain facts on logarithms, powers and wrapped products: no program in sight. Contracts of the functions of package frac, and of the document's answer for it. Contracts of the functions of package frac, their answers given. How arguments are opened that are structs or arrays of integers, or slices of integers: no program in sight. -/
import Derived.Test.YtiemfklonhlnnaaMab
import Derived.Stop.RegionWithIn
import Derived.Laws.ComplexArith
import Derived.WalkKit
import Derived.Lib.BitFns
import Derived.Test.YtiemfklonhlnnaaProg
import Derived.WalkSpells
import Derived.WalkLawsBesides
import Derived.Deep.QuietTactic
import Derived.BigQuiet
import Derived.Lib.Hide
import Derived.Test.YtiemfklonhlnnaaShelf
import Derived.ProofKit
import Derived.OpenShut
import Derived.ChangeOld
import Derived.Below
set_option linter.unusedSimpArgs false
set_option linter.unusedVariables false
namespace Go.Proofs.Ytiemfklonhlnnaa.Occ
open Go.RowKit Go.Shelf Go.Proofs.Ytiemfklonhlnnaa
attribute [local go_sem] Oper.semAt_some

set_option maxRecDepth 100000 in
set_option maxHeartbeats 2000000 in
theorem count_ok (a : Option Addr) (ca : Nat) (ws : List Int) (m f t : Nat) (w : World) (hu : U64 ws) (hr : Rd .u64 w a ws) (hl : ws.length ≤ 100000) (hv : askV ws m (inB m f t) = 0) :
    Calls Try.prog 46 #[.slice a ws.length ca, .int .i64 m, .int .i64 f, .int .i64 t] w fun e w' => e = .returned (.tuple #[.int .i64 ((occs ws f (t - f)).length : Int), .int .i64 0]) ∧ Below w.heap.size w w' := by
  obtain ⟨hc, hb⟩ := askV_ok hv
  obtain ⟨m', hm', hm, hlen, _⟩ := chkV_ok hc
  obtain rfl : m = m' := Int.ofNat_inj.1 hm'
  obtain ⟨h0, h1, h2⟩ := inB_iff.1 hb
  have hft : f ≤ t := by omega
  have htl : t ≤ 64 * ws.length := by omega
  have hb0 : Below w.heap.size w (w.alloc (.cells #[.int .i64 0] 3)) := (Below.refl _ w).alloc (Nat.le_refl _) _
  have HA := Lib.hid (asked_any a ca ws m true (w.alloc (.cells #[.int .i64 0] 3)) hu (hr.mono hb0 (Nat.le_refl _)) hl)
  rw [hb] at hv
  rw [hv] at HA
  have HU := Lib.hid hu
  have HR := Lib.hid hr
  have HALL := Lib.hid (bI_all ws f t hft)
  have HNY : Hid (ny f t ≤ 100001) := Lib.hid (by unfold ny; omega)
  have hm2 : (f : Int) ≤ (t : Int) := by omega
  have hm3 : (t : Int) ≤ (m : Int) := h2
  clear hu hr hc hb hlen hv hm' h0 h1 h2
  refine (callsIn_wide (n := 2)).1 ?_
  refine callsIn_of_wp_marks Try.func46 rfl trivial ?_ rfl
  simp only [Try.ntmps46, List.size_toArray, List.length_cons, List.length_nil, Nat.reduceAdd, Nat.reduceSub, Array.replicate_succ, Array.replicate_zero, List.push_toArray, List.append_toArray, List.nil_append, List.cons_append]
  gi_wp2_with fail
  refine ⟨trivial, (callsIn_wide.2 HA.out).mono ?_⟩
  rintro e w' ⟨rfl, rfl⟩
  gi_wp2_with fail
  refine ⟨trivial, (callsIn_wide.2 (parts_any _ _ _ _ _ _)).mono ?_⟩
  rintro e w' ⟨rfl, rfl⟩
  have bM := Boxed.new w 3 (.int .i64 0)
  have hw2 : (w.alloc (.cells #[.int .i64 0] 3)).heap.size = w.heap.size + 1 := by simp
  generalize w.alloc (.cells #[.int .i64 0] 3) = w2 at *
  have hst := parts_stops 1 w.heap.size f t ca a ws w2 HU.out ((RdN.of HR.out (Nat.le_refl _)).keep hb0) (by omega) hl htl hft
  have hs := boxP_size w2 a ws.length ca f t
  have hbx := boxP_below w2 a ws.length ca f t
  have HW2 := Lib.hid hw2
  have HS := Lib.hid hs
  clear hw2 hs
  gi_wp2_with fail
  have hw2 : w2.heap.size ≤ w.heap.size + 1 ∧ w.heap.size + 1 ≤ w2.heap.size := by have := HW2.out; omega
  have hs : (boxP w2 a ws.length ca f t).heap.size ≤ w2.heap.size + 3 ∧ w2.heap.size + 3 ≤ (boxP w2 a ws.length ca f t).heap.size := by have := HS.out; omega
  have bM := bM.kept (grown0 hbx) (by simp)
  have hB3 := hb0.trans (hbx.mono (by omega))
  generalize boxP w2 a ws.length ca f t = w3 at *
  have hKE := Keeps.b (n0 := w.heap.size) (lo := w2.heap.size) (hi := w2.heap.size + 3) (w := w3) (by omega) (by omega)
  refine rangeFunc_put (fun j => [(35, .int .i64 ((ym ws f t j).1 : Int)), (36, .int .u64 ((ym ws f t j).2 : Int)), (12, .int .u64 ((ym ws f t j).2 : Int))]) rfl (by decide) (gf := 66) (lb := #[.pointer (some ⟨w2.heap.size, 0, Option.none⟩), .pointer (some ⟨w2.heap.size + 1, 0, Option.none⟩), .pointer (some ⟨w2.heap.size + 2, 0, Option.none⟩)]) rfl trivial (enters_of Try.func66 (by kernel_rfl) rfl) hst Keeps.t hKE (Below.refl _ _) (fun _ => rfl)
    (fun pre W => (W.cell? ⟨w.heap.size, 0, Option.none⟩ = some (.int .i64 (((bI ws f t pre).length : Nat) : Int)) ∧ W.frozen? ⟨w.heap.size, 0, Option.none⟩ = false) ∧ Below w.heap.size w W)
    (fun c pre W => False ∧ Below w.heap.size w W)
    (OwnFrom.and (Own.from (fun s A B row hs hg hr => ⟨cell_kept hs.1 hg hr, (frozen_kept hs.1 hg hr).trans hs.2⟩) _) (ownFrom_below (Nat.le_refl _) (by omega)))
    (fun c => OwnFrom.and (Own.from (fun s A B row hs hg hr => hs) _) (ownFrom_below (Nat.le_refl _) (by omega)))
    ⟨⟨bM.cell, bM.frozen⟩, hB3⟩ ?assign ?body ?done ?stop
  case assign =>
    intro l x W K hK
    dsimp only [encJ, encP]
    gi_wp2
    exact hK
  case body =>
    rintro l pre j W ⟨⟨hc, hf⟩, hB⟩ hN
    have hlt := ym_lt HU.out f t j
    have HSN := Lib.hid (bI_snoc ws f t pre j)
    have HBL := Lib.hid (bl_length (ym ws f t j).2 (ym ws f t j).1)
    have hbn := bI_length (ws := ws) (f := f) (t := t) pre
    have hny := HNY.out
    have hpop : popN (ym ws f t j).2 ≤ 64 := by
      have := HBL.out
      unfold bl at this; rw [List.length_map] at this
      have h3 := List.length_filter_le (fun i => (ym ws f t j).2.testBit i) (List.range 64)
      rw [List.length_range] at h3
      unfold popN; omega
    have HO := Lib.hid (fun w => OnesCount_any (ym ws f t j).2 w hlt)
    have hnew : ((bI ws f t (pre ++ [j])).length : Int) = ((bI ws f t pre).length : Int) + (popN (ym ws f t j).2 : Int) := by
      rw [HSN.out, List.length_append, HBL.out]; unfold popN; omega
    have HNEW := Lib.hid hnew
    clear hnew
    generalize (bI ws f t pre).length = cn at *
    generalize (ym ws f t j).2 = x at *
    generalize (ym ws f t j).1 = fi at *
    generalize popN x = p at *
    have hcn : cn ≤ 6500000 := by omega
    have hwr : IntKind.i64.wrap ((cn : Int) + (p : Int)) = (cn : Int) + (p : Int) := by rw [IntKind.wrap_i64]; omega
    clear hbn hny
    gi_wp2
    gi_region_with (first | (refine ⟨trivial, rfl, (CallsIn.inRound l (callsIn_wide.2 (HO.out _))).mono ?_⟩; rintro e w1 ⟨rfl, rfl⟩))
    all_goals
      gi_wp2
      have hk1 : Keeps w.heap.size w2.heap.size (w2.heap.size + 3) W (W.setCell ⟨w.heap.size, 0, Option.none⟩ (.int .i64 ((cn : Int) + (p : Int)))) := (Keeps.refl _ _ _ W).setCell _ (by simp) (by simp; omega) _
      refine ⟨((KeepsOthers.setCell _ _ _).trans (KeepsOthers.drew _)).from _, hk1.t ⟨(Below.refl _ _).drew, fun _ _ _ => rfl⟩, ⟨⟨?_, ?_⟩, (hB.setCell (by simp) _).drew⟩⟩
      · rw [cell_drew_own, World.cell?_setCell_same' _ _ _ (by rw [hc]; rfl), HNEW.out]
      · rw [frozen_drew_own, World.frozen?_setCell]; exact hf
  case done =>
    rintro D ys W hD rfl ⟨⟨hc, hf⟩, hB⟩ hK
    rw [HALL.out] at hc
    obtain ⟨cn, hcn⟩ : ∃ cn, cn = (occs ws f (t - f)).length := ⟨_, rfl⟩
    rw [← hcn] at hc
    have HCN := Lib.hid hcn
    clear hcn
    gi_wp2
    have hK' := (KeepsOthers.setCell W ⟨w.heap.size, 0, Option.none⟩ (.int .i64 cn)).same D _ hK rfl
    refine ⟨by simp, .inl ⟨_, _, rfl, run_takeDeferred hK', ?_⟩⟩
    have hc5 := cell_kept (World.cell?_setCell_same' W ⟨w.heap.size, 0, Option.none⟩ (.int .i64 cn) (by rw [hc]; rfl)) (grownBy_putObj' _ D (.deferred Option.none)) (fun r e => by cases e; exact ⟨_, hK', rfl⟩)
    refine ⟨.tuple #[.int .i64 cn, .int .i64 0], by simp [results, Try.results46, go_sem, hc5], by rw [HCN.out], ?_⟩
    exact (hB.setCell (by simp) _).trans (belowK_b (w := w) (Nat.le_refl _) _ D _ _ (by omega) hK' rfl rfl)
  case stop =>
    rintro D c pre W hD hpre ⟨h, hB⟩ hK
    exact h.elim

set_option maxRecDepth 100000 in
set_option maxHeartbeats 1000000 in
theorem Count_any (a : Option Addr) (ca : Nat) (ws : List Int) (n f t : Int) (w : World) (hu : U64 ws) (hr : Rd .u64 w a ws) (hl : ws.length ≤ 100000) :
    Calls Try.prog 46 #[.slice a ws.length ca, .int .i64 n, .int .i64 f, .int .i64 t] w fun e w' => e = .returned (.tuple #[.int .i64 (cntV ws n f t).1, .int .i64 (cntV ws n f t).2]) ∧ Below w.heap.size w w' := by
  by_cases hv : askV ws n (inB n f t) = 0
  · obtain ⟨hc, hb⟩ := askV_ok hv
    obtain ⟨m, rfl, hm, hlen, _⟩ := chkV_ok hc
    obtain ⟨h0, h1, h2⟩ := inB_iff.1 hb
    obtain ⟨f, rfl⟩ := Int.eq_ofNat_of_zero_le h0
    obtain ⟨t, rfl⟩ := Int.eq_ofNat_of_zero_le (show 0 ≤ t by omega)
    rw [show cntV ws (m : Int) (f : Int) (t : Int) = (((occs ws f (t - f)).length : Int), 0) by unfold cntV; rw [if_pos hv, Int.toNat_natCast, show ((t : Int) - (f : Int)).toNat = t - f by omega]]
    exact count_ok a ca ws m f t w hu hr hl hv
  · rw [show cntV ws n f t = (0, askV ws n (inB n f t)) from if_neg hv]
    have hb0 : Below w.heap.size w (w.alloc (.cells #[.int .i64 0] 3)) := (Below.refl _ w).alloc (Nat.le_refl _) _
    have HA1 := Lib.hid (asked_any a ca ws n (inB n f t) (w.alloc (.cells #[.int .i64 0] 3)) hu (hr.mono hb0 (Nat.le_refl _)) hl)
    have HB0 := Lib.hid hb0
    generalize hc : askV ws n (inB n f t) = c at *
    clear hu hr hc hb0
    by_cases h0 : 0 ≤ f
    · by_cases h1 : f ≤ t
      · by_cases h2 : t ≤ n
        · rw [inB_iff.2 ⟨h0, h1, h2⟩] at HA1
          go_enter Try.func46, Try.ntmps46
          go_wp2_with fail
          refine HA1.out.mono ?_
          rintro e w' ⟨rfl, rfl⟩
          go_wp2
          exact bodyPost_ret (v := .tuple #[.int .i64 0, .int .i64 c]) (by simp [results, Try.results46, go_sem]) rfl ⟨rfl, HB0.out⟩
        · rw [show inB n f t = false by rw [Bool.eq_false_iff]; exact fun g => h2 (inB_iff.1 g).2.2] at HA1
          go_enter Try.func46, Try.ntmps46
          go_wp2_with fail
          refine HA1.out.mono ?_
          rintro e w' ⟨rfl, rfl⟩
          go_wp2
          exact bodyPost_ret (v := .tuple #[.int .i64 0, .int .i64 c]) (by simp [results, Try.results46, go_sem]) rfl ⟨rfl, HB0.out⟩
      · rw [show inB n f t = false by rw [Bool.eq_false_iff]; exact fun g => h1 (inB_iff.1 g).2.1] at HA1
        go_enter Try.func46, Try.ntmps46
        go_wp2_with fail
        refine HA1.out.mono ?_
        rintro e w' ⟨rfl, rfl⟩
        go_wp2
        exact bodyPost_ret (v := .tuple #[.int .i64 0, .int .i64 c]) (by simp [results, Try.results46, go_sem]) rfl ⟨rfl, HB0.out⟩
    · rw [show inB n f t = false by rw [Bool.eq_false_iff]; exact fun g => h0 (inB_iff.1 g).1] at HA1
      go_enter Try.func46, Try.ntmps46
      go_wp2_with fail
      refine HA1.out.mono ?_
      rintro e w' ⟨rfl, rfl⟩
      go_wp2
      exact bodyPost_ret (v := .tuple #[.int .i64 0, .int .i64 c]) (by simp [results, Try.results46, go_sem]) rfl ⟨rfl, HB0.out⟩

end Go.Proofs.Ytiemfklonhlnnaa.Occ

namespace Go.Proofs.Ytiemfklonhlnnaa.Fl
open Go Ieee

/-- The word x of the double format stands for the integer n. -/
def IsInt (x : Nat) (n : Int) : Prop := ∃ s m k, double.read x = .number s m (-(k : Nat)) ∧ (if s then -(m : Int) else (m : Int)) = n * 2 ^ k

theorem signed_shift (s : Bool) (m k : Nat) : signed s m k = (if s then -(m : Int) else (m : Int)) * 2 ^ k := by
  unfold signed
  cases s <;> simp [Nat.shiftLeft_eq, Int.neg_mul]

theorem read_word (s : Bool) (r : Nat) (h : r < 2 ^ 63) : double.word s r < 2^64 ∧ (double.word s r / double.signWeight % 2 == 1) = s ∧ double.word s r % double.signWeight = r := by
  have e : double.signWeight = 2 ^ 63 := rfl
  unfold Format.word
  rw [e]
  cases s <;> simp <;> omega

/-- A zero is written and read back. -/
theorem read_zero (s : Bool) : double.read (double.word s 0) = .number s 0 (-(1074 : Nat)) := by
  cases s <;> rfl

theorem log2_shift (n k : Nat) (h : n ≠ 0) : (n <<< k).log2 = n.log2 + k := by
  have h1 : n <<< k ≠ 0 := by rw [Nat.shiftLeft_eq]; exact Nat.mul_ne_zero h (Nat.pos_iff_ne_zero.1 (Nat.two_pow_pos k))
  rw [Nat.log2_eq_iff h1, Nat.shiftLeft_eq]
  have a := Nat.log2_self_le h
  have b := Nat.lt_log2_self (n := n)
  constructor
  · rw [Nat.pow_add]; exact Nat.mul_le_mul_right _ a
  · rw [show n.log2 + k + 1 = (n.log2 + 1) + k by omega, Nat.pow_add]; exact Nat.mul_lt_mul_of_pos_right b (Nat.two_pow_pos k)

theorem cut_exact (s : Bool) (n d : Nat) (h : d ≤ (n <<< d).log2 + 2) : Toward.even.cut s (n <<< d) d = n := by
  unfold Toward.cut
  have e : min d ((n <<< d).log2 + 2) = d := Nat.min_eq_left h
  rw [e]
  simp only [Nat.shiftLeft_eq, Nat.one_mul]
  have p := Nat.two_pow_pos d
  rw [Nat.mul_div_cancel _ p, Nat.mul_mod_left]
  generalize 2 ^ d = q at *
  have c1 : decide (q < 2 * 0) = false := by simp
  have c2 : (q == 2 * 0) = false := by simp; omega
  simp only [c1, c2]
  rfl

theorem nearest_exact (s : Bool) (N k : Nat) (h0 : N ≠ 0) (h1 : N < 2 ^ 53) :
    double.nearest s (N <<< k) (-(k : Nat)) = double.word s ((N.log2 + 1022) * 2 ^ 52 + N <<< (52 - N.log2)) := by
  have hlog : N.log2 < 53 := (Nat.log2_lt h0).2 h1
  have hs : N <<< k ≠ 0 := by rw [Nat.shiftLeft_eq]; exact Nat.mul_ne_zero h0 (Nat.pos_iff_ne_zero.1 (Nat.two_pow_pos k))
  have el := log2_shift N k h0
  unfold Format.nearest
  rw [if_neg hs]
  have elp : double.leastPlace = -1074 := rfl
  have efb : double.fractionBits = 52 := rfl
  have ebi : double.binade = 2 ^ 52 := rfl
  have eir : double.infRung = 2047 * 2 ^ 52 := rfl
  simp only [el, elp, efb, ebi, eir]
  have e1 : max (-(k : Int) + ((N.log2 + k : Nat) : Int) - ((52 : Nat) : Int)) (-1074) = (N.log2 : Int) - 52 := by omega
  rw [e1]
  have hkept : Toward.even.cut s (N <<< k <<< (-(k : Int) - ((N.log2 : Int) - 52)).toNat) ((N.log2 : Int) - 52 - -(k : Int)).toNat = N <<< (52 - N.log2) := by
    by_cases c : k ≤ 52 - N.log2
    · have a1 : (-(k : Int) - ((N.log2 : Int) - 52)).toNat = 52 - N.log2 - k := by omega
      have a2 : ((N.log2 : Int) - 52 - -(k : Int)).toNat = 0 := by omega
      rw [a1, a2]
      have := cut_exact s (N <<< (52 - N.log2)) 0 (by omega)
      rw [Nat.shiftLeft_zero] at this
      rw [← Nat.shiftLeft_add, show k + (52 - N.log2 - k) = 52 - N.log2 by omega]
      exact this
    · have a1 : (-(k : Int) - ((N.log2 : Int) - 52)).toNat = 0 := by omega
      have a2 : ((N.log2 : Int) - 52 - -(k : Int)).toNat = k - (52 - N.log2) := by omega
      rw [a1, a2, Nat.shiftLeft_zero]
      have := cut_exact s (N <<< (52 - N.log2)) (k - (52 - N.log2)) (by
        rw [← Nat.shiftLeft_add, show 52 - N.log2 + (k - (52 - N.log2)) = k by omega, el]; omega)
      rw [← Nat.shiftLeft_add, show 52 - N.log2 + (k - (52 - N.log2)) = k by omega] at this
      exact this
  rw [hkept]
  have e2 : ((N.log2 : Int) - 52 - -1074).toNat = N.log2 + 1022 := by omega
  rw [e2]
  have hk2 : N <<< (52 - N.log2) < 2 ^ 53 := by
    rw [Nat.shiftLeft_eq]
    have b := Nat.lt_log2_self (n := N)
    have : N * 2 ^ (52 - N.log2) < 2 ^ (N.log2 + 1) * 2 ^ (52 - N.log2) := Nat.mul_lt_mul_of_pos_right b (Nat.two_pow_pos _)
    rw [← Nat.pow_add, show N.log2 + 1 + (52 - N.log2) = 53 by omega] at this
    exact this
  rw [Nat.min_eq_left]
  omega

theorem read_exact (s : Bool) (N k : Nat) (h0 : N ≠ 0) (h1 : N < 2 ^ 53) :
    double.read (double.nearest s (N <<< k) (-(k : Nat))) = .number s (N <<< (52 - N.log2)) (-((52 - N.log2 : Nat) : Nat)) := by
  rw [nearest_exact s N k h0 h1]
  have hlog : N.log2 < 53 := (Nat.log2_lt h0).2 h1
  have hk2 : N <<< (52 - N.log2) < 2 ^ 53 := by
    rw [Nat.shiftLeft_eq]
    have b := Nat.lt_log2_self (n := N)
    have : N * 2 ^ (52 - N.log2) < 2 ^ (N.log2 + 1) * 2 ^ (52 - N.log2) := Nat.mul_lt_mul_of_pos_right b (Nat.two_pow_pos _)
    rw [← Nat.pow_add, show N.log2 + 1 + (52 - N.log2) = 53 by omega] at this
    exact this
  have hk1 : 2 ^ 52 ≤ N <<< (52 - N.log2) := by
    rw [Nat.shiftLeft_eq]
    have b := Nat.log2_self_le h0
    have : 2 ^ N.log2 * 2 ^ (52 - N.log2) ≤ N * 2 ^ (52 - N.log2) := Nat.mul_le_mul_right _ b
    rw [← Nat.pow_add, show N.log2 + (52 - N.log2) = 52 by omega] at this
    exact this
  generalize N <<< (52 - N.log2) = kept at *
  obtain ⟨_, e1, e2⟩ := read_word s ((N.log2 + 1022) * 2 ^ 52 + kept) (by omega)
  unfold Format.read
  have elp : double.leastPlace = -1074 := rfl
  have ebi : double.binade = 2 ^ 52 := rfl
  have eir : double.infRung = 2047 * 2 ^ 52 := rfl
  simp only [e1, e2, elp, ebi, eir]
  rw [if_neg (by omega), if_pos (by omega)]
  congr 1
  · omega
  · omega

/-- What is written of an integer that is small enough is that integer. -/
theorem isInt_write (s : Bool) (N k : Nat) (h1 : N < 2 ^ 53) (n : Int) (hn : (if s then -(N : Int) else (N : Int)) = n) : IsInt (double.write (.number s (N <<< k) (-(k : Nat)))) n := by
  show IsInt (double.nearest s (N <<< k) (-(k : Nat))) n
  by_cases h0 : N = 0
  · subst h0
    have : double.nearest s (0 <<< k) (-(k : Nat)) = double.word s 0 := by
      unfold Format.nearest; simp
    rw [this]
    refine ⟨s, 0, 1074, read_zero s, ?_⟩
    subst hn
    have e : (if s then -((0 : Nat) : Int) else ((0 : Nat) : Int)) = 0 := by cases s <;> rfl
    rw [e, Int.zero_mul]
  · refine ⟨s, _, _, read_exact s N k h0 h1, ?_⟩
    subst hn
    rw [Nat.shiftLeft_eq]
    cases s <;> simp [Int.neg_mul]

theorem isInt_ofInt (n : Int) (h : n.natAbs < 2 ^ 53) : IsInt (floatOfInt .f64 n) n := by
  have := isInt_write (decide (n < 0)) n.natAbs 0 h n (by
    by_cases c : n < 0
    · simp [c]; omega
    · simp [c]; omega)
  rw [Nat.shiftLeft_zero] at this
  exact this

theorem isInt_neg {x : Nat} {n : Int} (h : IsInt x n) : IsInt (Op.negFloat .f64 x) (-n) := by
  obtain ⟨s, m, k, hr, hv⟩ := h
  refine ⟨!s, m, k, ?_, ?_⟩
  · have e : Op.negFloat .f64 x = x ^^^ 2 ^ 63 := rfl
    rw [e]
    unfold Format.read at hr ⊢
    have esw : double.signWeight = 2 ^ 63 := rfl
    rw [esw] at hr ⊢
    have e1 : (x ^^^ 2 ^ 63) % 2 ^ 63 = x % 2 ^ 63 := by
      rw [Nat.xor_mod_two_pow]; simp
    have e2 : ((x ^^^ 2 ^ 63) / 2 ^ 63 % 2 == 1) = !(x / 2 ^ 63 % 2 == 1) := by
      rw [Nat.xor_div_two_pow, Nat.div_self (Nat.two_pow_pos 63)]
      rw [show 2 = 2 ^ 1 from rfl, Nat.xor_mod_two_pow]
      have : x / (2 ^ 1) ^ 63 % 2 ^ 1 < 2 := Nat.mod_lt _ (by decide)
      generalize x / (2 ^ 1) ^ 63 % 2 ^ 1 = y at *
      have : y = 0 ∨ y = 1 := by omega
      rcases this with rfl | rfl <;> rfl
    simp only [e1, e2]
    generalize (x / 2 ^ 63 % 2 == 1) = t at *
    dsimp only at hr
    split at hr
    · rename_i c; rw [if_pos c]; simp only [Datum.number.injEq] at hr ⊢; obtain ⟨rfl, rfl, h3⟩ := hr; exact ⟨rfl, rfl, h3⟩
    · rename_i c
      rw [if_neg c]
      split at hr
      · rename_i c; rw [if_pos c]; simp only [Datum.number.injEq] at hr ⊢; obtain ⟨rfl, rfl, h3⟩ := hr; exact ⟨rfl, rfl, h3⟩
      · split at hr
        · exact absurd hr (by simp)
        · exact absurd hr (by simp)
  · cases s <;> simp at hv ⊢ <;> rw [Int.neg_mul, ← hv] <;> simp

theorem isInt_mul {x y : Nat} {a b : Int} (hx : IsInt x a) (hy : IsInt y b) (h : (a * b).natAbs < 2 ^ 53) : ∃ r, floatBits .mul .f64 x y = some r ∧ IsInt r (a * b) := by
  obtain ⟨s, m, k, hr, hv⟩ := hx
  obtain ⟨t, n, l, hr', hv'⟩ := hy
  have e : floatBits .mul .f64 x y = some (double.write (.number (s ^^ t) (m * n) (-(k : Int) + -(l : Int)))) := by
    show double.mul x y = _
    unfold Format.mul
    rw [hr, hr']
    rfl
  refine ⟨_, e, ?_⟩
  have em : m = a.natAbs * 2 ^ k := by
    have := congrArg Int.natAbs hv
    rw [Int.natAbs_mul, Int.natAbs_pow] at this
    cases s <;> simpa using this
  have en : n = b.natAbs * 2 ^ l := by
    have := congrArg Int.natAbs hv'
    rw [Int.natAbs_mul, Int.natAbs_pow] at this
    cases t <;> simpa using this
  have e2 : m * n = (a * b).natAbs <<< (k + l) := by
    rw [Nat.shiftLeft_eq, Int.natAbs_mul, Nat.pow_add, em, en]
    simp only [Nat.mul_left_comm, Nat.mul_assoc]
  have e3 : -(k : Int) + -(l : Int) = -((k + l : Nat) : Int) := by omega
  rw [e2, e3]
  by_cases hz : a * b = 0
  · rw [hz]
    exact isInt_write _ 0 _ (by decide) 0 (by cases (s ^^ t) <;> simp)
  · refine isInt_write _ _ _ h _ ?_
    have ha : a ≠ 0 := fun c => hz (by simp [c])
    have hb : b ≠ 0 := fun c => hz (by simp [c])
    have p1 : (0 : Int) < 2 ^ k := by exact_mod_cast Nat.two_pow_pos k
    have p2 : (0 : Int) < 2 ^ l := by exact_mod_cast Nat.two_pow_pos l
    have sa : s = true ↔ a < 0 := by
      constructor
      · intro c; subst c
        simp at hv
        rcases Int.lt_or_lt_of_ne ha with q | q
        · exact q
        · exfalso; have := Int.mul_pos q p1; omega
      · intro c
        cases s with
        | true => rfl
        | false => exfalso; simp at hv; have := Int.mul_neg_of_neg_of_pos c p1; omega
    have sb : t = true ↔ b < 0 := by
      constructor
      · intro c; subst c
        simp at hv'
        rcases Int.lt_or_lt_of_ne hb with q | q
        · exact q
        · exfalso; have := Int.mul_pos q p2; omega
      · intro c
        cases t with
        | true => rfl
        | false => exfalso; simp at hv'; have := Int.mul_neg_of_neg_of_pos c p2; omega
    by_cases ca : a < 0 <;> by_cases cb : b < 0
    · have := Int.mul_pos_of_neg_of_neg ca cb
      simp [sa.2 ca, sb.2 cb]; omega
    · have := Int.mul_neg_of_neg_of_pos ca (show 0 < b by omega)
      have tf : t = false := by cases t with | false => rfl | true => exact absurd (sb.1 rfl) cb
      simp [sa.2 ca, tf]; omega
    · have := Int.mul_neg_of_pos_of_neg (show 0 < a by omega) cb
      have sf : s = false := by cases s with | false => rfl | true => exact absurd (sa.1 rfl) ca
      simp [sb.2 cb, sf]; omega
    · have := Int.mul_pos (show 0 < a by omega) (show 0 < b by omega)
      have tf : t = false := by cases t with | false => rfl | true => exact absurd (sb.1 rfl) cb
      have sf : s = false := by cases s with | false => rfl | true => exact absurd (sa.1 rfl) ca
      simp [tf, sf]; omega

theorem signed_read {s : Bool} {m k : Nat} {n : Int} (h : (if s then -(m : Int) else (m : Int)) = n * 2 ^ k) (u : Nat) : signed s m u = n * 2 ^ (k + u) := by
  rw [signed_shift, h, Int.pow_add, Int.mul_assoc]

/-- The sum of two words that stand for integers. -/
theorem isInt_add {x y : Nat} {a b : Int} (hx : IsInt x a) (hy : IsInt y b) (h : (a + b).natAbs < 2 ^ 53) : ∃ r, floatBits .add .f64 x y = some r ∧ IsInt r (a + b) := by
  obtain ⟨s, m, k, hr, hv⟩ := hx
  obtain ⟨t, n, l, hr', hv'⟩ := hy
  have e : double.add x y = some (double.write (.number (if signed s m ((-(k : Int)) - min (-(k : Int)) (-(l : Int))).toNat + signed t n ((-(l : Int)) - min (-(k : Int)) (-(l : Int))).toNat = 0 then s && t else signed s m ((-(k : Int)) - min (-(k : Int)) (-(l : Int))).toNat + signed t n ((-(l : Int)) - min (-(k : Int)) (-(l : Int))).toNat < 0) (signed s m ((-(k : Int)) - min (-(k : Int)) (-(l : Int))).toNat + signed t n ((-(l : Int)) - min (-(k : Int)) (-(l : Int))).toNat).natAbs (min (-(k : Int)) (-(l : Int))))) := by
    unfold Format.add
    rw [hr, hr']
    simp only [Datum.sum, Option.map_some]
  refine ⟨_, e, ?_⟩
  have e1 : min (-(k : Int)) (-(l : Int)) = -((max k l : Nat) : Int) := by omega
  rw [signed_read hv, signed_read hv', e1]
  have f1 : k + ((-(k : Int)) - -((max k l : Nat) : Int)).toNat = max k l := by omega
  have f2 : l + ((-(l : Int)) - -((max k l : Nat) : Int)).toNat = max k l := by omega
  rw [f1, f2, ← Int.add_mul]
  have p1 : (0 : Int) < 2 ^ (max k l) := by exact_mod_cast Nat.two_pow_pos _
  have e3 : ((a + b) * 2 ^ (max k l)).natAbs = (a + b).natAbs <<< (max k l) := by
    rw [Nat.shiftLeft_eq, Int.natAbs_mul, Int.natAbs_pow]; rfl
  rw [e3]
  refine isInt_write _ _ _ h _ ?_
  by_cases hz : a + b = 0
  · simp [hz]
  · have hne : (a + b) * 2 ^ (max k l) ≠ 0 := Int.mul_ne_zero hz (by omega)
    rw [if_neg hne]
    by_cases c : a + b < 0
    · have := Int.mul_neg_of_neg_of_pos c p1
      simp [this]; omega
    · have := Int.mul_pos (show 0 < a + b by omega) p1
      have c2 : ¬ (a + b) * 2 ^ (max k l) < 0 := by omega
      simp [c2]; omega

/-- The difference. -/
theorem isInt_sub {x y : Nat} {a b : Int} (hx : IsInt x a) (hy : IsInt y b) (h : (a - b).natAbs < 2 ^ 53) : ∃ r, floatBits .sub .f64 x y = some r ∧ IsInt r (a - b) := by
  obtain ⟨t, n, l, hr', hv'⟩ := hy
  obtain ⟨s, m, k, hr, hv⟩ := hx
  have e : double.sub x y = some (double.write (.number (if signed s m ((-(k : Int)) - min (-(k : Int)) (-(l : Int))).toNat + signed (!t) n ((-(l : Int)) - min (-(k : Int)) (-(l : Int))).toNat = 0 then s && !t else signed s m ((-(k : Int)) - min (-(k : Int)) (-(l : Int))).toNat + signed (!t) n ((-(l : Int)) - min (-(k : Int)) (-(l : Int))).toNat < 0) (signed s m ((-(k : Int)) - min (-(k : Int)) (-(l : Int))).toNat + signed (!t) n ((-(l : Int)) - min (-(k : Int)) (-(l : Int))).toNat).natAbs (min (-(k : Int)) (-(l : Int))))) := by
    unfold Format.sub
    rw [hr, hr']
    simp only [Datum.opposite, Datum.sum, Option.map_some]
  refine ⟨_, e, ?_⟩
  have hv2 : (if (!t) = true then -(n : Int) else (n : Int)) = (-b) * 2 ^ l := by
    cases t <;> simp at hv' ⊢ <;> rw [Int.neg_mul, ← hv'] <;> simp
  have e1 : min (-(k : Int)) (-(l : Int)) = -((max k l : Nat) : Int) := by omega
  rw [signed_read hv, signed_read hv2, e1]
  have f1 : k + ((-(k : Int)) - -((max k l : Nat) : Int)).toNat = max k l := by omega
  have f2 : l + ((-(l : Int)) - -((max k l : Nat) : Int)).toNat = max k l := by omega
  rw [f1, f2, ← Int.add_mul, show a + -b = a - b by omega]
  have p1 : (0 : Int) < 2 ^ (max k l) := by exact_mod_cast Nat.two_pow_pos _
  have e3 : ((a - b) * 2 ^ (max k l)).natAbs = (a - b).natAbs <<< (max k l) := by
    rw [Nat.shiftLeft_eq, Int.natAbs_mul, Int.natAbs_pow]; rfl
  rw [e3]
  refine isInt_write _ _ _ h _ ?_
  by_cases hz : a - b = 0
  · simp [hz]
  · have hne : (a - b) * 2 ^ (max k l) ≠ 0 := Int.mul_ne_zero hz (by omega)
    rw [if_neg hne]
    by_cases c : a - b < 0
    · have := Int.mul_neg_of_neg_of_pos c p1
      simp [this]; omega
    · have := Int.mul_pos (show 0 < a - b by omega) p1
      have c2 : ¬ (a - b) * 2 ^ (max k l) < 0 := by omega
      simp [c2]; omega

/-- How such a word stands to the word 0. -/
theorem order_zero {x : Nat} {n : Int} (h : IsInt x n) : double.order x 0 = some (compare n 0) := by
  obtain ⟨s, m, k, hr, hv⟩ := h
  have e0 : double.read 0 = .number false 0 (-(1074 : Nat)) := rfl
  unfold Format.order
  rw [hr, e0]
  simp only [Datum.order]
  rw [signed_read hv, signed_read (s := false) (m := 0) (k := 1074) (n := 0) (by rw [Int.zero_mul]; rfl)]
  rw [Int.zero_mul]
  congr 1
  generalize (k + (-(k : Int) - min (-(k : Int)) (-((1074 : Nat) : Int))).toNat) = u
  have p1 : (0 : Int) < 2 ^ u := by exact_mod_cast Nat.two_pow_pos _
  rcases Int.lt_trichotomy n 0 with c | c | c
  · have := Int.mul_neg_of_neg_of_pos c p1
    rw [Int.compare_eq_lt.2 this, Int.compare_eq_lt.2 c]
  · subst c; simp
  · have := Int.mul_pos c p1
    rw [Int.compare_eq_gt.2 this, Int.compare_eq_gt.2 c]
end Go.Proofs.Ytiemfklonhlnnaa.Fl

namespace Go.Proofs.Ytiemfklonhlnnaa.Frac

/-- A number is small. -/
def smallB (n : Int) : Bool := decide (-67108864 < n) && decide (n < 67108864)

theorem smallB_no {n : Int} (h : ¬ (-67108864 < n ∧ n < 67108864)) : smallB n = false := by
  unfold smallB
  by_cases c : -67108864 < n
  · have : ¬ n < 67108864 := fun d => h ⟨c, d⟩
    simp [this]
  · simp [c]
theorem smallB_yes {n : Int} (h : -67108864 < n ∧ n < 67108864) : smallB n = true := by unfold smallB; simp [h.1, h.2]
theorem smallB_iff {n : Int} : smallB n = true ↔ -67108864 < n ∧ n < 67108864 := by
  constructor
  · intro h; unfold smallB at h; simpa using h
  · exact smallB_yes

def sgn (n : Int) : Int := if n < 0 then -1 else if 0 < n then 1 else 0

def crossV (a b c d : Int) : Int × Int := if (smallB a && smallB b && smallB c && smallB d) = true then (sgn (a * d - b * c), 0) else (0, 10)

def fits (n : Int) : Bool := decide (-9223372036854775808 ≤ n) && decide (n ≤ 9223372036854775807)

theorem fits_yes {n : Int} (h : -9223372036854775808 ≤ n ∧ n ≤ 9223372036854775807) : fits n = true := by unfold fits; simp [h.1, h.2]
theorem fits_no {n : Int} (h : ¬ (-9223372036854775808 ≤ n ∧ n ≤ 9223372036854775807)) : fits n = false := by
  unfold fits
  by_cases c : -9223372036854775808 ≤ n
  · have : ¬ n ≤ 9223372036854775807 := fun d => h ⟨c, d⟩
    simp; omega
  · simp [c]
def addV (a b : Int) : Int × Int := if fits (a + b) = true then (a + b, 0) else (0, 10)

def mulV (a b : Int) : Int × Int := if fits (a * b) = true then (a * b, 0) else (0, 10)

def clog (n : Nat) : Nat := if n ≤ 1 then 0 else (n - 1).log2 + 1

def upV (n : Int) : Int × Int := if n < 1 then (0, 2) else ((clog n.toNat : Nat), 0)

def downV (n : Int) : Int × Int := if n < 1 then (0, 2) else ((n.toNat.log2 : Nat), 0)

def powB (n : Int) : Bool := decide (0 < n) && decide (((2 ^ n.toNat.log2 : Nat) : Int) = n)

def betweenV (low high at_ steps : Int) : Int × Int :=
  if (decide (steps < 1) || decide (at_ < 0) || decide (steps < at_)) = true then (0, 2)
  else if (smallB low && smallB high && smallB at_ && smallB steps) = true then (low * (steps - at_) + high * at_, 0)
  else (0, 10)

end Go.Proofs.Ytiemfklonhlnnaa.Frac

namespace Go.Proofs.Ytiemfklonhlnnaa.Frac
open Go.RowKit

theorem log2_step {n : Nat} (h : 2 ≤ n) : n.log2 = (n / 2).log2 + 1 := by
  rw [Nat.log2_def n, if_pos h]
theorem log2_small {n : Nat} (h : n < 2) : n.log2 = 0 := by
  rw [Nat.log2_def n, if_neg (by omega)]

theorem bitLenAux_log (f x : Nat) (h : x < 2 ^ f) : Lib.bitLenAux f x = if x = 0 then 0 else x.log2 + 1 := by
  induction f generalizing x with
  | zero => have : x = 0 := by simpa using h
            subst this; rfl
  | succ f ih =>
    unfold Lib.bitLenAux
    by_cases hx : x = 0
    · rw [if_pos hx, if_pos hx]
    · rw [if_neg hx, if_neg hx, ih (x / 2) (by rw [Nat.pow_succ] at h; omega)]
      by_cases h2 : x < 2
      · rw [if_pos (by omega), log2_small h2]
      · rw [if_neg (by omega), log2_step (n := x) (by omega)]; omega

theorem bitLen_log (x : Nat) (h : x < 18446744073709551616) : Lib.bitLen x = if x = 0 then 0 else x.log2 + 1 := bitLenAux_log 64 x h

theorem bitLen_clog (n : Int) (h : 1 ≤ n) (h2 : n ≤ 9223372036854775807) : ((Lib.bitLen (n.toNat - 1) : Nat) : Int) = ((clog n.toNat : Nat) : Int) := by
  rw [bitLen_log _ (by omega)]
  unfold clog
  by_cases c : n = 1
  · subst c; rfl
  · rw [if_neg (by omega), if_neg (by omega)]

theorem log2_lt63 (n : Int) (h2 : n ≤ 9223372036854775807) : n.toNat.log2 < 63 := by
  by_cases h : n.toNat = 0
  · rw [h]; decide
  · exact (Nat.log2_lt h).2 (by omega)

theorem pow_lt63 {k : Nat} (h : k < 63) : 2 ^ k ≤ 4611686018427387904 := Nat.le_trans (Nat.pow_le_pow_right (by decide) (show k ≤ 62 by omega)) (by decide)

theorem powB_and (a : Int) (h0 : 0 < a) (h1 : a ≤ 9223372036854775807) : (bits .and .i64 a (a - 1) == 0) = powB a := by
  obtain ⟨n, rfl⟩ := Int.eq_ofNat_of_zero_le (Int.le_of_lt h0)
  have e := (bits_nat .i64 63 (by decide) (fun m m0 m1 => by rw [IntKind.wrap_i64]; omega) n (n - 1) (by omega) (by omega)).1
  have ec : ((n : Nat) : Int) - 1 = ((n - 1 : Nat) : Int) := by omega
  rw [ec, e]
  have hne : n ≠ 0 := by omega
  have key := Nat.and_sub_one_eq_zero_iff_isPowerOfTwo hne
  unfold powB
  rw [Int.toNat_natCast]
  have hd : decide (0 < (n : Int)) = true := by simpa using h0
  rw [hd, Bool.true_and]
  rw [Bool.eq_iff_iff]
  simp only [beq_iff_eq, decide_eq_true_eq]
  constructor
  · intro h
    have h' : n &&& n - 1 = 0 := by omega
    obtain ⟨k, hk⟩ := key.1 h'
    rw [hk, Nat.log2_two_pow]
  · intro h
    have h' : n = 2 ^ n.log2 := by omega
    have := key.2 ⟨n.log2, h'⟩
    omega

/-- A product that wrapped is told by dividing it again. -/
theorem wrap_mul_quo (a b : Int) (hb0 : b ≠ 0) (ba : -9223372036854775808 ≤ a ∧ a ≤ 9223372036854775807) (bb : -9223372036854775808 ≤ b ∧ b ≤ 9223372036854775807) (hf : ¬ (-9223372036854775808 ≤ a * b ∧ a * b ≤ 9223372036854775807)) (hx : ¬ (b = -1)) : (wrap64 ((wrap64 (a * b)).tdiv b) != a) = true := by
  rw [bne_iff_ne]
  intro he
  have hp : -9223372036854775808 ≤ wrap64 (a * b) ∧ wrap64 (a * b) ≤ 9223372036854775807 := by unfold wrap64; omega
  have hm : ∃ m : Int, wrap64 (a * b) = a * b - m * 18446744073709551616 := ⟨(a * b + 9223372036854775808) / 18446744073709551616, by unfold wrap64; omega⟩
  obtain ⟨m, hm⟩ := hm
  have hm0 : m ≠ 0 := fun c => by subst c; simp at hm; omega
  generalize wrap64 (a * b) = p at *
  -- the quotient fits, so it is not wrapped
  have hq : (p.tdiv b).natAbs ≤ p.natAbs / b.natAbs := by rw [Int.natAbs_tdiv]; exact Nat.le_refl _
  have hb1 : 1 ≤ b.natAbs := by omega
  have hfit : -9223372036854775808 ≤ p.tdiv b ∧ p.tdiv b ≤ 9223372036854775807 := by
    by_cases c : b.natAbs = 1
    · have : b = 1 := by omega
      subst this; simp; omega
    · have h2 : p.natAbs / b.natAbs ≤ p.natAbs / 2 := Nat.div_le_div_left (by omega) (by omega)
      omega
  have hw : wrap64 (p.tdiv b) = p.tdiv b := IntWalk.wrap64_in _ hfit
  rw [hw] at he
  have hd := Int.mul_tdiv_add_tmod p b
  have hr : (p.tmod b).natAbs < b.natAbs := by rw [Int.natAbs_tmod]; exact Nat.mod_lt _ (by omega)
  rw [he] at hd
  generalize p.tmod b = r at *
  rw [Int.mul_comm b a] at hd
  generalize a * b = ab at *
  omega

theorem logs_facts (n : Nat) (h : 1 ≤ n) : 2 ^ n.log2 ≤ n ∧ n / 2 < 2 ^ n.log2 ∧ ((n = 2 ^ n.log2 ∧ clog n = n.log2) ∨ (n ≠ 2 ^ n.log2 ∧ clog n = n.log2 + 1)) := by
  have a := Nat.log2_self_le (n := n) (by omega)
  have b := Nat.lt_log2_self (n := n)
  rw [Nat.pow_succ] at b
  refine ⟨a, by omega, ?_⟩
  by_cases c : n = 2 ^ n.log2
  · refine .inl ⟨c, ?_⟩
    unfold clog
    by_cases e : n ≤ 1
    · obtain rfl : n = 1 := by omega
      rfl
    · rw [if_neg e]
      have hd : 1 ≤ n.log2 := by
        rw [log2_step (n := n) (by omega)]; omega
      obtain ⟨k, hk⟩ : ∃ k, n.log2 = k + 1 := ⟨n.log2 - 1, by omega⟩
      rw [hk] at c ⊢
      have hp := Nat.two_pow_pos k
      rw [Nat.pow_succ] at c
      have : (n - 1).log2 = k := by
        rw [Nat.log2_eq_iff (by omega), Nat.pow_succ]
        omega
      rw [this]
  · refine .inr ⟨c, ?_⟩
    unfold clog
    have hp := Nat.two_pow_pos n.log2
    rw [if_neg (by omega)]
    have : (n - 1).log2 = n.log2 := by
      rw [Nat.log2_eq_iff (by omega), Nat.pow_succ]
      omega
    rw [this]

end Go.Proofs.Ytiemfklonhlnnaa.Frac

namespace Go.Proofs.Ytiemfklonhlnnaa.Frac
open Go.RowKit Go.Proofs.Ytiemfklonhlnnaa

theorem all_take_succ (zs : List Int) (k : Nat) (h : k < zs.length) : (zs.take (k + 1)).all smallB = ((zs.take k).all smallB && smallB (zs.getD k 0)) := by
  rw [List.take_succ_eq_append_getElem h, List.all_append]
  simp [List.getD_eq_getElem?_getD, h]

set_option maxHeartbeats 400000 in
theorem small_any (b off cap : Nat) (zs : List Int) (w : World) (hl : zs.length ≤ 9223372036854775807) (hc : ∀ i, i < zs.length → w.cell? ⟨b, off + i, Option.none⟩ = some (.int .i64 (zs.getD i 0))) :
    Calls Try.prog 65 #[.slice (some ⟨b, off, Option.none⟩) zs.length cap] w fun e w' => e = .returned (.bool (zs.all smallB)) ∧ w = w' := by
  go_enter Try.func65, Try.ntmps65
  go_wp2
  go_loop [4, 7] (fun _ i => ∃ k : Nat, k ≤ zs.length ∧ i = .int .i64 k ∧ (zs.take k).all smallB = true) (fun _ i => zs.length - (intOf i).toNat)
  case atStart => exact ⟨0, Nat.zero_le _, rfl, rfl⟩
  case round =>
    obtain ⟨k, hk, rfl, hall⟩ := hrel
    have Hall := Lib.hid hall
    clear hall
    by_cases hlt : k < zs.length
    · have hcell := hc k hlt
      have Hs := Lib.hid (all_take_succ zs k hlt)
      clear hc
      generalize hz : zs.getD k 0 = z at hcell
      have Hz := Lib.hid hz
      clear hz
      have hno : smallB z = false → zs.all smallB = false := fun h => by
        rw [List.all_eq_false]
        refine ⟨zs[k], List.getElem_mem _, ?_⟩
        have := Hz.out
        simp [List.getD_eq_getElem?_getD, hlt] at this
        rw [this, h]; simp
      have Hno := Lib.hid hno
      clear hno
      by_cases h1 : -67108864 < z
      · by_cases h2 : z < 67108864
        · go_wp2
          go_round
          case rel => exact ⟨k + 1, by omega, by go_num, by rw [Hs.out, Hall.out, Hz.out, smallB_yes ⟨h1, h2⟩]; rfl⟩
          case measure => simp [intOf]; omega
        · go_wp2
          go_ret
          exact ⟨ret_bool (Hno.out (smallB_no (by omega))).symm, rfl⟩
      · go_wp2
        go_ret
        exact ⟨ret_bool (Hno.out (smallB_no (by omega))).symm, rfl⟩
    · have : k = zs.length := by omega
      subst this
      clear hc
      go_wp2
      go_ret
      exact ⟨ret_bool (by have := Hall.out; rw [List.take_length] at this; exact this.symm), rfl⟩

/-! ### frac.Cross -/
theorem cross_bits (a b c d : Int) (ha : smallB a = true) (hb : smallB b = true) (hc : smallB c = true) (hd : smallB d = true) :
    ∃ re im, cMulBits (floatOfInt .f64 a) (floatOfInt .f64 b) (floatOfInt .f64 c) (Op.negFloat .f64 (floatOfInt .f64 d)) = some (re, im) ∧ Ieee.double.order im 0 = some (compare (b * c - a * d) 0) := by
  rw [smallB_iff] at ha hb hc hd
  have key : ∀ x y : Int, (-67108864 < x ∧ x < 67108864) → (-67108864 < y ∧ y < 67108864) → (x * y).natAbs ≤ 67108863 * 67108863 := fun x y hx hy => by
    rw [Int.natAbs_mul]
    exact Nat.mul_le_mul (by omega) (by omega)
  have ia := Fl.isInt_ofInt a (by omega)
  have ib := Fl.isInt_ofInt b (by omega)
  have ic := Fl.isInt_ofInt c (by omega)
  have id := Fl.isInt_neg (Fl.isInt_ofInt d (by omega))
  have hd' : -67108864 < -d ∧ -d < 67108864 := by omega
  have k1 := key a c ha hc
  have k2 := key b (-d) hb hd'
  have k3 := key a (-d) ha hd'
  have k4 := key b c hb hc
  obtain ⟨ac, e1, i1⟩ := Fl.isInt_mul ia ic (by omega)
  obtain ⟨bd, e2, i2⟩ := Fl.isInt_mul ib id (by omega)
  obtain ⟨ad, e3, i3⟩ := Fl.isInt_mul ia id (by omega)
  obtain ⟨bc, e4, i4⟩ := Fl.isInt_mul ib ic (by omega)
  obtain ⟨re, e5, _⟩ := Fl.isInt_sub i1 i2 (by omega)
  obtain ⟨im, e6, i6⟩ := Fl.isInt_add i3 i4 (by omega)
  refine ⟨re, im, ?_, ?_⟩
  · unfold cMulBits
    simp only [e1, e2, e3, e4, e5, e6, Option.bind_some]
  · have := Fl.order_zero i6
    rw [this, show a * -d + b * c = b * c - a * d by rw [Int.mul_neg]; omega]

theorem small_is (b cap : Nat) (x y z t : Int) (w : World) (r : Bool) (hr : [x, y, z, t].all smallB = r)
    (h0 : w.cell? ⟨b, 0, Option.none⟩ = some (.int .i64 x)) (h1 : w.cell? ⟨b, 1, Option.none⟩ = some (.int .i64 y)) (h2 : w.cell? ⟨b, 2, Option.none⟩ = some (.int .i64 z)) (h3 : w.cell? ⟨b, 3, Option.none⟩ = some (.int .i64 t)) :
    Calls Try.prog 65 #[.slice (some ⟨b, 0, Option.none⟩) 4 cap] w fun e w' => e = .returned (.bool r) ∧ w = w' := by
  subst hr
  refine small_any b 0 cap [x, y, z, t] w (by simp) fun i hi => ?_
  match i, hi with
  | 0, _ => exact h0
  | 1, _ => exact h1
  | 2, _ => exact h2
  | 3, _ => exact h3

theorem cross_ways (a b c d : Int) (im : Nat) (hord : Ieee.double.order im 0 = some (compare (b * c - a * d) 0)) :
    ((FloatKind.f64.format.order im 0 == some .gt) = true ∧ sgn (a * d - b * c) = -1) ∨ ((FloatKind.f64.format.order im 0 == some .gt) = false ∧ (FloatKind.f64.format.order im 0 == some .lt) = true ∧ sgn (a * d - b * c) = 1) ∨ ((FloatKind.f64.format.order im 0 == some .gt) = false ∧ (FloatKind.f64.format.order im 0 == some .lt) = false ∧ sgn (a * d - b * c) = 0) := by
  rw [show FloatKind.f64.format = Ieee.double from rfl, hord]
  rcases Int.lt_trichotomy (b * c - a * d) 0 with h | h | h
  · rw [Int.compare_eq_lt.2 h]
    exact .inr (.inl ⟨rfl, rfl, by unfold sgn; rw [if_neg (by omega), if_pos (by omega)]⟩)
  · rw [h]
    exact .inr (.inr ⟨rfl, rfl, by unfold sgn; rw [if_neg (by omega), if_neg (by omega)]⟩)
  · rw [Int.compare_eq_gt.2 h]
    exact .inl ⟨rfl, by unfold sgn; rw [if_pos (by omega)]⟩

set_option maxHeartbeats 1000000 in
theorem cross_any (a b c d : Int) (w : World) :
    Calls Try.prog 57 #[.int .i64 a, .int .i64 b, .int .i64 c, .int .i64 d] w fun e w' => e = .returned (.tuple #[.int .i64 (crossV a b c d).1, .int .i64 (crossV a b c d).2]) ∧ Below w.heap.size w w' := by
  have hneg : ∀ (x : Nat) (w : World), (Op.unary .neg (.float .f64 x)).run Try.prog w = .ok (.float .f64 (Op.negFloat .f64 x)) w := fun _ _ => rfl
  by_cases hs : ([a, b, c, d].all smallB) = true
  · have hs' : smallB a = true ∧ smallB b = true ∧ smallB c = true ∧ smallB d = true := by simpa using hs
    obtain ⟨re, im, hmul, hord⟩ := cross_bits a b c d hs'.1 hs'.2.1 hs'.2.2.1 hs'.2.2.2
    have hV : crossV a b c d = (sgn (a * d - b * c), 0) := by unfold crossV; rw [if_pos (by simp [hs'])]
    have Hs := Lib.hid hs; clear hs
    have HV := Lib.hid hV; clear hV
    clear hs'
    have hrun := fun w => run_complex_mul (P := Try.prog) w 107 _ _ _ _ re im hmul
    clear hmul
    rcases cross_ways a b c d im hord with ⟨o1, hsgn⟩ | ⟨o1, o2, hsgn⟩ | ⟨o1, o2, hsgn⟩
    all_goals
      have Hsgn := Lib.hid hsgn
      clear hord hsgn
      go_enter Try.func57, Try.ntmps57
      go_wp2_with fail
      refine (small_is w.heap.size 4 a b c d _ true Hs.out ?h0 ?h1 ?h2 ?h3).mono ?_
      case h0 => go_simp
      case h1 => go_simp
      case h2 => go_simp
      case h3 => go_simp
      rintro e w' ⟨rfl, rfl⟩
      go_wp2
      go_ret2
      exact ⟨ret_pair (HV.out.trans (by rw [Hsgn.out])), (Below.refl _ _).alloc (Nat.le_refl _) _⟩
  · have hs2 : [a, b, c, d].all smallB = false := by simpa using hs
    have hV : crossV a b c d = (0, 10) := by unfold crossV; rw [if_neg (by simpa using hs)]
    have Hs := Lib.hid hs2; clear hs2 hs
    have HV := Lib.hid hV; clear hV
    go_enter Try.func57, Try.ntmps57
    go_wp2_with fail
    refine (small_is w.heap.size 4 a b c d _ false Hs.out ?h0 ?h1 ?h2 ?h3).mono ?_
    case h0 => go_simp
    case h1 => go_simp
    case h2 => go_simp
    case h3 => go_simp
    rintro e w' ⟨rfl, rfl⟩
    go_wp2
    go_ret2
    exact ⟨ret_pair HV.out, (Below.refl _ _).alloc (Nat.le_refl _) _⟩

theorem smallS {n : Int} : smallB n = true ∨ smallB n = false := by cases smallB n <;> simp

theorem addV_yes {a b : Int} (h : -9223372036854775808 ≤ a + b ∧ a + b ≤ 9223372036854775807) : addV a b = (a + b, 0) := by unfold addV; rw [if_pos (fits_yes h)]
theorem addV_no {a b : Int} (h : ¬ (-9223372036854775808 ≤ a + b ∧ a + b ≤ 9223372036854775807)) : addV a b = (0, 10) := by unfold addV; rw [fits_no h]; rfl

theorem mulV_yes {a b : Int} (h : -9223372036854775808 ≤ a * b ∧ a * b ≤ 9223372036854775807) : mulV a b = (a * b, 0) := by unfold mulV; rw [if_pos (fits_yes h)]
theorem mulV_no {a b : Int} (h : ¬ (-9223372036854775808 ≤ a * b ∧ a * b ≤ 9223372036854775807)) : mulV a b = (0, 10) := by unfold mulV; rw [fits_no h]; rfl

/-- A product by the sizes of its factors. -/
theorem mul_sizes (a b : Int) : ((!decide (a < 0) == decide (b < 0)) = false ∧ a * b = ((a.natAbs * b.natAbs : Nat) : Int)) ∨ ((!decide (a < 0) == decide (b < 0)) = true ∧ a * b = -((a.natAbs * b.natAbs : Nat) : Int)) := by
  rw [Int.natCast_mul]
  by_cases ha : a < 0 <;> by_cases hb : b < 0
  · left; refine ⟨by simp [ha, hb], ?_⟩
    rw [show ((a.natAbs : Nat) : Int) = -a by omega, show ((b.natAbs : Nat) : Int) = -b by omega, Int.neg_mul_neg]
  · right; refine ⟨by simp [ha, hb], ?_⟩
    rw [show ((a.natAbs : Nat) : Int) = -a by omega, show ((b.natAbs : Nat) : Int) = b by omega, Int.neg_mul, Int.neg_neg]
  · right; refine ⟨by simp [ha, hb], ?_⟩
    rw [show ((a.natAbs : Nat) : Int) = a by omega, show ((b.natAbs : Nat) : Int) = -b by omega, Int.mul_neg, Int.neg_neg]
  · left; refine ⟨by simp [ha, hb], ?_⟩
    rw [show ((a.natAbs : Nat) : Int) = a by omega, show ((b.natAbs : Nat) : Int) = b by omega]

/-! ### Logarithms and powers -/
theorem clog_one : clog 1 = 0 := rfl

theorem upV_no {n : Int} (h : n < 1) : upV n = (0, 2) := by unfold upV; rw [if_pos h]
theorem upV_yes {n : Int} (h : ¬ n < 1) : upV n = (((clog n.toNat : Nat) : Int), 0) := by unfold upV; rw [if_neg h]
theorem downV_no {n : Int} (h : n < 1) : downV n = (0, 2) := by unfold downV; rw [if_pos h]
theorem downV_yes {n : Int} (h : ¬ n < 1) : downV n = (((n.toNat.log2 : Nat) : Int), 0) := by unfold downV; rw [if_neg h]

theorem powB_no {n : Int} (h : n ≤ 0) : powB n = false := by unfold powB; simp; omega

set_option maxHeartbeats 400000 in
theorem power_any (n : Int) (w : World) (wn : (Lit.int .i64 n).wf = true) :
    Calls Try.prog 55 #[.int .i64 n] w fun e w' => e = .returned (.bool (powB n)) ∧ w = w' := by
  have bn := bd64 wn
  clear wn
  by_cases h : n ≤ 0
  · have HV := Lib.hid (powB_no h)
    go_enter Try.func55, Try.ntmps55
    go_wp2
    go_ret
    exact ⟨ret_bool HV.out.symm, rfl⟩
  · have HV := Lib.hid (powB_and n (by omega) bn.2)
    go_enter Try.func55, Try.ntmps55
    go_wp2
    go_ret
    exact ⟨ret_bool HV.out, rfl⟩

def DownJ (n : Int) (w : World) (a' : Act) (w' : World) : Prop :=
  w' = w ∧ ∃ (m : Int) (k : Nat) (u4 u5 u6 u7 u8 u9 u10 u11 : Value), a' = { tmps := #[.int .i64 m, undef, .int .i64 k, .int .i64 0, u4, u5, u6, u7, u8, u9, u10, u11, undef], defers := [] } ∧ 1 ≤ m ∧ m ≤ 9223372036854775807 ∧ m.toNat.log2 + k = n.toNat.log2
def DownM (a' : Act) (_ : World) : Nat := (intOf (a'.tmps.getD 0 undef)).toNat

set_option maxHeartbeats 400000 in
theorem down_any (n : Int) (w : World) (wn : (Lit.int .i64 n).wf = true) :
    Calls Try.prog 56 #[.int .i64 n] w fun e w' => e = .returned (.tuple #[.int .i64 (downV n).1, .int .i64 (downV n).2]) ∧ w = w' := by
  have bn := bd64 wn
  clear wn
  by_cases h : n < 1
  · have HV := Lib.hid (downV_no h)
    have hn1 : ¬ 1 < n := by omega
    go_enter Try.func56, Try.ntmps56
    go_wp2
    refine wp_scope_jumps 0 (fun a' w' => False) (fun a' _ => 0) rfl ?_ ?_
    · go_wp2
      simp only [Exit.jump]
      go_ret2
      exact ⟨ret_pair HV.out, rfl⟩
    · rintro a' w' hF; exact hF.elim
  · have HV := Lib.hid (downV_yes h)
    have hL := log2_lt63 n (by omega)
    have h1 : 1 ≤ n := by omega
    clear h
    go_enter Try.func56, Try.ntmps56
    go_wp2
    refine wp_scope_jumps 0 (DownJ n w) DownM rfl ?_ ?_
    · by_cases hlt : 1 < n
      · go_wp2
        go_step3
        go_wp2
        go_step3
        exact ⟨rfl, rfl, n / 2, 1, _, _, _, _, _, _, _, _, rfl, by omega, by omega, by rw [log2_step (n := n.toNat) (by omega), show (n / 2).toNat = n.toNat / 2 by omega]⟩
      · go_wp2
        go_step3
        go_wp2
        simp only [Exit.jump]
        go_ret2
        exact ⟨ret_pair (HV.out.trans (by rw [log2_small (n := n.toNat) (by omega)]; rfl)), rfl⟩
    · rintro a' w' ⟨rfl, m, k, u4, u5, u6, u7, u8, u9, u10, u11, rfl, hm1, hm, hk⟩
      have Hk := Lib.hid hk
      have hk63 : k < 63 := by omega
      clear hk hL
      by_cases hlt : 1 < m
      · go_wp2
        go_step3
        refine ⟨rfl, ⟨rfl, m / 2, k + 1, _, _, _, _, _, _, _, _, rfl, by omega, by omega, ?_⟩, by simp [DownM, intOf]; omega⟩
        have := Hk.out
        rw [log2_step (n := m.toNat) (by omega)] at this
        rw [show (m / 2).toNat = m.toNat / 2 by omega]
        omega
      · go_wp2
        simp only [Exit.jump]
        go_ret2
        have hf : n.toNat.log2 = k := by
          have := Hk.out
          rw [log2_small (n := m.toNat) (by omega)] at this
          omega
        exact ⟨ret_pair (HV.out.trans (by rw [hf])), rfl⟩

theorem betweenV_arg {low high at_ steps : Int} (h : steps < 1 ∨ at_ < 0 ∨ steps < at_) : betweenV low high at_ steps = (0, 2) := by
  unfold betweenV; rw [if_pos (by simp; omega)]
theorem betweenV_over {low high at_ steps : Int} (h : ¬ (steps < 1 ∨ at_ < 0 ∨ steps < at_)) (h2 : [low, high, at_, steps].all smallB = false) : betweenV low high at_ steps = (0, 10) := by
  unfold betweenV; rw [if_neg (by simp; omega), if_neg (by intro c; simp at c; simp [c] at h2)]
theorem betweenV_ok {low high at_ steps : Int} (h : ¬ (steps < 1 ∨ at_ < 0 ∨ steps < at_)) (h2 : [low, high, at_, steps].all smallB = true) : betweenV low high at_ steps = (low * (steps - at_) + high * at_, 0) := by
  unfold betweenV; rw [if_neg (by simp; omega), if_pos (by simp at h2; simp [h2])]

theorem small_mul {x y : Int} (hx : -67108864 < x ∧ x < 67108864) (hy : -67108864 < y ∧ y < 67108864) : -4503599493152769 ≤ x * y ∧ x * y ≤ 4503599493152769 := by
  have : (x * y).natAbs ≤ 67108863 * 67108863 := by
    rw [Int.natAbs_mul]
    exact Nat.mul_le_mul (by omega) (by omega)
  omega

set_option maxHeartbeats 1000000 in
theorem between_any (low high at_ steps : Int) (w : World) :
    Calls Try.prog 62 #[.int .i64 low, .int .i64 high, .int .i64 at_, .int .i64 steps] w fun e w' => e = .returned (.tuple #[.int .i64 (betweenV low high at_ steps).1, .int .i64 (betweenV low high at_ steps).2]) ∧ Below w.heap.size w w' := by
  by_cases h : steps < 1 ∨ at_ < 0 ∨ steps < at_
  · have HV := Lib.hid (betweenV_arg (low := low) (high := high) h)
    have hw : steps < 1 ∨ (¬ steps < 1 ∧ at_ < 0) ∨ (¬ steps < 1 ∧ ¬ at_ < 0 ∧ steps < at_) := by omega
    clear h
    rcases hw with h | ⟨h, h2⟩ | ⟨h, h2, h3⟩
    all_goals
      go_enter Try.func62, Try.ntmps62
      go_wp2
      go_ret2
      exact ⟨ret_pair HV.out, Below.refl _ _⟩
  · have h1 : ¬ steps < 1 := by omega
    have h2 : ¬ at_ < 0 := by omega
    have h3 : ¬ steps < at_ := by omega
    cases hs : [low, high, at_, steps].all smallB
    · have HV := Lib.hid (betweenV_over h hs)
      have Hs := Lib.hid hs
      clear h hs
      go_enter Try.func62, Try.ntmps62
      go_wp2_with fail
      refine (small_is w.heap.size 4 low high at_ steps _ false Hs.out ?h0 ?h1 ?h2 ?h3).mono ?_
      case h0 => go_simp
      case h1 => go_simp
      case h2 => go_simp
      case h3 => go_simp
      rintro e w' ⟨rfl, rfl⟩
      go_wp2
      go_ret2
      exact ⟨ret_pair HV.out, (Below.refl _ _).alloc (Nat.le_refl _) _⟩
    · have HV := Lib.hid (betweenV_ok h hs)
      have Hs := Lib.hid hs
      have hs' : smallB low = true ∧ smallB high = true ∧ smallB at_ = true ∧ smallB steps = true := by simpa using hs
      simp only [smallB_iff] at hs'
      obtain ⟨s1, s2, s3, s4⟩ := hs'
      have e : low * steps + (high - low) * at_ = low * (steps - at_) + high * at_ := by
        rw [Int.sub_mul, Int.mul_sub]; omega
      have He := Lib.hid e
      have m1 := small_mul s1 s4
      have m2 := small_mul s2 s3
      have m3 := small_mul s1 s3
      have m4 : -9007198986305538 ≤ (high - low) * at_ ∧ (high - low) * at_ ≤ 9007198986305538 := by
        rw [Int.sub_mul]; omega
      clear h hs e m2 m3
      go_enter Try.func62, Try.ntmps62
      go_wp2_with fail
      refine (small_is w.heap.size 4 low high at_ steps _ true Hs.out ?h4 ?h5 ?h6 ?h7).mono ?_
      case h4 => go_simp
      case h5 => go_simp
      case h6 => go_simp
      case h7 => go_simp
      rintro e w' ⟨rfl, rfl⟩
      go_wp2
      go_ret2
      exact ⟨ret_pair (HV.out.trans (by rw [He.out])), (Below.refl _ _).alloc (Nat.le_refl _) _⟩

end Go.Proofs.Ytiemfklonhlnnaa.Frac

namespace Go.Proofs.Ytiemfklonhlnnaa.Frac
open Go.RowKit Go.Proofs.Ytiemfklonhlnnaa

theorem down_is (n : Int) (w : World) (wn : (Lit.int .i64 n).wf = true) (r e : Int) (h : downV n = (r, e)) :
    Calls Try.prog 56 #[.int .i64 n] w fun x w' => x = .returned (.tuple #[.int .i64 r, .int .i64 e]) ∧ w = w' := by
  have := down_any n w wn; rw [h] at this; exact this

theorem power_is (n : Int) (w : World) (wn : (Lit.int .i64 n).wf = true) (r : Bool) (h : powB n = r) :
    Calls Try.prog 55 #[.int .i64 n] w fun x w' => x = .returned (.bool r) ∧ w = w' := by
  have := power_any n w wn; rw [h] at this; exact this

theorem between_is (a b c d : Int) (w : World) (r e : Int) (h : betweenV a b c d = (r, e)) :
    Calls Try.prog 62 #[.int .i64 a, .int .i64 b, .int .i64 c, .int .i64 d] w fun x w' => x = .returned (.tuple #[.int .i64 r, .int .i64 e]) ∧ Below w.heap.size w w' := by
  have := between_any a b c d w; rw [h] at this; exact this

theorem cross_is (a b c d : Int) (w : World) (r e : Int) (h : crossV a b c d = (r, e)) :
    Calls Try.prog 57 #[.int .i64 a, .int .i64 b, .int .i64 c, .int .i64 d] w fun x w' => x = .returned (.tuple #[.int .i64 r, .int .i64 e]) ∧ Below w.heap.size w w' := by
  have := cross_any a b c d w; rw [h] at this; exact this

end Go.Proofs.Ytiemfklonhlnnaa.Frac

namespace Go.Proofs.Ytiemfklonhlnnaa.Opn
open Go.ChangeShapes Go.WideShapes Go.ChangeAt Go.RowKit

section
variable {H : Type} {enc : TypeId × Value → H} {P : Program} {w : World} {base : Nat} {spare : Nat → Bool} {held : Bool}

theorem at_of_take {α : Type} {l : List α} {i : Nat} {a : α} (h : (l.drop i).take 1 = [a]) : l[i]? = some a := by
  have : ((l.drop i).take 1)[0]? = some a := by rw [h]; rfl
  rw [List.getElem?_take_of_lt (by decide), List.getElem?_drop] at this
  simpa using this

/-- A struct of integers, by value: each field's number, which fits its kind. -/
theorem open_int_struct {r : Reach} {b0 : Nat} {t : TypeId} {fs : Array Field} {ks : List IntKind} {v : Value} {d : DataW H} {p : List MemPlace} (hs : P.underlying t = some (.struct fs)) (hC : P.cellsOf t = ks.length)
    (hf : ∀ (i : Nat) (k : IntKind), ks[i]? = some k → ∃ f : Field, fs[i]? = some f ∧ f.offset = i ∧ P.cellsOf f.type = 1 ∧ P.underlying f.type = some (.int k))
    (hv : Value.okWide P w r b0 t v) (h : DataW.Trod enc P w base spare held t v d p) :
    ∃ cs : Array Value, v = .agg cs ∧ cs.size = ks.length ∧ ∀ (i : Nat) (k : IntKind), ks[i]? = some k → ∃ z, cs[i]? = some (Value.int k z) ∧ (Lit.int k z).wf = true := by
  obtain ⟨cs, rfl, hsz⟩ := okWide_struct hs hv
  refine ⟨cs, rfl, hsz.trans hC, fun i k hk => ?_⟩
  obtain ⟨fuel, ht⟩ := h
  obtain ⟨xs, n, _, _, _, hlen, hg⟩ := DataW.trod_struct hs ht
  obtain ⟨f, hfi, ho, h1, hu⟩ := hf i k hk
  have hg1 := hg i f hfi
  have hi : i < xs.length := by rw [hlen]; exact (Array.getElem?_eq_some_iff.1 hfi).1
  rw [ho, h1, List.getElem?_eq_getElem hi] at hg1
  obtain ⟨z, hz, _, hw⟩ := DataW.trod_int hu hg1
  refine ⟨z, ?_, hw⟩
  have := at_of_take hz
  simpa [Value.cells] using this

/-- An array of integers, by value. -/
theorem open_int_array {r : Reach} {b0 : Nat} {t e : TypeId} {n : Nat} {k : IntKind} {v : Value} {d : DataW H} {p : List MemPlace} (hs : P.underlying t = some (.array n e)) (hC : P.cellsOf t = n) (he : P.underlying e = some (.int k)) (h1 : P.cellsOf e = 1)
    (hv : Value.okWide P w r b0 t v) (h : DataW.Trod enc P w base spare held t v d p) :
    ∃ cs : Array Value, v = .agg cs ∧ cs.size = n ∧ ∀ i : Nat, i < n → ∃ z, cs[i]? = some (Value.int k z) ∧ (Lit.int k z).wf = true := by
  have hv' := hv
  simp only [Value.okWide, hs] at hv'
  obtain ⟨cs, rfl, hsz, _⟩ := hv'
  refine ⟨cs, rfl, hsz.trans hC, fun i hi => ?_⟩
  obtain ⟨fuel, ht⟩ := h
  obtain ⟨xs, m, _, _, _, hlen, hg⟩ := DataW.trod_array hs ht
  have hg1 := hg i hi
  rw [h1, Nat.mul_one, List.getElem?_eq_getElem (by omega)] at hg1
  obtain ⟨z, hz, _, hw⟩ := DataW.trod_int he hg1
  refine ⟨z, ?_, hw⟩
  have := at_of_take hz
  simpa [Value.cells] using this
end

theorem arr2 {α : Type} {cs : Array α} {a0 a1 : α} (h : cs.size = 2) (h0 : cs[0]? = some a0) (h1 : cs[1]? = some a1) : cs = #[a0, a1] := by
  obtain ⟨l⟩ := cs
  match l, h with
  | [c0, c1], _ => simp at h0 h1; subst h0 h1; rfl
theorem arr3 {α : Type} {cs : Array α} {a0 a1 a2 : α} (h : cs.size = 3) (h0 : cs[0]? = some a0) (h1 : cs[1]? = some a1) (h2 : cs[2]? = some a2) : cs = #[a0, a1, a2] := by
  obtain ⟨l⟩ := cs
  match l, h with
  | [c0, c1, c2], _ => simp at h0 h1 h2; subst h0 h1 h2; rfl
theorem arr4 {α : Type} {cs : Array α} {a0 a1 a2 a3 : α} (h : cs.size = 4) (h0 : cs[0]? = some a0) (h1 : cs[1]? = some a1) (h2 : cs[2]? = some a2) (h3 : cs[3]? = some a3) : cs = #[a0, a1, a2, a3] := by
  obtain ⟨l⟩ := cs
  match l, h with
  | [c0, c1, c2, c3], _ => simp at h0 h1 h2 h3; subst h0 h1 h2 h3; rfl
theorem arr6 {α : Type} {cs : Array α} {a0 a1 a2 a3 a4 a5 : α} (h : cs.size = 6) (h0 : cs[0]? = some a0) (h1 : cs[1]? = some a1) (h2 : cs[2]? = some a2) (h3 : cs[3]? = some a3) (h4 : cs[4]? = some a4) (h5 : cs[5]? = some a5) : cs = #[a0, a1, a2, a3, a4, a5] := by
  obtain ⟨l⟩ := cs
  match l, h with
  | [c0, c1, c2, c3, c4, c5], _ => simp at h0 h1 h2 h3 h4 h5; subst h0 h1 h2 h3 h4 h5; rfl
theorem arr9 {α : Type} {cs : Array α} {a0 a1 a2 a3 a4 a5 a6 a7 a8 : α} (h : cs.size = 9) (h0 : cs[0]? = some a0) (h1 : cs[1]? = some a1) (h2 : cs[2]? = some a2) (h3 : cs[3]? = some a3) (h4 : cs[4]? = some a4) (h5 : cs[5]? = some a5) (h6 : cs[6]? = some a6) (h7 : cs[7]? = some a7) (h8 : cs[8]? = some a8) : cs = #[a0, a1, a2, a3, a4, a5, a6, a7, a8] := by
  obtain ⟨l⟩ := cs
  match l, h with
  | [c0, c1, c2, c3, c4, c5, c6, c7, c8], _ => simp at h0 h1 h2 h3 h4 h5 h6 h7 h8; subst h0 h1 h2 h3 h4 h5 h6 h7 h8; rfl

/-- What the walk is told of a slice of integers that came in: it is nil; or it leads to a row of 'cap' cells, the numbers 'zs' (the first 'len' are its elements, the rest its spare room), each fitting its kind. -/
def IsRow (k : IntKind) (w : World) (a : Option Addr) (len cap : Nat) (zs : List Int) : Prop :=
  (a = none ∧ len = 0 ∧ cap = 0 ∧ zs = []) ∨
  ∃ x, a = some x ∧ len ≤ cap ∧ cap ≤ maxLen ∧ zs.length = cap ∧ (∀ i, i < zs.length → w.cell? (x.add i) = some (.int k (zs.getD i 0))) ∧ ∀ n ∈ zs, (Lit.int k n).wf = true

end Go.Proofs.Ytiemfklonhlnnaa.Opn
