/- Contracts of the document's answer: Places. Contracts of the document's answer: Count, Nth, Next, Last. Contracts of package occ: the words of a part, without the bits of others. Contracts of package occ: the iterator of a part's words. Contracts of package occ: Count. Plain facts on words of the double format that stand for integers: no program in sight. What the functions of package frac compute, as plain functions on integers: no program in sight. Plain facts on logarithms, powers and wrapped products: no program in sight. -/
import Derived.Test.YtfokbkkgokioeaaMab
import Derived.Stop.RegionWithIn
import Derived.Laws.ComplexArith
import Derived.WalkKit
import Derived.Lib.BitFns
set_option linter.unusedSimpArgs false
set_option linter.unusedVariables false
namespace Go.Proofs.Ytfokbkkgokioeaa.Occ
open Go.RowKit Go.Shelf Go.Proofs.Ytfokbkkgokioeaa

def nats (l : List Nat) : List Value := l.map (fun x : Nat => Value.int .i64 (x : Int))
theorem nats_length (l : List Nat) : (nats l).length = l.length := by unfold nats; simp
theorem infoI : (Try.prog.info? 3).map (fun i => (i.zero, i.size, i.bytes)) = some (some (.int .i64 0), 1, 8) := by kernel_rfl

set_option maxRecDepth 100000 in
set_option maxHeartbeats 2000000 in
theorem Places_any (a : Option Addr) (ca : Nat) (ws : List Int) (f t : Nat) (w : World) (hu : U64 ws) (hr : Rd .u64 w a ws) (hl : ws.length ≤ 100000) (hft : f ≤ t) (ht : t ≤ 64 * ws.length) :
    Calls Try.prog 57 #[.slice a ws.length ca, .int .i64 f, .int .i64 t] w fun e w' => ∃ v, e = .returned v ∧ w'.ownsRow w.heap.size 3 1 v (occs ws f (t - f)).length (nats (occs ws f (t - f))) ∧ Below w.heap.size w w' := by
  obtain ⟨i0, hi, hz0, hz1, hz2⟩ := info_parts infoI
  have HIS := Lib.hid (fun s w1 hr1 hs => Is_any a ca ws s w1 hu hr1 hl hs)
  have HR := Lib.hid hr
  have HFT := Lib.hid hft
  clear hu hr
  go_enter Try.func57, Try.ntmps57
  go_wp2
  go_loopw [7, 8] (fun v i wr => ∃ k : Nat, f + k ≤ t ∧ i = .int .i64 ((f : Int) + (k : Int)) ∧ wr.ownsRow w.heap.size 3 1 v (occs ws f k).length (nats (occs ws f k)) ∧ Below w.heap.size w wr) (fun _ i _ => t - (intOf i).toNat)
  case atStart => exact ⟨0, hft, by go_num, (World.ownsRow_nil w w.heap.size 3 1 : w.ownsRow w.heap.size 3 1 (.slice Option.none 0 0) (occs ws f 0).length (nats (occs ws f 0))), Below.refl _ _⟩
  case round =>
    obtain ⟨k, hk, rfl, hown, hbl⟩ := hrel
    have HO := Lib.hid hown
    have HB := Lib.hid hbl
    clear hown hbl
    have HS := Lib.hid (occs_succ ws f k)
    have hol := occs_length ws f k
    generalize hL : occs ws f k = L at *
    have HL := Lib.hid hL
    clear hL
    by_cases hlt : f + k < t
    · have HI := Lib.hid (HIS.out (f + k) _ (HR.out.mono HB.out (Nat.le_refl _)) (by omega))
      rw [Int.natCast_add] at HI
      have hlt2 : (f : Int) + (k : Int) < (t : Int) := by omega
      by_cases ho : occB ws (f + k) = true
      · rw [ho] at HI HS
        go_wp2_with fail
        refine HI.out.mono ?_
        rintro e w' ⟨rfl, rfl⟩
        go_wp2_with (at_builtin; refine wpList_append_news HO.out HB.out.size rfl _ _ 24 rfl i0 (.int .i64 0) 8 Try.underlying24 hi hz0 hz1 hz2 rfl _ 1 rfl rfl (by intro u hu; simp at hu; subst hu; rfl) (by unfold maxLen; simp; omega) (by simp; omega) ?_)
        intro v' w1 hown' hb'
        have HO2 := Lib.hid hown'
        have HB2 := Lib.hid (HB.out.trans hb')
        clear hown' hb'
        go_wp2
        go_roundw
        case rel => exact ⟨k + 1, by omega, by go_num, by rw [HS.out, if_pos trivial, List.length_append]; unfold nats; rw [List.map_append]; exact HO2.out, HB2.out⟩
        case measure => simp [intOf]; omega
      · rw [Bool.not_eq_true] at ho
        rw [ho] at HI HS
        go_wp2_with fail
        refine HI.out.mono ?_
        rintro e w' ⟨rfl, rfl⟩
        go_wp2
        go_roundw
        case rel => exact ⟨k + 1, by omega, by go_num, by rw [HS.out, if_neg (by decide), List.append_nil]; exact HO.out, HB.out⟩
        case measure => simp [intOf]; omega
    · have HE : Hid (t - f = k) := Lib.hid (by omega)
      have hge : ¬ (f : Int) + (k : Int) < (t : Int) := by omega
      go_wp2
      go_ret
      exact ⟨_, rfl, by rw [HE.out, HL.out]; exact HO.out, HB.out⟩

end Go.Proofs.Ytfokbkkgokioeaa.Occ

namespace Go.Proofs.Ytfokbkkgokioeaa.Occ
open Go.RowKit Go.Shelf Go.Proofs.Ytfokbkkgokioeaa

def inB (n f t : Int) : Bool := decide (0 ≤ f) && (decide (f ≤ t) && decide (t ≤ n))
theorem inB_iff {n f t : Int} : inB n f t = true ↔ 0 ≤ f ∧ f ≤ t ∧ t ≤ n := by unfold inB; simp only [Bool.and_eq_true, decide_eq_true_eq]
def upB (n s : Int) : Bool := decide (0 ≤ s) && decide (s ≤ n)
theorem upB_iff {n s : Int} : upB n s = true ↔ 0 ≤ s ∧ s ≤ n := by unfold upB; simp only [Bool.and_eq_true, decide_eq_true_eq]
def cntV (ws : List Int) (n f t : Int) : Int × Int := if askV ws n (inB n f t) = 0 then (((occs ws f.toNat (t - f).toNat).length : Int), 0) else (0, askV ws n (inB n f t))
def nthV (ws : List Int) (n k : Int) : Int × Int :=
  if chkV ws n = 0 then (if 0 ≤ k ∧ k < ((occs ws 0 n.toNat).length : Int) then ((((occs ws 0 n.toNat).getD k.toNat 0 : Nat) : Int), 0) else (0, 6)) else (0, chkV ws n)
def firstV (l : List Nat) : Int × Int := if l.length = 0 then (0, 6) else (((l.getD 0 0 : Nat) : Int), 0)
def endV (l : List Nat) : Int × Int := if l.length = 0 then (0, 6) else (((l.getD (l.length - 1) 0 : Nat) : Int), 0)
def nextV (ws : List Int) (n s : Int) : Int × Int := if askV ws n (upB n s) = 0 then firstV (occs ws s.toNat (n - s).toNat) else (0, askV ws n (upB n s))
def lastV (ws : List Int) (n s : Int) : Int × Int := if askV ws n (upB n s) = 0 then endV (occs ws 0 s.toNat) else (0, askV ws n (upB n s))

def zs (l : List Nat) : List Int := l.map (fun x : Nat => (x : Int))
theorem nats_zs (l : List Nat) : nats l = (zs l).map (Value.int .i64) := by unfold nats zs; rw [List.map_map]; rfl
theorem zs_length (l : List Nat) : (zs l).length = l.length := by unfold zs; rw [List.length_map]
theorem zs_getD (l : List Nat) (i : Nat) : (zs l).getD i 0 = ((l.getD i 0 : Nat) : Int) := by
  unfold zs
  simp only [List.getD_eq_getElem?_getD, List.getElem?_map]
  cases l[i]? <;> rfl
/-- The list that was made, as it is read. -/
theorem places_read {w w1 : World} {v : Value} {l : List Nat} (h : w1.ownsRow w.heap.size 3 1 v l.length (nats l)) : ∃ a c, v = .slice a l.length c ∧ Rd .i64 w1 a (zs l) := by
  rw [nats_zs] at h
  obtain ⟨a, c, hv, hn, hr, _⟩ := owns_arg h
  rw [zs_length] at hv
  exact ⟨a, c, hv, hr⟩
/-- Words that may be, and a place that is asked for. -/
theorem ask_bad {ws : List Int} {n : Int} {b : Bool} (hc : chkV ws n = 0) (hb : ¬ b = true) : askV ws n b = 2 := by unfold askV; rw [if_pos hc, if_neg hb]
theorem ask_ok {ws : List Int} {n : Int} {b : Bool} (hc : chkV ws n = 0) (hb : b = true) : askV ws n b = 0 := by unfold askV; rw [if_pos hc, if_pos hb]
theorem ask_chk {ws : List Int} {n : Int} {b : Bool} (hc : ¬ chkV ws n = 0) : askV ws n b = chkV ws n := by unfold askV; rw [if_neg hc]

end Go.Proofs.Ytfokbkkgokioeaa.Occ

namespace Go.Proofs.Ytfokbkkgokioeaa.Occ
open Go.RowKit Go.Shelf Go.Proofs.Ytfokbkkgokioeaa

theorem cut_none (x : Nat) (hx : x < 18446744073709551616) : cutN x 0 0 = x := by unfold cutN; simp; omega
set_option maxRecDepth 100000 in
set_option maxHeartbeats 1000000 in
theorem cut_core (b off Bw Bf Bt ca ln x f t k l h : Nat) (w : World) (hx : x < 18446744073709551616)
    (hcw : w.cell? ⟨Bw, 0, Option.none⟩ = some (.slice (some ⟨b, off, Option.none⟩) ln ca)) (hcf : w.cell? ⟨Bf, 0, Option.none⟩ = some (.int .i64 f)) (hct : w.cell? ⟨Bt, 0, Option.none⟩ = some (.int .i64 t))
    (hcx : w.cell? ⟨b, off + k, Option.none⟩ = some (.int .u64 x)) (hk : k < ln) (hln : ln ≤ 100000) (hf : f ≤ 6500000) (ht : t ≤ 6500000) (hl : l = f - 64 * k) (hh : h = 64 * (k + 1) - t) (hl2 : l < 64) (hh2 : h < 64) :
    Calls Try.prog 71 #[.int .i64 k, .pointer (some ⟨Bw, 0, Option.none⟩), .pointer (some ⟨Bf, 0, Option.none⟩), .pointer (some ⟨Bt, 0, Option.none⟩)] w fun e w' => e = .returned (.int .u64 ((cutN x l h : Nat) : Int)) ∧ w = w' := by
  obtain ⟨y, hy⟩ : ∃ y, y = x / 2 ^ l * 2 ^ l := ⟨_, rfl⟩
  obtain ⟨z, hz⟩ : ∃ z, z = y * 2 ^ h % 18446744073709551616 := ⟨_, rfl⟩
  obtain ⟨u, hu⟩ : ∃ u, u = z / 2 ^ h := ⟨_, rfl⟩
  have hyx : y ≤ x := by rw [hy]; exact Nat.div_mul_le_self _ _
  have hzl : z < 18446744073709551616 := by rw [hz]; exact Nat.mod_lt _ (by decide)
  have HC : Hid (cutN x l h = u) := Lib.hid (by unfold cutN; rw [← hy, ← hz, ← hu])
  have e1 : (x : Int) / 2 ^ l * 2 ^ l = (y : Int) := by rw [hy]; simp
  have e2 : IntKind.u64.wrap ((y : Int) * 2 ^ h) = (z : Int) := by rw [IntKind.wrap_u64, hz]; simp
  have e3 : (z : Int) / 2 ^ h = (u : Int) := by rw [hu]; simp
  rw [HC.out]
  have g1 : ((k : Int) + 1) * 64 - (t : Int) = (h : Int) ∨ h = 0 := by omega
  by_cases h1 : l = 0
  · subst h1
    have hyx2 : y = x := by rw [hy]; simp
    subst hyx2
    have g2 : ¬ (0 : Int) < (f : Int) - (k : Int) * 64 := by omega
    by_cases h2 : h = 0
    · subst h2
      have hux : u = y := by rw [hu, hz]; simp; omega
      subst hux
      have g3 : ¬ (0 : Int) < ((k : Int) + 1) * 64 - (t : Int) := by omega
      clear hy hz hu HC e1 e2 e3 hl hh g1
      go_enter Try.func71, Try.ntmps71
      go_wp2
      go_ret
      exact ⟨rfl, rfl⟩
    · have g3 : ((k : Int) + 1) * 64 - (t : Int) = (h : Int) := by omega
      have h2' : 0 < h := by omega
      clear hy hz hu HC e1 hl hh g1 h2
      go_enter Try.func71, Try.ntmps71
      go_wp2
      go_ret
      exact ⟨rfl, rfl⟩
  · have g2 : (f : Int) - (k : Int) * 64 = (l : Int) := by omega
    have h1' : 0 < l := by omega
    by_cases h2 : h = 0
    · subst h2
      have hux : u = y := by rw [hu, hz]; simp; omega
      subst hux
      have g3 : ¬ (0 : Int) < ((k : Int) + 1) * 64 - (t : Int) := by omega
      clear hy hz hu HC e2 e3 hl hh g1 h1
      go_enter Try.func71, Try.ntmps71
      go_wp2
      go_ret
      exact ⟨rfl, rfl⟩
    · have g3 : ((k : Int) + 1) * 64 - (t : Int) = (h : Int) := by omega
      have h2' : 0 < h := by omega
      clear hy hz hu HC hl hh g1 h2 h1
      go_enter Try.func71, Try.ntmps71
      go_wp2
      go_ret
      exact ⟨rfl, rfl⟩
theorem cut_any (a : Option Addr) (Bw Bf Bt ca : Nat) (ws : List Int) (f t k : Nat) (w : World) (hu : U64 ws) (hr : Rd .u64 w a ws)
    (hcw : w.cell? ⟨Bw, 0, Option.none⟩ = some (.slice a ws.length ca)) (hcf : w.cell? ⟨Bf, 0, Option.none⟩ = some (.int .i64 f)) (hct : w.cell? ⟨Bt, 0, Option.none⟩ = some (.int .i64 t))
    (hln : ws.length ≤ 100000) (ht : t ≤ 64 * ws.length) (hft : f ≤ t) (hk : 64 * k < t) (hk2 : f < 64 * (k + 1)) :
    Calls Try.prog 71 #[.int .i64 k, .pointer (some ⟨Bw, 0, Option.none⟩), .pointer (some ⟨Bf, 0, Option.none⟩), .pointer (some ⟨Bt, 0, Option.none⟩)] w fun e w' => e = .returned (.int .u64 ((pw ws f t k : Nat) : Int)) ∧ w = w' := by
  obtain ⟨b, off, rfl, hc⟩ := Rd.word hu hr k (by omega)
  exact cut_core b off Bw Bf Bt ca ws.length (wd ws k) f t k _ _ w (wd_of hu k) hcw hcf hct hc (by omega) hln (by omega) (by omega) rfl rfl (by omega) (by omega)

end Go.Proofs.Ytfokbkkgokioeaa.Occ

namespace Go.Proofs.Ytfokbkkgokioeaa.Occ
open Go.RowKit Go.Shelf Go.Proofs.Ytfokbkkgokioeaa
attribute [local go_sem] Oper.semAt_some

/-- Numbers that lie below a block stay. -/
def RdN (n : Nat) (k : IntKind) (w : World) (a : Option Addr) (zs : List Int) : Prop :=
  zs = [] ∨ ∃ b off, a = some ⟨b, off, Option.none⟩ ∧ b < n ∧ ∀ i, i < zs.length → w.cell? ⟨b, off + i, Option.none⟩ = some (.int k (zs.getD i 0))
theorem RdN.of {n : Nat} {k : IntKind} {w : World} {a : Option Addr} {zs : List Int} (h : Rd k w a zs) (hn : w.heap.size ≤ n) : RdN n k w a zs := by
  rcases h with h | ⟨b, off, ha, hlt, hc⟩
  · exact .inl h
  · exact .inr ⟨b, off, ha, by omega, hc⟩
theorem RdN.keep {n : Nat} {k : IntKind} {w w1 : World} {a : Option Addr} {zs : List Int} (h : RdN n k w a zs) (hb : Below n w w1) : RdN n k w1 a zs := by
  rcases h with h | ⟨b, off, ha, hlt, hc⟩
  · exact .inl h
  · exact .inr ⟨b, off, ha, hlt, fun i hi => (hb.cell (p := ⟨b, off + i, Option.none⟩) hlt).trans (hc i hi)⟩
theorem RdN.rd {n : Nat} {k : IntKind} {w : World} {a : Option Addr} {zs : List Int} (h : RdN n k w a zs) (hn : n ≤ w.heap.size) : Rd k w a zs := by
  rcases h with h | ⟨b, off, ha, hlt, hc⟩
  · exact .inl h
  · exact .inr ⟨b, off, ha, by omega, hc⟩

/-- What a round is handed: by its number. -/
def ym (ws : List Int) (f t j : Nat) : Nat × Nat := yl ws f t (min j (ny f t))
def encP (x : Nat × Nat) : Array Value := #[.int .i64 (x.1 : Int), .int .u64 (x.2 : Int)]
def encJ (ws : List Int) (f t j : Nat) : Array Value := encP (ym ws f t j)
/-- The slots that the rounds have told. -/
def bI (ws : List Int) (f t : Nat) (l : List Nat) : List Nat := blL (l.map (ym ws f t))
theorem bI_snoc (ws : List Int) (f t : Nat) (l : List Nat) (j : Nat) : bI ws f t (l ++ [j]) = bI ws f t l ++ bl (ym ws f t j).2 (ym ws f t j).1 := by
  unfold bI; rw [List.map_append, List.map_cons, List.map_nil, blL_snoc]
theorem ym_upto (ws : List Int) (f t : Nat) : (upto id (ny f t)).map (ym ws f t) = upto (yl ws f t) (ny f t) := by
  unfold upto
  rw [List.map_map]
  apply List.map_congr_left
  intro j hj
  have := List.mem_range.1 hj
  show ym ws f t j = _
  unfold ym
  rw [Nat.min_eq_left (by omega)]
theorem bI_all (ws : List Int) (f t : Nat) (hft : f ≤ t) : bI ws f t (upto id (ny f t)) = occs ws f (t - f) := by
  unfold bI; rw [ym_upto, occs_all ws f t hft]
theorem bI_pre {ws : List Int} {f t : Nat} (hft : f ≤ t) {pre : List Nat} (h : pre <+: upto id (ny f t)) : ∃ r, occs ws f (t - f) = bI ws f t pre ++ r := by
  have h2 : pre.map (ym ws f t) <+: upto (yl ws f t) (ny f t) := by rw [← ym_upto]; exact h.map _
  exact occs_pre hft h2
theorem ym_lt {ws : List Int} (hu : U64 ws) (f t j : Nat) : (ym ws f t j).2 < 18446744073709551616 := cutN_lt _ _ _ (wd_of hu _)
theorem ym_first (ws : List Int) (f t j : Nat) (hft : f ≤ t) : (ym ws f t j).1 ≤ t + 63 := by
  show 64 * (f / 64 + min j (ny f t)) ≤ t + 63
  unfold ny; omega
theorem bI_length {ws : List Int} {f t : Nat} (l : List Nat) : (bI ws f t l).length ≤ 64 * l.length := by
  induction l with
  | nil => exact Nat.zero_le _
  | cons j l ih =>
    show (bl (ym ws f t j).2 (ym ws f t j).1 ++ bI ws f t l).length ≤ _
    rw [List.length_append, List.length_cons]
    have : (bl (ym ws f t j).2 (ym ws f t j).1).length ≤ 64 := by
      unfold bl; rw [List.length_map]
      have := List.length_filter_le (fun i => (ym ws f t j).2.testBit i) (List.range 64)
      rwa [List.length_range] at this
    omega

set_option maxRecDepth 100000 in
set_option maxHeartbeats 2000000 in
theorem parts1_in (m l Bw Bf Bt n0 lo hi f t ca : Nat) (a : Option Addr) (ws : List Int) (hu : U64 ws) (hln : ws.length ≤ 100000) (ht : t ≤ 64 * ws.length) (hft : f ≤ t) (b1 : lo ≤ Bw ∧ Bw < hi) (b2 : lo ≤ Bf ∧ Bf < hi) (b3 : lo ≤ Bt ∧ Bt < hi) (J Jx : List Nat → World → Prop)
    (hY : ∀ pre x W, J pre W → pre.length < ny f t → YieldAt Fence.wide (m - 1) Try.prog l (encJ ws f t x) W fun e W' =>
      (e = .returned (.bool true) ∧ J (pre ++ [x]) W' ∧ Keeps n0 lo hi W W') ∨ (e = .returned (.bool false) ∧ Jx (pre ++ [x]) W'))
    (W : World) (hnz : n0 ≤ W.heap.size) (hrw : RdN n0 .u64 W a ws) (hcw : W.cell? ⟨Bw, 0, Option.none⟩ = some (.slice a ws.length ca)) (hcf : W.cell? ⟨Bf, 0, Option.none⟩ = some (.int .i64 f)) (hct : W.cell? ⟨Bt, 0, Option.none⟩ = some (.int .i64 t)) (h0 : J [] W) :
    CallsIn Fence.wide m Try.prog 70 #[.func (.yield l) #[] #[], .pointer (some ⟨Bw, 0, Option.none⟩), .pointer (some ⟨Bf, 0, Option.none⟩), .pointer (some ⟨Bt, 0, Option.none⟩)] W fun e W' => (∃ v, e = .returned v) ∧
      ((∃ ys, ys = upto id (ny f t) ∧ J ys W') ∨ (∃ pre, pre <+: upto id (ny f t) ∧ Jx pre W')) := by
  have hd : (f : Int) / 64 = ((f / 64 : Nat) : Int) := rfl
  have HU := Lib.hid hu
  have HRW := Lib.hid hrw
  have HNY : Hid (ny f t = (t + 63) / 64 - f / 64) := Lib.hid rfl
  have HF : Hid (64 * (f / 64) ≤ f ∧ f < 64 * (f / 64) + 64) := Lib.hid (by omega)
  have HYL : Hid (∀ j, j < ny f t → encJ ws f t j = encP (64 * (f / 64 + j), pw ws f t (f / 64 + j))) := Lib.hid (fun j hj => by unfold encJ ym; rw [Nat.min_eq_left (by omega)]; rfl)
  have HNY2 : Hid (ny f t = (t + 63) / 64 - f / 64) := Lib.hid rfl
  clear hu hrw
  generalize ny f t = ln at *
  generalize hq : f / 64 = q at *
  clear hq
  refine callsIn_of_wp Try.func70 rfl trivial ?_ rfl
  simp only [Try.ntmps70, List.size_toArray, List.length_cons, List.length_nil, Nat.reduceAdd, Nat.reduceSub, Array.replicate_succ, Array.replicate_zero, List.push_toArray, List.append_toArray, List.nil_append, List.cons_append]
  gi_wp2
  gi_loopw [6] (fun i wr => ∃ j : Nat, j ≤ ln ∧ i = .int .i64 ((q : Int) + (j : Int)) ∧ J (upto id j) wr ∧ RdN n0 .u64 wr a ws ∧ n0 ≤ wr.heap.size ∧ (∀ b o, lo ≤ b → b < hi → wr.cell? ⟨b, o, Option.none⟩ = W.cell? ⟨b, o, Option.none⟩)) (fun i _ => q + ln - (intOf i).toNat)
  case atStart => exact ⟨0, Nat.zero_le _, by go_num, h0, HRW.out, hnz, fun _ _ _ _ => rfl⟩
  case round =>
    obtain ⟨j, hj, rfl, hJs, hrd, hwz, hsame⟩ := hrel
    have c1 := (hsame Bw 0 b1.1 b1.2).trans hcw
    have c2 := (hsame Bf 0 b2.1 b2.2).trans hcf
    have c3 := (hsame Bt 0 b3.1 b3.2).trans hct
    have HS := Lib.hid hsame
    have HRD := Lib.hid hrd
    clear hrd hsame
    have hln2 := HNY.out
    by_cases hlt : j < ln
    · have h1 := HF.out
      have hlt2 : ((q : Int) + (j : Int)) * 64 < (t : Int) := by omega
      have HCUT := Lib.hid (cut_any a Bw Bf Bt ca ws f t (q + j) wr HU.out (HRD.out.rd hwz) c1 c2 c3 hln ht hft (by omega) (by omega))
      rw [Int.natCast_add] at HCUT
      obtain ⟨fn, tmps, assign, body, hy, hR⟩ := hY _ j wr hJs (by rw [upto_length]; exact hlt)
      rw [HYL.out j hlt] at hy
      dsimp only [encP] at hy
      have hpl : ((64 * (q + j) : Nat) : Int) = ((q : Int) + (j : Int)) * 64 := by omega
      rw [hpl] at hy
      have HNEW : Hid (upto id (j + 1) = upto id j ++ [j]) := Lib.hid (upto_succ _ _)
      have hb1 : q + j ≤ 6500000 := by omega
      have HL2 := Lib.hid hln2
      clear hpl h1 hln2
      generalize pw ws f t (q + j) = x at *
      gi_wp2_with fail
      refine ⟨trivial, fun h => (by cases h), (callsIn_wide.2 HCUT.out).mono ?_⟩
      rintro e w1 ⟨rfl, rfl⟩
      gi_wp2_with fail
      refine ⟨fun h => (by cases h), hR.mono ?_⟩
      rintro e W3 (⟨rfl, hJ3, hk3⟩ | ⟨rfl, hJx3⟩)
      · gi_wp2
        go_roundw
        case rel => exact ⟨j + 1, by omega, by go_num, by rw [HNEW.out]; exact hJ3, HRD.out.keep hk3.below, Nat.le_trans hwz hk3.below.size, fun b o h1 h2 => (hk3.cell h1 h2).trans (HS.out b o h1 h2)⟩
        case measure => simp [intOf]; omega
      · gi_wp2
        refine bodyPost_ret (results_none rfl _ _ _) rfl ?_
        exact ⟨⟨_, rfl⟩, .inr ⟨_, upto_prefix _ (show j + 1 ≤ ln by omega), by rw [HNEW.out]; exact hJx3⟩⟩
    · obtain rfl : j = ln := by omega
      have h1 := HF.out
      have hge : ¬ ((q : Int) + (j : Int)) * 64 < (t : Int) := by omega
      have hb1 : q + j ≤ 6500000 := by omega
      clear h1 hln2
      gi_wp2
      refine ⟨rfl, _, results_none rfl _ _ _, ?_⟩
      exact ⟨⟨_, rfl⟩, .inl hJs⟩

/-- The iterator's value: three boxes. -/
def boxP (w : World) (a : Option Addr) (ln ca : Nat) (f t : Int) : World := ((w.alloc (.cells #[.slice a ln ca] 22)).alloc (.cells #[.int .i64 f] 3)).alloc (.cells #[.int .i64 t] 3)
theorem boxP_size (w : World) (a : Option Addr) (ln ca : Nat) (f t : Int) : (boxP w a ln ca f t).heap.size = w.heap.size + 3 := by simp [boxP]
theorem boxP_below (w : World) (a : Option Addr) (ln ca : Nat) (f t : Int) : Below w.heap.size w (boxP w a ln ca f t) := (((Below.refl _ w).alloc (Nat.le_refl _) _).alloc (by simp) _).alloc (by simp; omega) _
theorem boxP_cells (w : World) (a : Option Addr) (ln ca : Nat) (f t : Int) : (boxP w a ln ca f t).cell? ⟨w.heap.size, 0, Option.none⟩ = some (.slice a ln ca) ∧ (boxP w a ln ca f t).cell? ⟨w.heap.size + 1, 0, Option.none⟩ = some (.int .i64 f) ∧ (boxP w a ln ca f t).cell? ⟨w.heap.size + 2, 0, Option.none⟩ = some (.int .i64 t) := by
  have a1 := Boxed.new w 22 (.slice a ln ca)
  have a2 := Boxed.new (w.alloc (.cells #[.slice a ln ca] 22)) 3 (.int .i64 f)
  have a3 := Boxed.new ((w.alloc (.cells #[.slice a ln ca] 22)).alloc (.cells #[.int .i64 f] 3)) 3 (.int .i64 t)
  simp only [World.size_alloc] at a2 a3
  exact ⟨((a1.alloc _).alloc _).cell, (a2.alloc _).cell, a3.cell⟩
set_option maxHeartbeats 1000000 in
theorem parts_any (a : Option Addr) (ln ca : Nat) (f t : Int) (w : World) :
    Calls Try.prog 46 #[.slice a ln ca, .int .i64 f, .int .i64 t] w fun e w' => e = .returned (.func (.func 70) #[] #[.pointer (some ⟨w.heap.size, 0, Option.none⟩), .pointer (some ⟨w.heap.size + 1, 0, Option.none⟩), .pointer (some ⟨w.heap.size + 2, 0, Option.none⟩)]) ∧
      boxP w a ln ca f t = w' := by
  go_enter Try.func46, Try.ntmps46
  go_wp2
  go_ret
  exact ⟨rfl, rfl⟩

/-- The words come one behind the other; or a part of them, a round having said 'no more'. -/
theorem parts_stops (m n0 f t ca : Nat) (a : Option Addr) (ws : List Int) (w : World) (hu : U64 ws) (hr : RdN n0 .u64 w a ws) (hn : n0 ≤ w.heap.size) (hln : ws.length ≤ 100000) (ht : t ≤ 64 * ws.length) (hft : f ≤ t) :
    SeqStopsK Fence.wide m Try.prog 70 #[.pointer (some ⟨w.heap.size, 0, Option.none⟩), .pointer (some ⟨w.heap.size + 1, 0, Option.none⟩), .pointer (some ⟨w.heap.size + 2, 0, Option.none⟩)] (encJ ws f t) (Keeps n0 w.heap.size (w.heap.size + 3)) (fun ys => ys = upto id (ny f t)) (fun pre => pre <+: upto id (ny f t)) (ny f t) (boxP w a ws.length ca f t) := fun l J Jx W hW hJ hJz hY h0 => by
  obtain ⟨c1, c2, c3⟩ := boxP_cells w a ws.length ca f t
  have hs := boxP_size w a ws.length ca f t
  have hb := boxP_below w a ws.length ca f t
  exact parts1_in m l _ _ _ n0 w.heap.size (w.heap.size + 3) f t ca a ws hu hln ht hft (by omega) (by omega) (by omega) J Jx hY W (by have := hW.size; omega) (hr.keep ((hb.mono hn).trans (hW.mono (by omega)))) ((hW.cell (p := ⟨w.heap.size, 0, Option.none⟩) (by show w.heap.size < _; omega)).trans c1) ((hW.cell (p := ⟨w.heap.size + 1, 0, Option.none⟩) (by show w.heap.size + 1 < _; omega)).trans c2) ((hW.cell (p := ⟨w.heap.size + 2, 0, Option.none⟩) (by show w.heap.size + 2 < _; omega)).trans c3) h0

end Go.Proofs.Ytfokbkkgokioeaa.Occ

namespace Go.Proofs.Ytfokbkkgokioeaa.Occ
open Go.RowKit Go.Shelf Go.Proofs.Ytfokbkkgokioeaa
attribute [local go_sem] Oper.semAt_some

set_option maxRecDepth 100000 in
set_option maxHeartbeats 2000000 in
theorem count_ok (a : Option Addr) (ca : Nat) (ws : List Int) (m f t : Nat) (w : World) (hu : U64 ws) (hr : Rd .u64 w a ws) (hl : ws.length ≤ 100000) (hv : askV ws m (inB m f t) = 0) :
    Calls Try.prog 25 #[.slice a ws.length ca, .int .i64 m, .int .i64 f, .int .i64 t] w fun e w' => e = .returned (.tuple #[.int .i64 ((occs ws f (t - f)).length : Int), .int .i64 0]) ∧ Below w.heap.size w w' := by
  obtain ⟨hc, hb⟩ := askV_ok hv
  obtain ⟨m', hm', hm, hlen, _⟩ := chkV_ok hc
  obtain rfl : m = m' := Int.ofNat_inj.1 hm'
  obtain ⟨h0, h1, h2⟩ := inB_iff.1 hb
  have hft : f ≤ t := by omega
  have htl : t ≤ 64 * ws.length := by omega
  have hb0 : Below w.heap.size w (w.alloc (.cells #[.int .i64 0] 3)) := (Below.refl _ w).alloc (Nat.le_refl _) _
  have HA := Lib.hid (asked_any a ca ws m true (w.alloc (.cells #[.int .i64 0] 3)) hu (hr.mono hb0 (Nat.le_refl _)) hl)
  rw [hb] at hv
  rw [hv] at HA
  have HU := Lib.hid hu
  have HR := Lib.hid hr
  have HALL := Lib.hid (bI_all ws f t hft)
  have HNY : Hid (ny f t ≤ 100001) := Lib.hid (by unfold ny; omega)
  have hm2 : (f : Int) ≤ (t : Int) := by omega
  have hm3 : (t : Int) ≤ (m : Int) := h2
  clear hu hr hc hb hlen hv hm' h0 h1 h2
  refine (callsIn_wide (n := 2)).1 ?_
  refine callsIn_of_wp_marks Try.func25 rfl trivial ?_ rfl
  simp only [Try.ntmps25, List.size_toArray, List.length_cons, List.length_nil, Nat.reduceAdd, Nat.reduceSub, Array.replicate_succ, Array.replicate_zero, List.push_toArray, List.append_toArray, List.nil_append, List.cons_append]
  gi_wp2_with fail
  refine ⟨trivial, (callsIn_wide.2 HA.out).mono ?_⟩
  rintro e w' ⟨rfl, rfl⟩
  gi_wp2_with fail
  refine ⟨trivial, (callsIn_wide.2 (parts_any _ _ _ _ _ _)).mono ?_⟩
  rintro e w' ⟨rfl, rfl⟩
  have bM := Boxed.new w 3 (.int .i64 0)
  have hw2 : (w.alloc (.cells #[.int .i64 0] 3)).heap.size = w.heap.size + 1 := by simp
  generalize w.alloc (.cells #[.int .i64 0] 3) = w2 at *
  have hst := parts_stops 1 w.heap.size f t ca a ws w2 HU.out ((RdN.of HR.out (Nat.le_refl _)).keep hb0) (by omega) hl htl hft
  have hs := boxP_size w2 a ws.length ca f t
  have hbx := boxP_below w2 a ws.length ca f t
  have HW2 := Lib.hid hw2
  have HS := Lib.hid hs
  clear hw2 hs
  gi_wp2_with fail
  have hw2 : w2.heap.size ≤ w.heap.size + 1 ∧ w.heap.size + 1 ≤ w2.heap.size := by have := HW2.out; omega
  have hs : (boxP w2 a ws.length ca f t).heap.size ≤ w2.heap.size + 3 ∧ w2.heap.size + 3 ≤ (boxP w2 a ws.length ca f t).heap.size := by have := HS.out; omega
  have bM := bM.kept (grown0 hbx) (by simp)
  have hB3 := hb0.trans (hbx.mono (by omega))
  generalize boxP w2 a ws.length ca f t = w3 at *
  have hKE := Keeps.b (n0 := w.heap.size) (lo := w2.heap.size) (hi := w2.heap.size + 3) (w := w3) (by omega) (by omega)
  refine rangeFunc_put (fun j => [(35, .int .i64 ((ym ws f t j).1 : Int)), (36, .int .u64 ((ym ws f t j).2 : Int)), (12, .int .u64 ((ym ws f t j).2 : Int))]) rfl (by decide) (gf := 70) (lb := #[.pointer (some ⟨w2.heap.size, 0, Option.none⟩), .pointer (some ⟨w2.heap.size + 1, 0, Option.none⟩), .pointer (some ⟨w2.heap.size + 2, 0, Option.none⟩)]) rfl trivial (enters_of Try.func70 (by kernel_rfl) rfl) hst Keeps.t hKE (Below.refl _ _) (fun _ => rfl)
    (fun pre W => (W.cell? ⟨w.heap.size, 0, Option.none⟩ = some (.int .i64 (((bI ws f t pre).length : Nat) : Int)) ∧ W.frozen? ⟨w.heap.size, 0, Option.none⟩ = false) ∧ Below w.heap.size w W)
    (fun c pre W => False ∧ Below w.heap.size w W)
    (OwnFrom.and (Own.from (fun s A B row hs hg hr => ⟨cell_kept hs.1 hg hr, (frozen_kept hs.1 hg hr).trans hs.2⟩) _) (ownFrom_below (Nat.le_refl _) (by omega)))
    (fun c => OwnFrom.and (Own.from (fun s A B row hs hg hr => hs) _) (ownFrom_below (Nat.le_refl _) (by omega)))
    ⟨⟨bM.cell, bM.frozen⟩, hB3⟩ ?assign ?body ?done ?stop
  case assign =>
    intro l x W K hK
    dsimp only [encJ, encP]
    gi_wp2
    exact hK
  case body =>
    rintro l pre j W ⟨⟨hc, hf⟩, hB⟩ hN
    have hlt := ym_lt HU.out f t j
    have HSN := Lib.hid (bI_snoc ws f t pre j)
    have HBL := Lib.hid (bl_length (ym ws f t j).2 (ym ws f t j).1)
    have hbn := bI_length (ws := ws) (f := f) (t := t) pre
    have hny := HNY.out
    have hpop : popN (ym ws f t j).2 ≤ 64 := by
      have := HBL.out
      unfold bl at this; rw [List.length_map] at this
      have h3 := List.length_filter_le (fun i => (ym ws f t j).2.testBit i) (List.range 64)
      rw [List.length_range] at h3
      unfold popN; omega
    have HO := Lib.hid (fun w => OnesCount_any (ym ws f t j).2 w hlt)
    have hnew : ((bI ws f t (pre ++ [j])).length : Int) = ((bI ws f t pre).length : Int) + (popN (ym ws f t j).2 : Int) := by
      rw [HSN.out, List.length_append, HBL.out]; unfold popN; omega
    have HNEW := Lib.hid hnew
    clear hnew
    generalize (bI ws f t pre).length = cn at *
    generalize (ym ws f t j).2 = x at *
    generalize (ym ws f t j).1 = fi at *
    generalize popN x = p at *
    have hcn : cn ≤ 6500000 := by omega
    have hwr : IntKind.i64.wrap ((cn : Int) + (p : Int)) = (cn : Int) + (p : Int) := by rw [IntKind.wrap_i64]; omega
    clear hbn hny
    gi_wp2
    gi_region_with (first | (refine ⟨trivial, rfl, (CallsIn.inRound l (callsIn_wide.2 (HO.out _))).mono ?_⟩; rintro e w1 ⟨rfl, rfl⟩))
    all_goals
      gi_wp2
      have hk1 : Keeps w.heap.size w2.heap.size (w2.heap.size + 3) W (W.setCell ⟨w.heap.size, 0, Option.none⟩ (.int .i64 ((cn : Int) + (p : Int)))) := (Keeps.refl _ _ _ W).setCell _ (by simp) (by simp; omega) _
      refine ⟨((KeepsOthers.setCell _ _ _).trans (KeepsOthers.drew _)).from _, hk1.t ⟨(Below.refl _ _).drew, fun _ _ _ => rfl⟩, ⟨⟨?_, ?_⟩, (hB.setCell (by simp) _).drew⟩⟩
      · rw [cell_drew_own, World.cell?_setCell_same' _ _ _ (by rw [hc]; rfl), HNEW.out]
      · rw [frozen_drew_own, World.frozen?_setCell]; exact hf
  case done =>
    rintro D ys W hD rfl ⟨⟨hc, hf⟩, hB⟩ hK
    rw [HALL.out] at hc
    obtain ⟨cn, hcn⟩ : ∃ cn, cn = (occs ws f (t - f)).length := ⟨_, rfl⟩
    rw [← hcn] at hc
    have HCN := Lib.hid hcn
    clear hcn
    gi_wp2
    have hK' := (KeepsOthers.setCell W ⟨w.heap.size, 0, Option.none⟩ (.int .i64 cn)).same D _ hK rfl
    refine ⟨by simp, .inl ⟨_, _, rfl, run_takeDeferred hK', ?_⟩⟩
    have hc5 := cell_kept (World.cell?_setCell_same' W ⟨w.heap.size, 0, Option.none⟩ (.int .i64 cn) (by rw [hc]; rfl)) (grownBy_putObj' _ D (.deferred Option.none)) (fun r e => by cases e; exact ⟨_, hK', rfl⟩)
    refine ⟨.tuple #[.int .i64 cn, .int .i64 0], by simp [results, Try.results25, go_sem, hc5], by rw [HCN.out], ?_⟩
    exact (hB.setCell (by simp) _).trans (belowK_b (w := w) (Nat.le_refl _) _ D _ _ (by omega) hK' rfl rfl)
  case stop =>
    rintro D c pre W hD hpre ⟨h, hB⟩ hK
    exact h.elim

set_option maxRecDepth 100000 in
set_option maxHeartbeats 1000000 in
theorem Count_any (a : Option Addr) (ca : Nat) (ws : List Int) (n f t : Int) (w : World) (hu : U64 ws) (hr : Rd .u64 w a ws) (hl : ws.length ≤ 100000) :
    Calls Try.prog 25 #[.slice a ws.length ca, .int .i64 n, .int .i64 f, .int .i64 t] w fun e w' => e = .returned (.tuple #[.int .i64 (cntV ws n f t).1, .int .i64 (cntV ws n f t).2]) ∧ Below w.heap.size w w' := by
  by_cases hv : askV ws n (inB n f t) = 0
  · obtain ⟨hc, hb⟩ := askV_ok hv
    obtain ⟨m, rfl, hm, hlen, _⟩ := chkV_ok hc
    obtain ⟨h0, h1, h2⟩ := inB_iff.1 hb
    obtain ⟨f, rfl⟩ := Int.eq_ofNat_of_zero_le h0
    obtain ⟨t, rfl⟩ := Int.eq_ofNat_of_zero_le (show 0 ≤ t by omega)
    rw [show cntV ws (m : Int) (f : Int) (t : Int) = (((occs ws f (t - f)).length : Int), 0) by unfold cntV; rw [if_pos hv, Int.toNat_natCast, show ((t : Int) - (f : Int)).toNat = t - f by omega]]
    exact count_ok a ca ws m f t w hu hr hl hv
  · rw [show cntV ws n f t = (0, askV ws n (inB n f t)) from if_neg hv]
    have hb0 : Below w.heap.size w (w.alloc (.cells #[.int .i64 0] 3)) := (Below.refl _ w).alloc (Nat.le_refl _) _
    have HA1 := Lib.hid (asked_any a ca ws n (inB n f t) (w.alloc (.cells #[.int .i64 0] 3)) hu (hr.mono hb0 (Nat.le_refl _)) hl)
    have HB0 := Lib.hid hb0
    generalize hc : askV ws n (inB n f t) = c at *
    clear hu hr hc hb0
    by_cases h0 : 0 ≤ f
    · by_cases h1 : f ≤ t
      · by_cases h2 : t ≤ n
        · rw [inB_iff.2 ⟨h0, h1, h2⟩] at HA1
          go_enter Try.func25, Try.ntmps25
          go_wp2_with fail
          refine HA1.out.mono ?_
          rintro e w' ⟨rfl, rfl⟩
          go_wp2
          exact bodyPost_ret (v := .tuple #[.int .i64 0, .int .i64 c]) (by simp [results, Try.results25, go_sem]) rfl ⟨rfl, HB0.out⟩
        · rw [show inB n f t = false by rw [Bool.eq_false_iff]; exact fun g => h2 (inB_iff.1 g).2.2] at HA1
          go_enter Try.func25, Try.ntmps25
          go_wp2_with fail
          refine HA1.out.mono ?_
          rintro e w' ⟨rfl, rfl⟩
          go_wp2
          exact bodyPost_ret (v := .tuple #[.int .i64 0, .int .i64 c]) (by simp [results, Try.results25, go_sem]) rfl ⟨rfl, HB0.out⟩
      · rw [show inB n f t = false by rw [Bool.eq_false_iff]; exact fun g => h1 (inB_iff.1 g).2.1] at HA1
        go_enter Try.func25, Try.ntmps25
        go_wp2_with fail
        refine HA1.out.mono ?_
        rintro e w' ⟨rfl, rfl⟩
        go_wp2
        exact bodyPost_ret (v := .tuple #[.int .i64 0, .int .i64 c]) (by simp [results, Try.results25, go_sem]) rfl ⟨rfl, HB0.out⟩
    · rw [show inB n f t = false by rw [Bool.eq_false_iff]; exact fun g => h0 (inB_iff.1 g).1] at HA1
      go_enter Try.func25, Try.ntmps25
      go_wp2_with fail
      refine HA1.out.mono ?_
      rintro e w' ⟨rfl, rfl⟩
      go_wp2
      exact bodyPost_ret (v := .tuple #[.int .i64 0, .int .i64 c]) (by simp [results, Try.results25, go_sem]) rfl ⟨rfl, HB0.out⟩

end Go.Proofs.Ytfokbkkgokioeaa.Occ

namespace Go.Proofs.Ytfokbkkgokioeaa.Fl
open Go Ieee

/-- The word x of the double format stands for the integer n. -/
def IsInt (x : Nat) (n : Int) : Prop := ∃ s m k, double.read x = .number s m (-(k : Nat)) ∧ (if s then -(m : Int) else (m : Int)) = n * 2 ^ k

theorem signed_shift (s : Bool) (m k : Nat) : signed s m k = (if s then -(m : Int) else (m : Int)) * 2 ^ k := by
  unfold signed
  cases s <;> simp [Nat.shiftLeft_eq, Int.neg_mul]

theorem read_word (s : Bool) (r : Nat) (h : r < 2 ^ 63) : double.word s r < 2^64 ∧ (double.word s r / double.signWeight % 2 == 1) = s ∧ double.word s r % double.signWeight = r := by
  have e : double.signWeight = 2 ^ 63 := rfl
  unfold Format.word
  rw [e]
  cases s <;> simp <;> omega

/-- A zero is written and read back. -/
theorem read_zero (s : Bool) : double.read (double.word s 0) = .number s 0 (-(1074 : Nat)) := by
  cases s <;> rfl

theorem log2_shift (n k : Nat) (h : n ≠ 0) : (n <<< k).log2 = n.log2 + k := by
  have h1 : n <<< k ≠ 0 := by rw [Nat.shiftLeft_eq]; exact Nat.mul_ne_zero h (Nat.pos_iff_ne_zero.1 (Nat.two_pow_pos k))
  rw [Nat.log2_eq_iff h1, Nat.shiftLeft_eq]
  have a := Nat.log2_self_le h
  have b := Nat.lt_log2_self (n := n)
  constructor
  · rw [Nat.pow_add]; exact Nat.mul_le_mul_right _ a
  · rw [show n.log2 + k + 1 = (n.log2 + 1) + k by omega, Nat.pow_add]; exact Nat.mul_lt_mul_of_pos_right b (Nat.two_pow_pos k)

theorem cut_exact (s : Bool) (n d : Nat) (h : d ≤ (n <<< d).log2 + 2) : Toward.even.cut s (n <<< d) d = n := by
  unfold Toward.cut
  have e : min d ((n <<< d).log2 + 2) = d := Nat.min_eq_left h
  rw [e]
  simp only [Nat.shiftLeft_eq, Nat.one_mul]
  have p := Nat.two_pow_pos d
  rw [Nat.mul_div_cancel _ p, Nat.mul_mod_left]
  generalize 2 ^ d = q at *
  have c1 : decide (q < 2 * 0) = false := by simp
  have c2 : (q == 2 * 0) = false := by simp; omega
  simp only [c1, c2]
  rfl

theorem nearest_exact (s : Bool) (N k : Nat) (h0 : N ≠ 0) (h1 : N < 2 ^ 53) :
    double.nearest s (N <<< k) (-(k : Nat)) = double.word s ((N.log2 + 1022) * 2 ^ 52 + N <<< (52 - N.log2)) := by
  have hlog : N.log2 < 53 := (Nat.log2_lt h0).2 h1
  have hs : N <<< k ≠ 0 := by rw [Nat.shiftLeft_eq]; exact Nat.mul_ne_zero h0 (Nat.pos_iff_ne_zero.1 (Nat.two_pow_pos k))
  have el := log2_shift N k h0
  unfold Format.nearest
  rw [if_neg hs]
  have elp : double.leastPlace = -1074 := rfl
  have efb : double.fractionBits = 52 := rfl
  have ebi : double.binade = 2 ^ 52 := rfl
  have eir : double.infRung = 2047 * 2 ^ 52 := rfl
  simp only [el, elp, efb, ebi, eir]
  have e1 : max (-(k : Int) + ((N.log2 + k : Nat) : Int) - ((52 : Nat) : Int)) (-1074) = (N.log2 : Int) - 52 := by omega
  rw [e1]
  have hkept : Toward.even.cut s (N <<< k <<< (-(k : Int) - ((N.log2 : Int) - 52)).toNat) ((N.log2 : Int) - 52 - -(k : Int)).toNat = N <<< (52 - N.log2) := by
    by_cases c : k ≤ 52 - N.log2
    · have a1 : (-(k : Int) - ((N.log2 : Int) - 52)).toNat = 52 - N.log2 - k := by omega
      have a2 : ((N.log2 : Int) - 52 - -(k : Int)).toNat = 0 := by omega
      rw [a1, a2]
      have := cut_exact s (N <<< (52 - N.log2)) 0 (by omega)
      rw [Nat.shiftLeft_zero] at this
      rw [← Nat.shiftLeft_add, show k + (52 - N.log2 - k) = 52 - N.log2 by omega]
      exact this
    · have a1 : (-(k : Int) - ((N.log2 : Int) - 52)).toNat = 0 := by omega
      have a2 : ((N.log2 : Int) - 52 - -(k : Int)).toNat = k - (52 - N.log2) := by omega
      rw [a1, a2, Nat.shiftLeft_zero]
      have := cut_exact s (N <<< (52 - N.log2)) (k - (52 - N.log2)) (by
        rw [← Nat.shiftLeft_add, show 52 - N.log2 + (k - (52 - N.log2)) = k by omega, el]; omega)
      rw [← Nat.shiftLeft_add, show 52 - N.log2 + (k - (52 - N.log2)) = k by omega] at this
      exact this
  rw [hkept]
  have e2 : ((N.log2 : Int) - 52 - -1074).toNat = N.log2 + 1022 := by omega
  rw [e2]
  have hk2 : N <<< (52 - N.log2) < 2 ^ 53 := by
    rw [Nat.shiftLeft_eq]
    have b := Nat.lt_log2_self (n := N)
    have : N * 2 ^ (52 - N.log2) < 2 ^ (N.log2 + 1) * 2 ^ (52 - N.log2) := Nat.mul_lt_mul_of_pos_right b (Nat.two_pow_pos _)
    rw [← Nat.pow_add, show N.log2 + 1 + (52 - N.log2) = 53 by omega] at this
    exact this
  rw [Nat.min_eq_left]
  omega

theorem read_exact (s : Bool) (N k : Nat) (h0 : N ≠ 0) (h1 : N < 2 ^ 53) :
    double.read (double.nearest s (N <<< k) (-(k : Nat))) = .number s (N <<< (52 - N.log2)) (-((52 - N.log2 : Nat) : Nat)) := by
  rw [nearest_exact s N k h0 h1]
  have hlog : N.log2 < 53 := (Nat.log2_lt h0).2 h1
  have hk2 : N <<< (52 - N.log2) < 2 ^ 53 := by
    rw [Nat.shiftLeft_eq]
    have b := Nat.lt_log2_self (n := N)
    have : N * 2 ^ (52 - N.log2) < 2 ^ (N.log2 + 1) * 2 ^ (52 - N.log2) := Nat.mul_lt_mul_of_pos_right b (Nat.two_pow_pos _)
    rw [← Nat.pow_add, show N.log2 + 1 + (52 - N.log2) = 53 by omega] at this
    exact this
  have hk1 : 2 ^ 52 ≤ N <<< (52 - N.log2) := by
    rw [Nat.shiftLeft_eq]
    have b := Nat.log2_self_le h0
    have : 2 ^ N.log2 * 2 ^ (52 - N.log2) ≤ N * 2 ^ (52 - N.log2) := Nat.mul_le_mul_right _ b
    rw [← Nat.pow_add, show N.log2 + (52 - N.log2) = 52 by omega] at this
    exact this
  generalize N <<< (52 - N.log2) = kept at *
  obtain ⟨_, e1, e2⟩ := read_word s ((N.log2 + 1022) * 2 ^ 52 + kept) (by omega)
  unfold Format.read
  have elp : double.leastPlace = -1074 := rfl
  have ebi : double.binade = 2 ^ 52 := rfl
  have eir : double.infRung = 2047 * 2 ^ 52 := rfl
  simp only [e1, e2, elp, ebi, eir]
  rw [if_neg (by omega), if_pos (by omega)]
  congr 1
  · omega
  · omega

/-- What is written of an integer that is small enough is that integer. -/
theorem isInt_write (s : Bool) (N k : Nat) (h1 : N < 2 ^ 53) (n : Int) (hn : (if s then -(N : Int) else (N : Int)) = n) : IsInt (double.write (.number s (N <<< k) (-(k : Nat)))) n := by
  show IsInt (double.nearest s (N <<< k) (-(k : Nat))) n
  by_cases h0 : N = 0
  · subst h0
    have : double.nearest s (0 <<< k) (-(k : Nat)) = double.word s 0 := by
      unfold Format.nearest; simp
    rw [this]
    refine ⟨s, 0, 1074, read_zero s, ?_⟩
    subst hn
    have e : (if s then -((0 : Nat) : Int) else ((0 : Nat) : Int)) = 0 := by cases s <;> rfl
    rw [e, Int.zero_mul]
  · refine ⟨s, _, _, read_exact s N k h0 h1, ?_⟩
    subst hn
    rw [Nat.shiftLeft_eq]
    cases s <;> simp [Int.neg_mul]

theorem isInt_ofInt (n : Int) (h : n.natAbs < 2 ^ 53) : IsInt (floatOfInt .f64 n) n := by
  have := isInt_write (decide (n < 0)) n.natAbs 0 h n (by
    by_cases c : n < 0
    · simp [c]; omega
    · simp [c]; omega)
  rw [Nat.shiftLeft_zero] at this
  exact this

theorem isInt_neg {x : Nat} {n : Int} (h : IsInt x n) : IsInt (Op.negFloat .f64 x) (-n) := by
  obtain ⟨s, m, k, hr, hv⟩ := h
  refine ⟨!s, m, k, ?_, ?_⟩
  · have e : Op.negFloat .f64 x = x ^^^ 2 ^ 63 := rfl
    rw [e]
    unfold Format.read at hr ⊢
    have esw : double.signWeight = 2 ^ 63 := rfl
    rw [esw] at hr ⊢
    have e1 : (x ^^^ 2 ^ 63) % 2 ^ 63 = x % 2 ^ 63 := by
      rw [Nat.xor_mod_two_pow]; simp
    have e2 : ((x ^^^ 2 ^ 63) / 2 ^ 63 % 2 == 1) = !(x / 2 ^ 63 % 2 == 1) := by
      rw [Nat.xor_div_two_pow, Nat.div_self (Nat.two_pow_pos 63)]
      rw [show 2 = 2 ^ 1 from rfl, Nat.xor_mod_two_pow]
      have : x / (2 ^ 1) ^ 63 % 2 ^ 1 < 2 := Nat.mod_lt _ (by decide)
      generalize x / (2 ^ 1) ^ 63 % 2 ^ 1 = y at *
      have : y = 0 ∨ y = 1 := by omega
      rcases this with rfl | rfl <;> rfl
    simp only [e1, e2]
    generalize (x / 2 ^ 63 % 2 == 1) = t at *
    dsimp only at hr
    split at hr
    · rename_i c; rw [if_pos c]; simp only [Datum.number.injEq] at hr ⊢; obtain ⟨rfl, rfl, h3⟩ := hr; exact ⟨rfl, rfl, h3⟩
    · rename_i c
      rw [if_neg c]
      split at hr
      · rename_i c; rw [if_pos c]; simp only [Datum.number.injEq] at hr ⊢; obtain ⟨rfl, rfl, h3⟩ := hr; exact ⟨rfl, rfl, h3⟩
      · split at hr
        · exact absurd hr (by simp)
        · exact absurd hr (by simp)
  · cases s <;> simp at hv ⊢ <;> rw [Int.neg_mul, ← hv] <;> simp

theorem isInt_mul {x y : Nat} {a b : Int} (hx : IsInt x a) (hy : IsInt y b) (h : (a * b).natAbs < 2 ^ 53) : ∃ r, floatBits .mul .f64 x y = some r ∧ IsInt r (a * b) := by
  obtain ⟨s, m, k, hr, hv⟩ := hx
  obtain ⟨t, n, l, hr', hv'⟩ := hy
  have e : floatBits .mul .f64 x y = some (double.write (.number (s ^^ t) (m * n) (-(k : Int) + -(l : Int)))) := by
    show double.mul x y = _
    unfold Format.mul
    rw [hr, hr']
    rfl
  refine ⟨_, e, ?_⟩
  have em : m = a.natAbs * 2 ^ k := by
    have := congrArg Int.natAbs hv
    rw [Int.natAbs_mul, Int.natAbs_pow] at this
    cases s <;> simpa using this
  have en : n = b.natAbs * 2 ^ l := by
    have := congrArg Int.natAbs hv'
    rw [Int.natAbs_mul, Int.natAbs_pow] at this
    cases t <;> simpa using this
  have e2 : m * n = (a * b).natAbs <<< (k + l) := by
    rw [Nat.shiftLeft_eq, Int.natAbs_mul, Nat.pow_add, em, en]
    simp only [Nat.mul_left_comm, Nat.mul_assoc]
  have e3 : -(k : Int) + -(l : Int) = -((k + l : Nat) : Int) := by omega
  rw [e2, e3]
  by_cases hz : a * b = 0
  · rw [hz]
    exact isInt_write _ 0 _ (by decide) 0 (by cases (s ^^ t) <;> simp)
  · refine isInt_write _ _ _ h _ ?_
    have ha : a ≠ 0 := fun c => hz (by simp [c])
    have hb : b ≠ 0 := fun c => hz (by simp [c])
    have p1 : (0 : Int) < 2 ^ k := by exact_mod_cast Nat.two_pow_pos k
    have p2 : (0 : Int) < 2 ^ l := by exact_mod_cast Nat.two_pow_pos l
    have sa : s = true ↔ a < 0 := by
      constructor
      · intro c; subst c
        simp at hv
        rcases Int.lt_or_lt_of_ne ha with q | q
        · exact q
        · exfalso; have := Int.mul_pos q p1; omega
      · intro c
        cases s with
        | true => rfl
        | false => exfalso; simp at hv; have := Int.mul_neg_of_neg_of_pos c p1; omega
    have sb : t = true ↔ b < 0 := by
      constructor
      · intro c; subst c
        simp at hv'
        rcases Int.lt_or_lt_of_ne hb with q | q
        · exact q
        · exfalso; have := Int.mul_pos q p2; omega
      · intro c
        cases t with
        | true => rfl
        | false => exfalso; simp at hv'; have := Int.mul_neg_of_neg_of_pos c p2; omega
    by_cases ca : a < 0 <;> by_cases cb : b < 0
    · have := Int.mul_pos_of_neg_of_neg ca cb
      simp [sa.2 ca, sb.2 cb]; omega
    · have := Int.mul_neg_of_neg_of_pos ca (show 0 < b by omega)
      have tf : t = false := by cases t with | false => rfl | true => exact absurd (sb.1 rfl) cb
      simp [sa.2 ca, tf]; omega
    · have := Int.mul_neg_of_pos_of_neg (show 0 < a by omega) cb
      have sf : s = false := by cases s with | false => rfl | true => exact absurd (sa.1 rfl) ca
      simp [sb.2 cb, sf]; omega
    · have := Int.mul_pos (show 0 < a by omega) (show 0 < b by omega)
      have tf : t = false := by cases t with | false => rfl | true => exact absurd (sb.1 rfl) cb
      have sf : s = false := by cases s with | false => rfl | true => exact absurd (sa.1 rfl) ca
      simp [tf, sf]; omega

theorem signed_read {s : Bool} {m k : Nat} {n : Int} (h : (if s then -(m : Int) else (m : Int)) = n * 2 ^ k) (u : Nat) : signed s m u = n * 2 ^ (k + u) := by
  rw [signed_shift, h, Int.pow_add, Int.mul_assoc]

/-- The sum of two words that stand for integers. -/
theorem isInt_add {x y : Nat} {a b : Int} (hx : IsInt x a) (hy : IsInt y b) (h : (a + b).natAbs < 2 ^ 53) : ∃ r, floatBits .add .f64 x y = some r ∧ IsInt r (a + b) := by
  obtain ⟨s, m, k, hr, hv⟩ := hx
  obtain ⟨t, n, l, hr', hv'⟩ := hy
  have e : double.add x y = some (double.write (.number (if signed s m ((-(k : Int)) - min (-(k : Int)) (-(l : Int))).toNat + signed t n ((-(l : Int)) - min (-(k : Int)) (-(l : Int))).toNat = 0 then s && t else signed s m ((-(k : Int)) - min (-(k : Int)) (-(l : Int))).toNat + signed t n ((-(l : Int)) - min (-(k : Int)) (-(l : Int))).toNat < 0) (signed s m ((-(k : Int)) - min (-(k : Int)) (-(l : Int))).toNat + signed t n ((-(l : Int)) - min (-(k : Int)) (-(l : Int))).toNat).natAbs (min (-(k : Int)) (-(l : Int))))) := by
    unfold Format.add
    rw [hr, hr']
    simp only [Datum.sum, Option.map_some]
  refine ⟨_, e, ?_⟩
  have e1 : min (-(k : Int)) (-(l : Int)) = -((max k l : Nat) : Int) := by omega
  rw [signed_read hv, signed_read hv', e1]
  have f1 : k + ((-(k : Int)) - -((max k l : Nat) : Int)).toNat = max k l := by omega
  have f2 : l + ((-(l : Int)) - -((max k l : Nat) : Int)).toNat = max k l := by omega
  rw [f1, f2, ← Int.add_mul]
  have p1 : (0 : Int) < 2 ^ (max k l) := by exact_mod_cast Nat.two_pow_pos _
  have e3 : ((a + b) * 2 ^ (max k l)).natAbs = (a + b).natAbs <<< (max k l) := by
    rw [Nat.shiftLeft_eq, Int.natAbs_mul, Int.natAbs_pow]; rfl
  rw [e3]
  refine isInt_write _ _ _ h _ ?_
  by_cases hz : a + b = 0
  · simp [hz]
  · have hne : (a + b) * 2 ^ (max k l) ≠ 0 := Int.mul_ne_zero hz (by omega)
    rw [if_neg hne]
    by_cases c : a + b < 0
    · have := Int.mul_neg_of_neg_of_pos c p1
      simp [this]; omega
    · have := Int.mul_pos (show 0 < a + b by omega) p1
      have c2 : ¬ (a + b) * 2 ^ (max k l) < 0 := by omega
      simp [c2]; omega

/-- The difference. -/
theorem isInt_sub {x y : Nat} {a b : Int} (hx : IsInt x a) (hy : IsInt y b) (h : (a - b).natAbs < 2 ^ 53) : ∃ r, floatBits .sub .f64 x y = some r ∧ IsInt r (a - b) := by
  obtain ⟨t, n, l, hr', hv'⟩ := hy
  obtain ⟨s, m, k, hr, hv⟩ := hx
  have e : double.sub x y = some (double.write (.number (if signed s m ((-(k : Int)) - min (-(k : Int)) (-(l : Int))).toNat + signed (!t) n ((-(l : Int)) - min (-(k : Int)) (-(l : Int))).toNat = 0 then s && !t else signed s m ((-(k : Int)) - min (-(k : Int)) (-(l : Int))).toNat + signed (!t) n ((-(l : Int)) - min (-(k : Int)) (-(l : Int))).toNat < 0) (signed s m ((-(k : Int)) - min (-(k : Int)) (-(l : Int))).toNat + signed (!t) n ((-(l : Int)) - min (-(k : Int)) (-(l : Int))).toNat).natAbs (min (-(k : Int)) (-(l : Int))))) := by
    unfold Format.sub
    rw [hr, hr']
    simp only [Datum.opposite, Datum.sum, Option.map_some]
  refine ⟨_, e, ?_⟩
  have hv2 : (if (!t) = true then -(n : Int) else (n : Int)) = (-b) * 2 ^ l := by
    cases t <;> simp at hv' ⊢ <;> rw [Int.neg_mul, ← hv'] <;> simp
  have e1 : min (-(k : Int)) (-(l : Int)) = -((max k l : Nat) : Int) := by omega
  rw [signed_read hv, signed_read hv2, e1]
  have f1 : k + ((-(k : Int)) - -((max k l : Nat) : Int)).toNat = max k l := by omega
  have f2 : l + ((-(l : Int)) - -((max k l : Nat) : Int)).toNat = max k l := by omega
  rw [f1, f2, ← Int.add_mul, show a + -b = a - b by omega]
  have p1 : (0 : Int) < 2 ^ (max k l) := by exact_mod_cast Nat.two_pow_pos _
  have e3 : ((a - b) * 2 ^ (max k l)).natAbs = (a - b).natAbs <<< (max k l) := by
    rw [Nat.shiftLeft_eq, Int.natAbs_mul, Int.natAbs_pow]; rfl
  rw [e3]
  refine isInt_write _ _ _ h _ ?_
  by_cases hz : a - b = 0
  · simp [hz]
  · have hne : (a - b) * 2 ^ (max k l) ≠ 0 := Int.mul_ne_zero hz (by omega)
    rw [if_neg hne]
    by_cases c : a - b < 0
    · have := Int.mul_neg_of_neg_of_pos c p1
      simp [this]; omega
    · have := Int.mul_pos (show 0 < a - b by omega) p1
      have c2 : ¬ (a - b) * 2 ^ (max k l) < 0 := by omega
      simp [c2]; omega

/-- How such a word stands to the word 0. -/
theorem order_zero {x : Nat} {n : Int} (h : IsInt x n) : double.order x 0 = some (compare n 0) := by
  obtain ⟨s, m, k, hr, hv⟩ := h
  have e0 : double.read 0 = .number false 0 (-(1074 : Nat)) := rfl
  unfold Format.order
  rw [hr, e0]
  simp only [Datum.order]
  rw [signed_read hv, signed_read (s := false) (m := 0) (k := 1074) (n := 0) (by rw [Int.zero_mul]; rfl)]
  rw [Int.zero_mul]
  congr 1
  generalize (k + (-(k : Int) - min (-(k : Int)) (-((1074 : Nat) : Int))).toNat) = u
  have p1 : (0 : Int) < 2 ^ u := by exact_mod_cast Nat.two_pow_pos _
  rcases Int.lt_trichotomy n 0 with c | c | c
  · have := Int.mul_neg_of_neg_of_pos c p1
    rw [Int.compare_eq_lt.2 this, Int.compare_eq_lt.2 c]
  · subst c; simp
  · have := Int.mul_pos c p1
    rw [Int.compare_eq_gt.2 this, Int.compare_eq_gt.2 c]
end Go.Proofs.Ytfokbkkgokioeaa.Fl

namespace Go.Proofs.Ytfokbkkgokioeaa.Frac

/-- A number is small. -/
def smallB (n : Int) : Bool := decide (-67108864 < n) && decide (n < 67108864)

theorem smallB_no {n : Int} (h : ¬ (-67108864 < n ∧ n < 67108864)) : smallB n = false := by
  unfold smallB
  by_cases c : -67108864 < n
  · have : ¬ n < 67108864 := fun d => h ⟨c, d⟩
    simp [this]
  · simp [c]
theorem smallB_yes {n : Int} (h : -67108864 < n ∧ n < 67108864) : smallB n = true := by unfold smallB; simp [h.1, h.2]
theorem smallB_iff {n : Int} : smallB n = true ↔ -67108864 < n ∧ n < 67108864 := by
  constructor
  · intro h; unfold smallB at h; simpa using h
  · exact smallB_yes

def sgn (n : Int) : Int := if n < 0 then -1 else if 0 < n then 1 else 0

def crossV (a b c d : Int) : Int × Int := if (smallB a && smallB b && smallB c && smallB d) = true then (sgn (a * d - b * c), 0) else (0, 10)

def fits (n : Int) : Bool := decide (-9223372036854775808 ≤ n) && decide (n ≤ 9223372036854775807)

theorem fits_yes {n : Int} (h : -9223372036854775808 ≤ n ∧ n ≤ 9223372036854775807) : fits n = true := by unfold fits; simp [h.1, h.2]
theorem fits_no {n : Int} (h : ¬ (-9223372036854775808 ≤ n ∧ n ≤ 9223372036854775807)) : fits n = false := by
  unfold fits
  by_cases c : -9223372036854775808 ≤ n
  · have : ¬ n ≤ 9223372036854775807 := fun d => h ⟨c, d⟩
    simp; omega
  · simp [c]
def addV (a b : Int) : Int × Int := if fits (a + b) = true then (a + b, 0) else (0, 10)

def mulV (a b : Int) : Int × Int := if fits (a * b) = true then (a * b, 0) else (0, 10)

def clog (n : Nat) : Nat := if n ≤ 1 then 0 else (n - 1).log2 + 1

def upV (n : Int) : Int × Int := if n < 1 then (0, 2) else ((clog n.toNat : Nat), 0)

def downV (n : Int) : Int × Int := if n < 1 then (0, 2) else ((n.toNat.log2 : Nat), 0)

def powB (n : Int) : Bool := decide (0 < n) && decide (((2 ^ n.toNat.log2 : Nat) : Int) = n)

def betweenV (low high at_ steps : Int) : Int × Int :=
  if (decide (steps < 1) || decide (at_ < 0) || decide (steps < at_)) = true then (0, 2)
  else if (smallB low && smallB high && smallB at_ && smallB steps) = true then (low * (steps - at_) + high * at_, 0)
  else (0, 10)

end Go.Proofs.Ytfokbkkgokioeaa.Frac

namespace Go.Proofs.Ytfokbkkgokioeaa.Frac
open Go.RowKit

theorem log2_step {n : Nat} (h : 2 ≤ n) : n.log2 = (n / 2).log2 + 1 := by
  rw [Nat.log2_def n, if_pos h]
theorem log2_small {n : Nat} (h : n < 2) : n.log2 = 0 := by
  rw [Nat.log2_def n, if_neg (by omega)]

theorem bitLenAux_log (f x : Nat) (h : x < 2 ^ f) : Lib.bitLenAux f x = if x = 0 then 0 else x.log2 + 1 := by
  induction f generalizing x with
  | zero => have : x = 0 := by simpa using h
            subst this; rfl
  | succ f ih =>
    unfold Lib.bitLenAux
    by_cases hx : x = 0
    · rw [if_pos hx, if_pos hx]
    · rw [if_neg hx, if_neg hx, ih (x / 2) (by rw [Nat.pow_succ] at h; omega)]
      by_cases h2 : x < 2
      · rw [if_pos (by omega), log2_small h2]
      · rw [if_neg (by omega), log2_step (n := x) (by omega)]; omega

theorem bitLen_log (x : Nat) (h : x < 18446744073709551616) : Lib.bitLen x = if x = 0 then 0 else x.log2 + 1 := bitLenAux_log 64 x h

theorem bitLen_clog (n : Int) (h : 1 ≤ n) (h2 : n ≤ 9223372036854775807) : ((Lib.bitLen (n.toNat - 1) : Nat) : Int) = ((clog n.toNat : Nat) : Int) := by
  rw [bitLen_log _ (by omega)]
  unfold clog
  by_cases c : n = 1
  · subst c; rfl
  · rw [if_neg (by omega), if_neg (by omega)]

theorem log2_lt63 (n : Int) (h2 : n ≤ 9223372036854775807) : n.toNat.log2 < 63 := by
  by_cases h : n.toNat = 0
  · rw [h]; decide
  · exact (Nat.log2_lt h).2 (by omega)

theorem pow_lt63 {k : Nat} (h : k < 63) : 2 ^ k ≤ 4611686018427387904 := Nat.le_trans (Nat.pow_le_pow_right (by decide) (show k ≤ 62 by omega)) (by decide)

theorem powB_and (a : Int) (h0 : 0 < a) (h1 : a ≤ 9223372036854775807) : (bits .and .i64 a (a - 1) == 0) = powB a := by
  obtain ⟨n, rfl⟩ := Int.eq_ofNat_of_zero_le (Int.le_of_lt h0)
  have e := (bits_nat .i64 63 (by decide) (fun m m0 m1 => by rw [IntKind.wrap_i64]; omega) n (n - 1) (by omega) (by omega)).1
  have ec : ((n : Nat) : Int) - 1 = ((n - 1 : Nat) : Int) := by omega
  rw [ec, e]
  have hne : n ≠ 0 := by omega
  have key := Nat.and_sub_one_eq_zero_iff_isPowerOfTwo hne
  unfold powB
  rw [Int.toNat_natCast]
  have hd : decide (0 < (n : Int)) = true := by simpa using h0
  rw [hd, Bool.true_and]
  rw [Bool.eq_iff_iff]
  simp only [beq_iff_eq, decide_eq_true_eq]
  constructor
  · intro h
    have h' : n &&& n - 1 = 0 := by omega
    obtain ⟨k, hk⟩ := key.1 h'
    rw [hk, Nat.log2_two_pow]
  · intro h
    have h' : n = 2 ^ n.log2 := by omega
    have := key.2 ⟨n.log2, h'⟩
    omega

/-- A product that wrapped is told by dividing it again. -/
theorem wrap_mul_quo (a b : Int) (hb0 : b ≠ 0) (ba : -9223372036854775808 ≤ a ∧ a ≤ 9223372036854775807) (bb : -9223372036854775808 ≤ b ∧ b ≤ 9223372036854775807) (hf : ¬ (-9223372036854775808 ≤ a * b ∧ a * b ≤ 9223372036854775807)) (hx : ¬ (b = -1)) : (wrap64 ((wrap64 (a * b)).tdiv b) != a) = true := by
  rw [bne_iff_ne]
  intro he
  have hp : -9223372036854775808 ≤ wrap64 (a * b) ∧ wrap64 (a * b) ≤ 9223372036854775807 := by unfold wrap64; omega
  have hm : ∃ m : Int, wrap64 (a * b) = a * b - m * 18446744073709551616 := ⟨(a * b + 9223372036854775808) / 18446744073709551616, by unfold wrap64; omega⟩
  obtain ⟨m, hm⟩ := hm
  have hm0 : m ≠ 0 := fun c => by subst c; simp at hm; omega
  generalize wrap64 (a * b) = p at *
  -- the quotient fits, so it is not wrapped
  have hq : (p.tdiv b).natAbs ≤ p.natAbs / b.natAbs := by rw [Int.natAbs_tdiv]; exact Nat.le_refl _
  have hb1 : 1 ≤ b.natAbs := by omega
  have hfit : -9223372036854775808 ≤ p.tdiv b ∧ p.tdiv b ≤ 9223372036854775807 := by
    by_cases c : b.natAbs = 1
    · have : b = 1 := by omega
      subst this; simp; omega
    · have h2 : p.natAbs / b.natAbs ≤ p.natAbs / 2 := Nat.div_le_div_left (by omega) (by omega)
      omega
  have hw : wrap64 (p.tdiv b) = p.tdiv b := IntWalk.wrap64_in _ hfit
  rw [hw] at he
  have hd := Int.mul_tdiv_add_tmod p b
  have hr : (p.tmod b).natAbs < b.natAbs := by rw [Int.natAbs_tmod]; exact Nat.mod_lt _ (by omega)
  rw [he] at hd
  generalize p.tmod b = r at *
  rw [Int.mul_comm b a] at hd
  generalize a * b = ab at *
  omega

theorem logs_facts (n : Nat) (h : 1 ≤ n) : 2 ^ n.log2 ≤ n ∧ n / 2 < 2 ^ n.log2 ∧ ((n = 2 ^ n.log2 ∧ clog n = n.log2) ∨ (n ≠ 2 ^ n.log2 ∧ clog n = n.log2 + 1)) := by
  have a := Nat.log2_self_le (n := n) (by omega)
  have b := Nat.lt_log2_self (n := n)
  rw [Nat.pow_succ] at b
  refine ⟨a, by omega, ?_⟩
  by_cases c : n = 2 ^ n.log2
  · refine .inl ⟨c, ?_⟩
    unfold clog
    by_cases e : n ≤ 1
    · obtain rfl : n = 1 := by omega
      rfl
    · rw [if_neg e]
      have hd : 1 ≤ n.log2 := by
        rw [log2_step (n := n) (by omega)]; omega
      obtain ⟨k, hk⟩ : ∃ k, n.log2 = k + 1 := ⟨n.log2 - 1, by omega⟩
      rw [hk] at c ⊢
      have hp := Nat.two_pow_pos k
      rw [Nat.pow_succ] at c
      have : (n - 1).log2 = k := by
        rw [Nat.log2_eq_iff (by omega), Nat.pow_succ]
        omega
      rw [this]
  · refine .inr ⟨c, ?_⟩
    unfold clog
    have hp := Nat.two_pow_pos n.log2
    rw [if_neg (by omega)]
    have : (n - 1).log2 = n.log2 := by
      rw [Nat.log2_eq_iff (by omega), Nat.pow_succ]
      omega
    rw [this]

end Go.Proofs.Ytfokbkkgokioeaa.Frac
