/- Lists of the bits of words: plain. Contracts of the document's answer: Places. Contracts of the document's answer: Count, Nth, Next, Last. Contracts of package occ: the words of a part, without the bits of others. Contracts of package occ: the iterator of a part's words. Contracts of package occ: Count. -/
import Derived.Test.YtfdkaahkhgljdaaMab
import Derived.Lib.TrailingZeros
import Derived.Stop.RegionWithIn
set_option linter.unusedSimpArgs false
set_option linter.unusedVariables false
namespace Go.Proofs.Ytfdkaahkhgljdaa.Occ
open Go.RowKit Go.Proofs.Ytfdkaahkhgljdaa

/-- The slots that are occupied, from f on, k of them looked at. -/
def occs (ws : List Int) (f k : Nat) : List Nat := (List.range' f k).filter (occB ws)
theorem occs_succ (ws : List Int) (f k : Nat) : occs ws f (k + 1) = occs ws f k ++ if occB ws (f + k) = true then [f + k] else [] := by
  unfold occs
  rw [List.range'_concat, List.filter_append, Nat.one_mul]
  congr 1
  by_cases h : occB ws (f + k) = true
  · simp [h]
  · simp [h]
theorem occs_length (ws : List Int) (f k : Nat) : (occs ws f k).length ≤ k := by
  have := List.length_filter_le (occB ws) (List.range' f k)
  rw [List.length_range'] at this
  exact this
theorem occs_add (ws : List Int) (f a b : Nat) : occs ws f (a + b) = occs ws f a ++ occs ws (f + a) b := by
  unfold occs; rw [← List.range'_append_1, List.filter_append]
theorem occs_mem {ws : List Int} {f k s : Nat} : s ∈ occs ws f k ↔ f ≤ s ∧ s < f + k ∧ occB ws s = true := by
  unfold occs; rw [List.mem_filter, List.mem_range'_1, and_assoc]

/-- The slots of a word's bits. -/
def bl (x f : Nat) : List Nat := ((List.range 64).filter (fun i => x.testBit i)).map (fun i => f + i)
theorem pop_count (n x : Nat) : Lib.popAux n x = ((List.range n).filter (fun i => x.testBit i)).length := by
  induction n generalizing x with
  | zero => rfl
  | succ n ih =>
    rw [List.range_succ_eq_map, List.filter_cons, List.filter_map]
    have e : (fun i => x.testBit i) ∘ Nat.succ = fun i => (x / 2).testBit i := by funext i; simp [Nat.testBit_succ]
    rw [e]
    show x % 2 + Lib.popAux n (x / 2) = _
    rw [ih (x / 2)]
    rw [Nat.testBit_zero]
    by_cases h : x % 2 = 1
    · simp [h]; omega
    · simp [h]; omega
theorem bl_length (x f : Nat) : (bl x f).length = Lib.popAux 64 x := by unfold bl; rw [List.length_map, pop_count]
theorem bl_zero (f : Nat) : bl 0 f = [] := by unfold bl; simp

def cutN (x l h : Nat) : Nat := (x / 2 ^ l * 2 ^ l) * 2 ^ h % 18446744073709551616 / 2 ^ h
theorem cutN_bit (x l h i : Nat) : (cutN x l h).testBit i = (decide (l ≤ i) && decide (i + h < 64) && x.testBit i) := by
  unfold cutN
  rw [show 18446744073709551616 = 2 ^ 64 by decide, Nat.testBit_div_two_pow, Nat.testBit_mod_two_pow, Nat.testBit_mul_two_pow, Nat.testBit_mul_two_pow, Nat.testBit_div_two_pow]
  by_cases h1 : l ≤ i
  · rw [show i + h - h = i by omega, show i - l + l = i by omega]
    by_cases h2 : i + h < 64 <;> simp [h1, h2]
  · rw [show i + h - h = i by omega]
    simp [h1]
theorem cutN_lt (x l h : Nat) (hx : x < 18446744073709551616) : cutN x l h < 18446744073709551616 :=
  Nat.lt_of_le_of_lt (Nat.div_le_self _ _) (Nat.mod_lt _ (by decide))

theorem filter_head (p q : Nat → Bool) (c n : Nat) (hc : c < n) (h1 : ∀ i, i < c → p i = false) (h2 : p c = true) (h3 : ∀ i, q i = (p i && decide (i ≠ c))) : (List.range n).filter p = c :: (List.range n).filter q := by
  obtain ⟨d, rfl⟩ : ∃ d, n = c + (d + 1) := ⟨n - c - 1, by omega⟩
  rw [List.range_eq_range', ← List.range'_append_1, List.filter_append, List.filter_append, Nat.zero_add, List.range'_succ]
  have e1 : (List.range' 0 c).filter p = [] := by
    rw [List.filter_eq_nil_iff]; intro i hi; have := List.mem_range'_1.1 hi; rw [h1 i (by omega)]; simp
  have e2 : (List.range' 0 c).filter q = [] := by
    rw [List.filter_eq_nil_iff]; intro i hi; have := List.mem_range'_1.1 hi; rw [h3, h1 i (by omega)]; simp
  rw [e1, e2, List.filter_cons_of_pos h2, List.filter_cons_of_neg (by rw [h3]; simp)]
  simp only [List.nil_append]
  congr 1
  apply List.filter_congr
  intro i hi
  have := List.mem_range'_1.1 hi
  rw [h3, decide_eq_true (by omega), Bool.and_true]
theorem filter_last (p : Nat → Bool) (b n : Nat) (hb : b < n) (h1 : p b = true) (h2 : ∀ i, b < i → p i = false) : (List.range n).filter p = (List.range b).filter p ++ [b] := by
  obtain ⟨d, rfl⟩ : ∃ d, n = b + (d + 1) := ⟨n - b - 1, by omega⟩
  rw [List.range_eq_range', ← List.range'_append_1, List.filter_append, Nat.zero_add, List.range'_succ, List.filter_cons_of_pos h1]
  have e2 : (List.range' (b + 1) d).filter p = [] := by
    rw [List.filter_eq_nil_iff]; intro i hi; have := List.mem_range'_1.1 hi; rw [h2 i (by omega)]; simp
  rw [e2, List.range_eq_range']

/-- The lowest bit first; then the others. -/
theorem low_bits (c m i : Nat) : (2 ^ c * (2 * m + 1)).testBit i = (if i < c then false else (2 * m + 1).testBit (i - c)) ∧ ((2 ^ c * (2 * m + 1)) &&& (2 ^ c * (2 * m + 1) - 1)).testBit i = ((2 ^ c * (2 * m + 1)).testBit i && decide (i ≠ c)) := by
  have hp : 0 < 2 ^ c := Nat.pow_pos (by decide)
  have e0 : (2 ^ c * (2 * m + 1)).testBit i = (if i < c then false else (2 * m + 1).testBit (i - c)) := by
    have := Nat.testBit_two_pow_mul_add (2 * m + 1) hp i
    rw [Nat.add_zero] at this
    rw [this]; simp
  refine ⟨e0, ?_⟩
  rw [Nat.testBit_and]
  have e1 : 2 ^ c * (2 * m + 1) - 1 = 2 ^ c * (2 * m) + (2 ^ c - 1) := by
    rw [Nat.mul_add, Nat.mul_one]; omega
  have e2 : (2 ^ c * (2 * m + 1) - 1).testBit i = (if i < c then (2 ^ c - 1).testBit i else (2 * m).testBit (i - c)) := by
    rw [e1]; exact Nat.testBit_two_pow_mul_add (2 * m) (show 2 ^ c - 1 < 2 ^ c by omega) i
  rw [e0, e2]
  by_cases h : i < c
  · simp [h]
  · simp only [h, if_false]
    rcases Nat.lt_or_ge c i with h1 | h1
    · obtain ⟨j, hj⟩ : ∃ j, i - c = j + 1 := ⟨i - c - 1, by omega⟩
      rw [hj, Nat.testBit_succ, Nat.testBit_succ, show (2 * m + 1) / 2 = m by omega, show 2 * m / 2 = m by omega]
      have : i ≠ c := by omega
      simp [this]
    · have : i = c := by omega
      subst this
      simp
theorem bl_head (x f : Nat) (h0 : x ≠ 0) (hx : x < 18446744073709551616) : bl x f = (f + Lib.ctz 64 x) :: bl (x &&& (x - 1)) f := by
  obtain ⟨m, hm, hk⟩ := Lib.ctzFrom_spec 64 x (by omega) hx
  have e : Lib.ctz 64 x = Lib.ctzFrom 64 x := by simp [Lib.ctz, h0]
  rw [← e] at hm hk
  generalize Lib.ctz 64 x = c at *
  unfold bl
  rw [filter_head (fun i => x.testBit i) (fun i => (x &&& (x - 1)).testBit i) c 64 hk ?_ ?_ ?_]
  · rfl
  · intro i hi
    show x.testBit i = false
    rw [hm, (low_bits c m i).1, if_pos hi]
  · show x.testBit c = true
    rw [hm, (low_bits c m c).1, if_neg (Nat.lt_irrefl _)]
    simp
  · intro i
    show (x &&& (x - 1)).testBit i = (x.testBit i && decide (i ≠ c))
    rw [hm]
    exact (low_bits c m i).2
theorem bitLen_log (f x : Nat) (h0 : x ≠ 0) (hx : x < 2 ^ f) : Lib.bitLenAux f x = x.log2 + 1 := by
  induction f generalizing x with
  | zero => simp at hx; omega
  | succ f ih =>
    show (if x = 0 then 0 else 1 + Lib.bitLenAux f (x / 2)) = _
    rw [if_neg h0]
    by_cases h1 : x = 1
    · subst h1
      rw [show (1 : Nat).log2 = 0 by decide]
      cases f <;> simp [Lib.bitLenAux]
    · rw [ih (x / 2) (by omega) (by rw [Nat.pow_succ] at hx; omega), Nat.log2_def x, if_pos (by omega)]; omega
theorem bl_last (x f : Nat) (h0 : x ≠ 0) (hx : x < 18446744073709551616) : (∃ l, bl x f = l ++ [f + (Lib.bitLen x - 1)]) ∧ 1 ≤ Lib.bitLen x ∧ Lib.bitLen x ≤ 64 := by
  have e : Lib.bitLen x = x.log2 + 1 := bitLen_log 64 x h0 hx
  have h1 : 2 ^ x.log2 ≤ x := Nat.log2_self_le h0
  have h2 : x < 2 ^ (x.log2 + 1) := Nat.lt_log2_self
  have h3 : x.log2 < 64 := (Nat.log2_lt h0).2 hx
  rw [e]
  refine ⟨⟨((List.range x.log2).filter (fun i => x.testBit i)).map (fun i => f + i), ?_⟩, by omega, by omega⟩
  unfold bl
  rw [filter_last (fun i => x.testBit i) x.log2 64 h3 ?_ ?_, List.map_append]
  · rfl
  · show x.testBit x.log2 = true
    rw [testBit_is, decide_eq_true_eq]
    have : x / 2 ^ x.log2 = 1 := by
      apply Nat.div_eq_of_lt_le
      · omega
      · rw [Nat.pow_succ] at h2; omega
    rw [this]
  · intro i hi
    exact Nat.testBit_lt_two_pow (Nat.lt_of_lt_of_le h2 (Nat.pow_le_pow_right (by decide) hi))

/-- The words of slots from one on, ahead of another one, without the bits of others. -/
def pw (ws : List Int) (f t k : Nat) : Nat := cutN (wd ws k) (f - 64 * k) (64 * (k + 1) - t)
def yl (ws : List Int) (f t j : Nat) : Nat × Nat := (64 * (f / 64 + j), pw ws f t (f / 64 + j))
def ny (f t : Nat) : Nat := (t + 63) / 64 - f / 64
def blL (l : List (Nat × Nat)) : List Nat := l.flatMap (fun p => bl p.2 p.1)
theorem blL_snoc (l : List (Nat × Nat)) (p : Nat × Nat) : blL (l ++ [p]) = blL l ++ bl p.2 p.1 := by unfold blL; simp
theorem bl_pw (ws : List Int) (f t k : Nat) (hft : f ≤ t) (hk : 64 * k < t) (hf : f < 64 * (k + 1)) : bl (pw ws f t k) (64 * k) = occs ws (max f (64 * k)) (min t (64 * (k + 1)) - max f (64 * k)) := by
  obtain ⟨l, hl⟩ : ∃ l, l = f - 64 * k := ⟨_, rfl⟩
  obtain ⟨h, hh⟩ : ∃ h, h = 64 * (k + 1) - t := ⟨_, rfl⟩
  obtain ⟨m, hm⟩ : ∃ m, m = 64 - l - h := ⟨_, rfl⟩
  have e1 : max f (64 * k) = 64 * k + l := by omega
  have e2 : min t (64 * (k + 1)) - max f (64 * k) = m := by omega
  rw [e2, e1]
  unfold bl pw
  rw [← hl, ← hh]
  have es : List.range 64 = List.range' 0 l ++ (List.range' l m ++ List.range' (l + m) h) := by
    rw [List.range'_append_1, List.range_eq_range', show (64 : Nat) = l + (m + h) by omega, ← List.range'_append_1, Nat.zero_add]
  rw [es, List.filter_append, List.filter_append]
  have f1 : (List.range' 0 l).filter (fun i => (cutN (wd ws k) l h).testBit i) = [] := by
    rw [List.filter_eq_nil_iff]; intro i hi; have := List.mem_range'_1.1 hi; rw [cutN_bit, decide_eq_false (by omega)]; simp
  have f2 : (List.range' (l + m) h).filter (fun i => (cutN (wd ws k) l h).testBit i) = [] := by
    rw [List.filter_eq_nil_iff]; intro i hi; have := List.mem_range'_1.1 hi; rw [cutN_bit, decide_eq_false (show ¬ i + h < 64 by omega)]; simp
  rw [f1, f2, List.nil_append, List.append_nil]
  unfold occs
  rw [show List.range' (64 * k + l) m = (List.range' l m).map (fun i => 64 * k + i) by rw [List.map_add_range']; , List.filter_map]
  congr 1
  apply List.filter_congr
  intro i hi
  have := List.mem_range'_1.1 hi
  rw [cutN_bit, decide_eq_true (show l ≤ i by omega), decide_eq_true (show i + h < 64 by omega)]
  show _ = occB ws (64 * k + i)
  unfold occB
  rw [show (64 * k + i) / 64 = k by omega, show (64 * k + i) % 64 = i by omega]
  rfl
theorem occs_parts (ws : List Int) (f t : Nat) (hft : f ≤ t) : ∀ j, j ≤ ny f t → blL (upto (yl ws f t) j) = occs ws f (min t (64 * (f / 64 + j)) - f) := by
  intro j
  induction j with
  | zero =>
    intro _
    rw [show min t (64 * (f / 64 + 0)) - f = 0 by omega]; rfl
  | succ j ih =>
    intro hj
    have hj2 : j < ny f t := hj
    unfold ny at hj2
    rw [upto_succ, blL_snoc, ih (by omega)]
    show _ ++ bl (pw ws f t (f / 64 + j)) (64 * (f / 64 + j)) = _
    rw [bl_pw ws f t _ hft (by omega) (by omega)]
    rw [show min t (64 * (f / 64 + (j + 1))) - f = (min t (64 * (f / 64 + j)) - f) + (min t (64 * (f / 64 + j + 1)) - max f (64 * (f / 64 + j))) by omega, occs_add]
    rw [show f + (min t (64 * (f / 64 + j)) - f) = max f (64 * (f / 64 + j)) by omega]
theorem occs_all (ws : List Int) (f t : Nat) (hft : f ≤ t) : blL (upto (yl ws f t) (ny f t)) = occs ws f (t - f) := by
  rw [occs_parts ws f t hft _ (Nat.le_refl _)]
  congr 1
  unfold ny
  omega
theorem occs_pre {ws : List Int} {f t : Nat} (hft : f ≤ t) {pre : List (Nat × Nat)} (h : pre <+: upto (yl ws f t) (ny f t)) : ∃ r, occs ws f (t - f) = blL pre ++ r := by
  obtain ⟨r, hr⟩ := h
  exact ⟨blL r, by rw [← occs_all ws f t hft, ← hr]; unfold blL; rw [List.flatMap_append]⟩
end Go.Proofs.Ytfdkaahkhgljdaa.Occ

namespace Go.Proofs.Ytfdkaahkhgljdaa.Occ
open Go.RowKit Go.Shelf Go.Proofs.Ytfdkaahkhgljdaa

def nats (l : List Nat) : List Value := l.map (fun x : Nat => Value.int .i64 (x : Int))
theorem nats_length (l : List Nat) : (nats l).length = l.length := by unfold nats; simp
theorem infoI : (Try.prog.info? 3).map (fun i => (i.zero, i.size, i.bytes)) = some (some (.int .i64 0), 1, 8) := by kernel_rfl

set_option maxRecDepth 100000 in
set_option maxHeartbeats 2000000 in
theorem Places_any (a : Option Addr) (ca : Nat) (ws : List Int) (f t : Nat) (w : World) (hu : U64 ws) (hr : Rd .u64 w a ws) (hl : ws.length ≤ 100000) (hft : f ≤ t) (ht : t ≤ 64 * ws.length) :
    Calls Try.prog 66 #[.slice a ws.length ca, .int .i64 f, .int .i64 t] w fun e w' => ∃ v, e = .returned v ∧ w'.ownsRow w.heap.size 3 1 v (occs ws f (t - f)).length (nats (occs ws f (t - f))) ∧ Below w.heap.size w w' := by
  obtain ⟨i0, hi, hz0, hz1, hz2⟩ := info_parts infoI
  have HIS := Lib.hid (fun s w1 hr1 hs => Is_any a ca ws s w1 hu hr1 hl hs)
  have HR := Lib.hid hr
  have HFT := Lib.hid hft
  clear hu hr
  go_enter Try.func66, Try.ntmps66
  go_wp2
  go_loopw [7, 8] (fun v i wr => ∃ k : Nat, f + k ≤ t ∧ i = .int .i64 ((f : Int) + (k : Int)) ∧ wr.ownsRow w.heap.size 3 1 v (occs ws f k).length (nats (occs ws f k)) ∧ Below w.heap.size w wr) (fun _ i _ => t - (intOf i).toNat)
  case atStart => exact ⟨0, hft, by go_num, (World.ownsRow_nil w w.heap.size 3 1 : w.ownsRow w.heap.size 3 1 (.slice Option.none 0 0) (occs ws f 0).length (nats (occs ws f 0))), Below.refl _ _⟩
  case round =>
    obtain ⟨k, hk, rfl, hown, hbl⟩ := hrel
    have HO := Lib.hid hown
    have HB := Lib.hid hbl
    clear hown hbl
    have HS := Lib.hid (occs_succ ws f k)
    have hol := occs_length ws f k
    generalize hL : occs ws f k = L at *
    have HL := Lib.hid hL
    clear hL
    by_cases hlt : f + k < t
    · have HI := Lib.hid (HIS.out (f + k) _ (HR.out.mono HB.out (Nat.le_refl _)) (by omega))
      rw [Int.natCast_add] at HI
      have hlt2 : (f : Int) + (k : Int) < (t : Int) := by omega
      by_cases ho : occB ws (f + k) = true
      · rw [ho] at HI HS
        go_wp2_with fail
        refine HI.out.mono ?_
        rintro e w' ⟨rfl, rfl⟩
        go_wp2_with (at_builtin; refine wpList_append_news HO.out HB.out.size rfl _ _ 24 rfl i0 (.int .i64 0) 8 Try.underlying24 hi hz0 hz1 hz2 rfl _ 1 rfl rfl (by intro u hu; simp at hu; subst hu; rfl) (by unfold maxLen; simp; omega) (by simp; omega) ?_)
        intro v' w1 hown' hb'
        have HO2 := Lib.hid hown'
        have HB2 := Lib.hid (HB.out.trans hb')
        clear hown' hb'
        go_wp2
        go_roundw
        case rel => exact ⟨k + 1, by omega, by go_num, by rw [HS.out, if_pos trivial, List.length_append]; unfold nats; rw [List.map_append]; exact HO2.out, HB2.out⟩
        case measure => simp [intOf]; omega
      · rw [Bool.not_eq_true] at ho
        rw [ho] at HI HS
        go_wp2_with fail
        refine HI.out.mono ?_
        rintro e w' ⟨rfl, rfl⟩
        go_wp2
        go_roundw
        case rel => exact ⟨k + 1, by omega, by go_num, by rw [HS.out, if_neg (by decide), List.append_nil]; exact HO.out, HB.out⟩
        case measure => simp [intOf]; omega
    · have HE : Hid (t - f = k) := Lib.hid (by omega)
      have hge : ¬ (f : Int) + (k : Int) < (t : Int) := by omega
      go_wp2
      go_ret
      exact ⟨_, rfl, by rw [HE.out, HL.out]; exact HO.out, HB.out⟩

end Go.Proofs.Ytfdkaahkhgljdaa.Occ

namespace Go.Proofs.Ytfdkaahkhgljdaa.Occ
open Go.RowKit Go.Shelf Go.Proofs.Ytfdkaahkhgljdaa

def inB (n f t : Int) : Bool := decide (0 ≤ f) && (decide (f ≤ t) && decide (t ≤ n))
theorem inB_iff {n f t : Int} : inB n f t = true ↔ 0 ≤ f ∧ f ≤ t ∧ t ≤ n := by unfold inB; simp only [Bool.and_eq_true, decide_eq_true_eq]
def upB (n s : Int) : Bool := decide (0 ≤ s) && decide (s ≤ n)
theorem upB_iff {n s : Int} : upB n s = true ↔ 0 ≤ s ∧ s ≤ n := by unfold upB; simp only [Bool.and_eq_true, decide_eq_true_eq]
def cntV (ws : List Int) (n f t : Int) : Int × Int := if askV ws n (inB n f t) = 0 then (((occs ws f.toNat (t - f).toNat).length : Int), 0) else (0, askV ws n (inB n f t))
def nthV (ws : List Int) (n k : Int) : Int × Int :=
  if chkV ws n = 0 then (if 0 ≤ k ∧ k < ((occs ws 0 n.toNat).length : Int) then ((((occs ws 0 n.toNat).getD k.toNat 0 : Nat) : Int), 0) else (0, 6)) else (0, chkV ws n)
def firstV (l : List Nat) : Int × Int := if l.length = 0 then (0, 6) else (((l.getD 0 0 : Nat) : Int), 0)
def endV (l : List Nat) : Int × Int := if l.length = 0 then (0, 6) else (((l.getD (l.length - 1) 0 : Nat) : Int), 0)
def nextV (ws : List Int) (n s : Int) : Int × Int := if askV ws n (upB n s) = 0 then firstV (occs ws s.toNat (n - s).toNat) else (0, askV ws n (upB n s))
def lastV (ws : List Int) (n s : Int) : Int × Int := if askV ws n (upB n s) = 0 then endV (occs ws 0 s.toNat) else (0, askV ws n (upB n s))

def zs (l : List Nat) : List Int := l.map (fun x : Nat => (x : Int))
theorem nats_zs (l : List Nat) : nats l = (zs l).map (Value.int .i64) := by unfold nats zs; rw [List.map_map]; rfl
theorem zs_length (l : List Nat) : (zs l).length = l.length := by unfold zs; rw [List.length_map]
theorem zs_getD (l : List Nat) (i : Nat) : (zs l).getD i 0 = ((l.getD i 0 : Nat) : Int) := by
  unfold zs
  simp only [List.getD_eq_getElem?_getD, List.getElem?_map]
  cases l[i]? <;> rfl
/-- The list that was made, as it is read. -/
theorem places_read {w w1 : World} {v : Value} {l : List Nat} (h : w1.ownsRow w.heap.size 3 1 v l.length (nats l)) : ∃ a c, v = .slice a l.length c ∧ Rd .i64 w1 a (zs l) := by
  rw [nats_zs] at h
  obtain ⟨a, c, hv, hn, hr, _⟩ := owns_arg h
  rw [zs_length] at hv
  exact ⟨a, c, hv, hr⟩
/-- Words that may be, and a place that is asked for. -/
theorem ask_bad {ws : List Int} {n : Int} {b : Bool} (hc : chkV ws n = 0) (hb : ¬ b = true) : askV ws n b = 2 := by unfold askV; rw [if_pos hc, if_neg hb]
theorem ask_ok {ws : List Int} {n : Int} {b : Bool} (hc : chkV ws n = 0) (hb : b = true) : askV ws n b = 0 := by unfold askV; rw [if_pos hc, if_pos hb]
theorem ask_chk {ws : List Int} {n : Int} {b : Bool} (hc : ¬ chkV ws n = 0) : askV ws n b = chkV ws n := by unfold askV; rw [if_neg hc]

end Go.Proofs.Ytfdkaahkhgljdaa.Occ

namespace Go.Proofs.Ytfdkaahkhgljdaa.Occ
open Go.RowKit Go.Shelf Go.Proofs.Ytfdkaahkhgljdaa

theorem cut_none (x : Nat) (hx : x < 18446744073709551616) : cutN x 0 0 = x := by unfold cutN; simp; omega
set_option maxRecDepth 100000 in
set_option maxHeartbeats 1000000 in
theorem cut_core (b off Bw Bf Bt ca ln x f t k l h : Nat) (w : World) (hx : x < 18446744073709551616)
    (hcw : w.cell? ⟨Bw, 0, Option.none⟩ = some (.slice (some ⟨b, off, Option.none⟩) ln ca)) (hcf : w.cell? ⟨Bf, 0, Option.none⟩ = some (.int .i64 f)) (hct : w.cell? ⟨Bt, 0, Option.none⟩ = some (.int .i64 t))
    (hcx : w.cell? ⟨b, off + k, Option.none⟩ = some (.int .u64 x)) (hk : k < ln) (hln : ln ≤ 100000) (hf : f ≤ 6500000) (ht : t ≤ 6500000) (hl : l = f - 64 * k) (hh : h = 64 * (k + 1) - t) (hl2 : l < 64) (hh2 : h < 64) :
    Calls Try.prog 78 #[.int .i64 k, .pointer (some ⟨Bw, 0, Option.none⟩), .pointer (some ⟨Bf, 0, Option.none⟩), .pointer (some ⟨Bt, 0, Option.none⟩)] w fun e w' => e = .returned (.int .u64 ((cutN x l h : Nat) : Int)) ∧ w = w' := by
  obtain ⟨y, hy⟩ : ∃ y, y = x / 2 ^ l * 2 ^ l := ⟨_, rfl⟩
  obtain ⟨z, hz⟩ : ∃ z, z = y * 2 ^ h % 18446744073709551616 := ⟨_, rfl⟩
  obtain ⟨u, hu⟩ : ∃ u, u = z / 2 ^ h := ⟨_, rfl⟩
  have hyx : y ≤ x := by rw [hy]; exact Nat.div_mul_le_self _ _
  have hzl : z < 18446744073709551616 := by rw [hz]; exact Nat.mod_lt _ (by decide)
  have HC : Hid (cutN x l h = u) := Lib.hid (by unfold cutN; rw [← hy, ← hz, ← hu])
  have e1 : (x : Int) / 2 ^ l * 2 ^ l = (y : Int) := by rw [hy]; simp
  have e2 : IntKind.u64.wrap ((y : Int) * 2 ^ h) = (z : Int) := by rw [IntKind.wrap_u64, hz]; simp
  have e3 : (z : Int) / 2 ^ h = (u : Int) := by rw [hu]; simp
  rw [HC.out]
  have g1 : ((k : Int) + 1) * 64 - (t : Int) = (h : Int) ∨ h = 0 := by omega
  by_cases h1 : l = 0
  · subst h1
    have hyx2 : y = x := by rw [hy]; simp
    subst hyx2
    have g2 : ¬ (0 : Int) < (f : Int) - (k : Int) * 64 := by omega
    by_cases h2 : h = 0
    · subst h2
      have hux : u = y := by rw [hu, hz]; simp; omega
      subst hux
      have g3 : ¬ (0 : Int) < ((k : Int) + 1) * 64 - (t : Int) := by omega
      clear hy hz hu HC e1 e2 e3 hl hh g1
      go_enter Try.func78, Try.ntmps78
      go_wp2
      go_ret
      exact ⟨rfl, rfl⟩
    · have g3 : ((k : Int) + 1) * 64 - (t : Int) = (h : Int) := by omega
      have h2' : 0 < h := by omega
      clear hy hz hu HC e1 hl hh g1 h2
      go_enter Try.func78, Try.ntmps78
      go_wp2
      go_ret
      exact ⟨rfl, rfl⟩
  · have g2 : (f : Int) - (k : Int) * 64 = (l : Int) := by omega
    have h1' : 0 < l := by omega
    by_cases h2 : h = 0
    · subst h2
      have hux : u = y := by rw [hu, hz]; simp; omega
      subst hux
      have g3 : ¬ (0 : Int) < ((k : Int) + 1) * 64 - (t : Int) := by omega
      clear hy hz hu HC e2 e3 hl hh g1 h1
      go_enter Try.func78, Try.ntmps78
      go_wp2
      go_ret
      exact ⟨rfl, rfl⟩
    · have g3 : ((k : Int) + 1) * 64 - (t : Int) = (h : Int) := by omega
      have h2' : 0 < h := by omega
      clear hy hz hu HC hl hh g1 h2 h1
      go_enter Try.func78, Try.ntmps78
      go_wp2
      go_ret
      exact ⟨rfl, rfl⟩
theorem cut_any (a : Option Addr) (Bw Bf Bt ca : Nat) (ws : List Int) (f t k : Nat) (w : World) (hu : U64 ws) (hr : Rd .u64 w a ws)
    (hcw : w.cell? ⟨Bw, 0, Option.none⟩ = some (.slice a ws.length ca)) (hcf : w.cell? ⟨Bf, 0, Option.none⟩ = some (.int .i64 f)) (hct : w.cell? ⟨Bt, 0, Option.none⟩ = some (.int .i64 t))
    (hln : ws.length ≤ 100000) (ht : t ≤ 64 * ws.length) (hft : f ≤ t) (hk : 64 * k < t) (hk2 : f < 64 * (k + 1)) :
    Calls Try.prog 78 #[.int .i64 k, .pointer (some ⟨Bw, 0, Option.none⟩), .pointer (some ⟨Bf, 0, Option.none⟩), .pointer (some ⟨Bt, 0, Option.none⟩)] w fun e w' => e = .returned (.int .u64 ((pw ws f t k : Nat) : Int)) ∧ w = w' := by
  obtain ⟨b, off, rfl, hc⟩ := Rd.word hu hr k (by omega)
  exact cut_core b off Bw Bf Bt ca ws.length (wd ws k) f t k _ _ w (wd_of hu k) hcw hcf hct hc (by omega) hln (by omega) (by omega) rfl rfl (by omega) (by omega)

end Go.Proofs.Ytfdkaahkhgljdaa.Occ

namespace Go.Proofs.Ytfdkaahkhgljdaa.Occ
open Go.RowKit Go.Shelf Go.Proofs.Ytfdkaahkhgljdaa
attribute [local go_sem] Oper.semAt_some

/-- Numbers that lie below a block stay. -/
def RdN (n : Nat) (k : IntKind) (w : World) (a : Option Addr) (zs : List Int) : Prop :=
  zs = [] ∨ ∃ b off, a = some ⟨b, off, Option.none⟩ ∧ b < n ∧ ∀ i, i < zs.length → w.cell? ⟨b, off + i, Option.none⟩ = some (.int k (zs.getD i 0))
theorem RdN.of {n : Nat} {k : IntKind} {w : World} {a : Option Addr} {zs : List Int} (h : Rd k w a zs) (hn : w.heap.size ≤ n) : RdN n k w a zs := by
  rcases h with h | ⟨b, off, ha, hlt, hc⟩
  · exact .inl h
  · exact .inr ⟨b, off, ha, by omega, hc⟩
theorem RdN.keep {n : Nat} {k : IntKind} {w w1 : World} {a : Option Addr} {zs : List Int} (h : RdN n k w a zs) (hb : Below n w w1) : RdN n k w1 a zs := by
  rcases h with h | ⟨b, off, ha, hlt, hc⟩
  · exact .inl h
  · exact .inr ⟨b, off, ha, hlt, fun i hi => (hb.cell (p := ⟨b, off + i, Option.none⟩) hlt).trans (hc i hi)⟩
theorem RdN.rd {n : Nat} {k : IntKind} {w : World} {a : Option Addr} {zs : List Int} (h : RdN n k w a zs) (hn : n ≤ w.heap.size) : Rd k w a zs := by
  rcases h with h | ⟨b, off, ha, hlt, hc⟩
  · exact .inl h
  · exact .inr ⟨b, off, ha, by omega, hc⟩

/-- What a round is handed: by its number. -/
def ym (ws : List Int) (f t j : Nat) : Nat × Nat := yl ws f t (min j (ny f t))
def encP (x : Nat × Nat) : Array Value := #[.int .i64 (x.1 : Int), .int .u64 (x.2 : Int)]
def encJ (ws : List Int) (f t j : Nat) : Array Value := encP (ym ws f t j)
/-- The slots that the rounds have told. -/
def bI (ws : List Int) (f t : Nat) (l : List Nat) : List Nat := blL (l.map (ym ws f t))
theorem bI_snoc (ws : List Int) (f t : Nat) (l : List Nat) (j : Nat) : bI ws f t (l ++ [j]) = bI ws f t l ++ bl (ym ws f t j).2 (ym ws f t j).1 := by
  unfold bI; rw [List.map_append, List.map_cons, List.map_nil, blL_snoc]
theorem ym_upto (ws : List Int) (f t : Nat) : (upto id (ny f t)).map (ym ws f t) = upto (yl ws f t) (ny f t) := by
  unfold upto
  rw [List.map_map]
  apply List.map_congr_left
  intro j hj
  have := List.mem_range.1 hj
  show ym ws f t j = _
  unfold ym
  rw [Nat.min_eq_left (by omega)]
theorem bI_all (ws : List Int) (f t : Nat) (hft : f ≤ t) : bI ws f t (upto id (ny f t)) = occs ws f (t - f) := by
  unfold bI; rw [ym_upto, occs_all ws f t hft]
theorem bI_pre {ws : List Int} {f t : Nat} (hft : f ≤ t) {pre : List Nat} (h : pre <+: upto id (ny f t)) : ∃ r, occs ws f (t - f) = bI ws f t pre ++ r := by
  have h2 : pre.map (ym ws f t) <+: upto (yl ws f t) (ny f t) := by rw [← ym_upto]; exact h.map _
  exact occs_pre hft h2
theorem ym_lt {ws : List Int} (hu : U64 ws) (f t j : Nat) : (ym ws f t j).2 < 18446744073709551616 := cutN_lt _ _ _ (wd_of hu _)
theorem ym_first (ws : List Int) (f t j : Nat) (hft : f ≤ t) : (ym ws f t j).1 ≤ t + 63 := by
  show 64 * (f / 64 + min j (ny f t)) ≤ t + 63
  unfold ny; omega
theorem bI_length {ws : List Int} {f t : Nat} (l : List Nat) : (bI ws f t l).length ≤ 64 * l.length := by
  induction l with
  | nil => exact Nat.zero_le _
  | cons j l ih =>
    show (bl (ym ws f t j).2 (ym ws f t j).1 ++ bI ws f t l).length ≤ _
    rw [List.length_append, List.length_cons]
    have : (bl (ym ws f t j).2 (ym ws f t j).1).length ≤ 64 := by
      unfold bl; rw [List.length_map]
      have := List.length_filter_le (fun i => (ym ws f t j).2.testBit i) (List.range 64)
      rwa [List.length_range] at this
    omega

set_option maxRecDepth 100000 in
set_option maxHeartbeats 2000000 in
theorem parts1_in (m l Bw Bf Bt n0 lo hi f t ca : Nat) (a : Option Addr) (ws : List Int) (hu : U64 ws) (hln : ws.length ≤ 100000) (ht : t ≤ 64 * ws.length) (hft : f ≤ t) (b1 : lo ≤ Bw ∧ Bw < hi) (b2 : lo ≤ Bf ∧ Bf < hi) (b3 : lo ≤ Bt ∧ Bt < hi) (J Jx : List Nat → World → Prop)
    (hY : ∀ pre x W, J pre W → pre.length < ny f t → YieldAt Fence.wide (m - 1) Try.prog l (encJ ws f t x) W fun e W' =>
      (e = .returned (.bool true) ∧ J (pre ++ [x]) W' ∧ Keeps n0 lo hi W W') ∨ (e = .returned (.bool false) ∧ Jx (pre ++ [x]) W'))
    (W : World) (hnz : n0 ≤ W.heap.size) (hrw : RdN n0 .u64 W a ws) (hcw : W.cell? ⟨Bw, 0, Option.none⟩ = some (.slice a ws.length ca)) (hcf : W.cell? ⟨Bf, 0, Option.none⟩ = some (.int .i64 f)) (hct : W.cell? ⟨Bt, 0, Option.none⟩ = some (.int .i64 t)) (h0 : J [] W) :
    CallsIn Fence.wide m Try.prog 77 #[.func (.yield l) #[] #[], .pointer (some ⟨Bw, 0, Option.none⟩), .pointer (some ⟨Bf, 0, Option.none⟩), .pointer (some ⟨Bt, 0, Option.none⟩)] W fun e W' => (∃ v, e = .returned v) ∧
      ((∃ ys, ys = upto id (ny f t) ∧ J ys W') ∨ (∃ pre, pre <+: upto id (ny f t) ∧ Jx pre W')) := by
  have hd : (f : Int) / 64 = ((f / 64 : Nat) : Int) := rfl
  have HU := Lib.hid hu
  have HRW := Lib.hid hrw
  have HNY : Hid (ny f t = (t + 63) / 64 - f / 64) := Lib.hid rfl
  have HF : Hid (64 * (f / 64) ≤ f ∧ f < 64 * (f / 64) + 64) := Lib.hid (by omega)
  have HYL : Hid (∀ j, j < ny f t → encJ ws f t j = encP (64 * (f / 64 + j), pw ws f t (f / 64 + j))) := Lib.hid (fun j hj => by unfold encJ ym; rw [Nat.min_eq_left (by omega)]; rfl)
  have HNY2 : Hid (ny f t = (t + 63) / 64 - f / 64) := Lib.hid rfl
  clear hu hrw
  generalize ny f t = ln at *
  generalize hq : f / 64 = q at *
  clear hq
  refine callsIn_of_wp Try.func77 rfl trivial ?_ rfl
  simp only [Try.ntmps77, List.size_toArray, List.length_cons, List.length_nil, Nat.reduceAdd, Nat.reduceSub, Array.replicate_succ, Array.replicate_zero, List.push_toArray, List.append_toArray, List.nil_append, List.cons_append]
  gi_wp2
  gi_loopw [6] (fun i wr => ∃ j : Nat, j ≤ ln ∧ i = .int .i64 ((q : Int) + (j : Int)) ∧ J (upto id j) wr ∧ RdN n0 .u64 wr a ws ∧ n0 ≤ wr.heap.size ∧ (∀ b o, lo ≤ b → b < hi → wr.cell? ⟨b, o, Option.none⟩ = W.cell? ⟨b, o, Option.none⟩)) (fun i _ => q + ln - (intOf i).toNat)
  case atStart => exact ⟨0, Nat.zero_le _, by go_num, h0, HRW.out, hnz, fun _ _ _ _ => rfl⟩
  case round =>
    obtain ⟨j, hj, rfl, hJs, hrd, hwz, hsame⟩ := hrel
    have c1 := (hsame Bw 0 b1.1 b1.2).trans hcw
    have c2 := (hsame Bf 0 b2.1 b2.2).trans hcf
    have c3 := (hsame Bt 0 b3.1 b3.2).trans hct
    have HS := Lib.hid hsame
    have HRD := Lib.hid hrd
    clear hrd hsame
    have hln2 := HNY.out
    by_cases hlt : j < ln
    · have h1 := HF.out
      have hlt2 : ((q : Int) + (j : Int)) * 64 < (t : Int) := by omega
      have HCUT := Lib.hid (cut_any a Bw Bf Bt ca ws f t (q + j) wr HU.out (HRD.out.rd hwz) c1 c2 c3 hln ht hft (by omega) (by omega))
      rw [Int.natCast_add] at HCUT
      obtain ⟨fn, tmps, assign, body, hy, hR⟩ := hY _ j wr hJs (by rw [upto_length]; exact hlt)
      rw [HYL.out j hlt] at hy
      dsimp only [encP] at hy
      have hpl : ((64 * (q + j) : Nat) : Int) = ((q : Int) + (j : Int)) * 64 := by omega
      rw [hpl] at hy
      have HNEW : Hid (upto id (j + 1) = upto id j ++ [j]) := Lib.hid (upto_succ _ _)
      have hb1 : q + j ≤ 6500000 := by omega
      have HL2 := Lib.hid hln2
      clear hpl h1 hln2
      generalize pw ws f t (q + j) = x at *
      gi_wp2_with fail
      refine ⟨trivial, fun h => (by cases h), (callsIn_wide.2 HCUT.out).mono ?_⟩
      rintro e w1 ⟨rfl, rfl⟩
      gi_wp2_with fail
      refine ⟨fun h => (by cases h), hR.mono ?_⟩
      rintro e W3 (⟨rfl, hJ3, hk3⟩ | ⟨rfl, hJx3⟩)
      · gi_wp2
        go_roundw
        case rel => exact ⟨j + 1, by omega, by go_num, by rw [HNEW.out]; exact hJ3, HRD.out.keep hk3.below, Nat.le_trans hwz hk3.below.size, fun b o h1 h2 => (hk3.cell h1 h2).trans (HS.out b o h1 h2)⟩
        case measure => simp [intOf]; omega
      · gi_wp2
        refine bodyPost_ret (results_none rfl _ _ _) rfl ?_
        exact ⟨⟨_, rfl⟩, .inr ⟨_, upto_prefix _ (show j + 1 ≤ ln by omega), by rw [HNEW.out]; exact hJx3⟩⟩
    · obtain rfl : j = ln := by omega
      have h1 := HF.out
      have hge : ¬ ((q : Int) + (j : Int)) * 64 < (t : Int) := by omega
      have hb1 : q + j ≤ 6500000 := by omega
      clear h1 hln2
      gi_wp2
      refine ⟨rfl, _, results_none rfl _ _ _, ?_⟩
      exact ⟨⟨_, rfl⟩, .inl hJs⟩

/-- The iterator's value: three boxes. -/
def boxP (w : World) (a : Option Addr) (ln ca : Nat) (f t : Int) : World := ((w.alloc (.cells #[.slice a ln ca] 22)).alloc (.cells #[.int .i64 f] 3)).alloc (.cells #[.int .i64 t] 3)
theorem boxP_size (w : World) (a : Option Addr) (ln ca : Nat) (f t : Int) : (boxP w a ln ca f t).heap.size = w.heap.size + 3 := by simp [boxP]
theorem boxP_below (w : World) (a : Option Addr) (ln ca : Nat) (f t : Int) : Below w.heap.size w (boxP w a ln ca f t) := (((Below.refl _ w).alloc (Nat.le_refl _) _).alloc (by simp) _).alloc (by simp; omega) _
theorem boxP_cells (w : World) (a : Option Addr) (ln ca : Nat) (f t : Int) : (boxP w a ln ca f t).cell? ⟨w.heap.size, 0, Option.none⟩ = some (.slice a ln ca) ∧ (boxP w a ln ca f t).cell? ⟨w.heap.size + 1, 0, Option.none⟩ = some (.int .i64 f) ∧ (boxP w a ln ca f t).cell? ⟨w.heap.size + 2, 0, Option.none⟩ = some (.int .i64 t) := by
  have a1 := Boxed.new w 22 (.slice a ln ca)
  have a2 := Boxed.new (w.alloc (.cells #[.slice a ln ca] 22)) 3 (.int .i64 f)
  have a3 := Boxed.new ((w.alloc (.cells #[.slice a ln ca] 22)).alloc (.cells #[.int .i64 f] 3)) 3 (.int .i64 t)
  simp only [World.size_alloc] at a2 a3
  exact ⟨((a1.alloc _).alloc _).cell, (a2.alloc _).cell, a3.cell⟩
set_option maxHeartbeats 1000000 in
theorem parts_any (a : Option Addr) (ln ca : Nat) (f t : Int) (w : World) :
    Calls Try.prog 72 #[.slice a ln ca, .int .i64 f, .int .i64 t] w fun e w' => e = .returned (.func (.func 77) #[] #[.pointer (some ⟨w.heap.size, 0, Option.none⟩), .pointer (some ⟨w.heap.size + 1, 0, Option.none⟩), .pointer (some ⟨w.heap.size + 2, 0, Option.none⟩)]) ∧
      boxP w a ln ca f t = w' := by
  go_enter Try.func72, Try.ntmps72
  go_wp2
  go_ret
  exact ⟨rfl, rfl⟩

/-- The words come one behind the other; or a part of them, a round having said 'no more'. -/
theorem parts_stops (m n0 f t ca : Nat) (a : Option Addr) (ws : List Int) (w : World) (hu : U64 ws) (hr : RdN n0 .u64 w a ws) (hn : n0 ≤ w.heap.size) (hln : ws.length ≤ 100000) (ht : t ≤ 64 * ws.length) (hft : f ≤ t) :
    SeqStopsK Fence.wide m Try.prog 77 #[.pointer (some ⟨w.heap.size, 0, Option.none⟩), .pointer (some ⟨w.heap.size + 1, 0, Option.none⟩), .pointer (some ⟨w.heap.size + 2, 0, Option.none⟩)] (encJ ws f t) (Keeps n0 w.heap.size (w.heap.size + 3)) (fun ys => ys = upto id (ny f t)) (fun pre => pre <+: upto id (ny f t)) (ny f t) (boxP w a ws.length ca f t) := fun l J Jx W hW hJ hJz hY h0 => by
  obtain ⟨c1, c2, c3⟩ := boxP_cells w a ws.length ca f t
  have hs := boxP_size w a ws.length ca f t
  have hb := boxP_below w a ws.length ca f t
  exact parts1_in m l _ _ _ n0 w.heap.size (w.heap.size + 3) f t ca a ws hu hln ht hft (by omega) (by omega) (by omega) J Jx hY W (by have := hW.size; omega) (hr.keep ((hb.mono hn).trans (hW.mono (by omega)))) ((hW.cell (p := ⟨w.heap.size, 0, Option.none⟩) (by show w.heap.size < _; omega)).trans c1) ((hW.cell (p := ⟨w.heap.size + 1, 0, Option.none⟩) (by show w.heap.size + 1 < _; omega)).trans c2) ((hW.cell (p := ⟨w.heap.size + 2, 0, Option.none⟩) (by show w.heap.size + 2 < _; omega)).trans c3) h0

end Go.Proofs.Ytfdkaahkhgljdaa.Occ

namespace Go.Proofs.Ytfdkaahkhgljdaa.Occ
open Go.RowKit Go.Shelf Go.Proofs.Ytfdkaahkhgljdaa
attribute [local go_sem] Oper.semAt_some

set_option maxRecDepth 100000 in
set_option maxHeartbeats 2000000 in
theorem count_ok (a : Option Addr) (ca : Nat) (ws : List Int) (m f t : Nat) (w : World) (hu : U64 ws) (hr : Rd .u64 w a ws) (hl : ws.length ≤ 100000) (hv : askV ws m (inB m f t) = 0) :
    Calls Try.prog 55 #[.slice a ws.length ca, .int .i64 m, .int .i64 f, .int .i64 t] w fun e w' => e = .returned (.tuple #[.int .i64 ((occs ws f (t - f)).length : Int), .int .i64 0]) ∧ Below w.heap.size w w' := by
  obtain ⟨hc, hb⟩ := askV_ok hv
  obtain ⟨m', hm', hm, hlen, _⟩ := chkV_ok hc
  obtain rfl : m = m' := Int.ofNat_inj.1 hm'
  obtain ⟨h0, h1, h2⟩ := inB_iff.1 hb
  have hft : f ≤ t := by omega
  have htl : t ≤ 64 * ws.length := by omega
  have hb0 : Below w.heap.size w (w.alloc (.cells #[.int .i64 0] 3)) := (Below.refl _ w).alloc (Nat.le_refl _) _
  have HA := Lib.hid (asked_any a ca ws m true (w.alloc (.cells #[.int .i64 0] 3)) hu (hr.mono hb0 (Nat.le_refl _)) hl)
  rw [hb] at hv
  rw [hv] at HA
  have HU := Lib.hid hu
  have HR := Lib.hid hr
  have HALL := Lib.hid (bI_all ws f t hft)
  have HNY : Hid (ny f t ≤ 100001) := Lib.hid (by unfold ny; omega)
  have hm2 : (f : Int) ≤ (t : Int) := by omega
  have hm3 : (t : Int) ≤ (m : Int) := h2
  clear hu hr hc hb hlen hv hm' h0 h1 h2
  refine (callsIn_wide (n := 2)).1 ?_
  refine callsIn_of_wp_marks Try.func55 rfl trivial ?_ rfl
  simp only [Try.ntmps55, List.size_toArray, List.length_cons, List.length_nil, Nat.reduceAdd, Nat.reduceSub, Array.replicate_succ, Array.replicate_zero, List.push_toArray, List.append_toArray, List.nil_append, List.cons_append]
  gi_wp2_with fail
  refine ⟨trivial, (callsIn_wide.2 HA.out).mono ?_⟩
  rintro e w' ⟨rfl, rfl⟩
  gi_wp2_with fail
  refine ⟨trivial, (callsIn_wide.2 (parts_any _ _ _ _ _ _)).mono ?_⟩
  rintro e w' ⟨rfl, rfl⟩
  have bM := Boxed.new w 3 (.int .i64 0)
  have hw2 : (w.alloc (.cells #[.int .i64 0] 3)).heap.size = w.heap.size + 1 := by simp
  generalize w.alloc (.cells #[.int .i64 0] 3) = w2 at *
  have hst := parts_stops 1 w.heap.size f t ca a ws w2 HU.out ((RdN.of HR.out (Nat.le_refl _)).keep hb0) (by omega) hl htl hft
  have hs := boxP_size w2 a ws.length ca f t
  have hbx := boxP_below w2 a ws.length ca f t
  have HW2 := Lib.hid hw2
  have HS := Lib.hid hs
  clear hw2 hs
  gi_wp2_with fail
  have hw2 : w2.heap.size ≤ w.heap.size + 1 ∧ w.heap.size + 1 ≤ w2.heap.size := by have := HW2.out; omega
  have hs : (boxP w2 a ws.length ca f t).heap.size ≤ w2.heap.size + 3 ∧ w2.heap.size + 3 ≤ (boxP w2 a ws.length ca f t).heap.size := by have := HS.out; omega
  have bM := bM.kept (grown0 hbx) (by simp)
  have hB3 := hb0.trans (hbx.mono (by omega))
  generalize boxP w2 a ws.length ca f t = w3 at *
  have hKE := Keeps.b (n0 := w.heap.size) (lo := w2.heap.size) (hi := w2.heap.size + 3) (w := w3) (by omega) (by omega)
  refine rangeFunc_put (fun j => [(35, .int .i64 ((ym ws f t j).1 : Int)), (36, .int .u64 ((ym ws f t j).2 : Int)), (12, .int .u64 ((ym ws f t j).2 : Int))]) rfl (by decide) (gf := 77) (lb := #[.pointer (some ⟨w2.heap.size, 0, Option.none⟩), .pointer (some ⟨w2.heap.size + 1, 0, Option.none⟩), .pointer (some ⟨w2.heap.size + 2, 0, Option.none⟩)]) rfl trivial (enters_of Try.func77 (by kernel_rfl) rfl) hst Keeps.t hKE (Below.refl _ _) (fun _ => rfl)
    (fun pre W => (W.cell? ⟨w.heap.size, 0, Option.none⟩ = some (.int .i64 (((bI ws f t pre).length : Nat) : Int)) ∧ W.frozen? ⟨w.heap.size, 0, Option.none⟩ = false) ∧ Below w.heap.size w W)
    (fun c pre W => False ∧ Below w.heap.size w W)
    (OwnFrom.and (Own.from (fun s A B row hs hg hr => ⟨cell_kept hs.1 hg hr, (frozen_kept hs.1 hg hr).trans hs.2⟩) _) (ownFrom_below (Nat.le_refl _) (by omega)))
    (fun c => OwnFrom.and (Own.from (fun s A B row hs hg hr => hs) _) (ownFrom_below (Nat.le_refl _) (by omega)))
    ⟨⟨bM.cell, bM.frozen⟩, hB3⟩ ?assign ?body ?done ?stop
  case assign =>
    intro l x W K hK
    dsimp only [encJ, encP]
    gi_wp2
    exact hK
  case body =>
    rintro l pre j W ⟨⟨hc, hf⟩, hB⟩ hN
    have hlt := ym_lt HU.out f t j
    have HSN := Lib.hid (bI_snoc ws f t pre j)
    have HBL := Lib.hid (bl_length (ym ws f t j).2 (ym ws f t j).1)
    have hbn := bI_length (ws := ws) (f := f) (t := t) pre
    have hny := HNY.out
    have hpop : popN (ym ws f t j).2 ≤ 64 := by
      have := HBL.out
      unfold bl at this; rw [List.length_map] at this
      have h3 := List.length_filter_le (fun i => (ym ws f t j).2.testBit i) (List.range 64)
      rw [List.length_range] at h3
      unfold popN; omega
    have HO := Lib.hid (fun w => OnesCount_any (ym ws f t j).2 w hlt)
    have hnew : ((bI ws f t (pre ++ [j])).length : Int) = ((bI ws f t pre).length : Int) + (popN (ym ws f t j).2 : Int) := by
      rw [HSN.out, List.length_append, HBL.out]; unfold popN; omega
    have HNEW := Lib.hid hnew
    clear hnew
    generalize (bI ws f t pre).length = cn at *
    generalize (ym ws f t j).2 = x at *
    generalize (ym ws f t j).1 = fi at *
    generalize popN x = p at *
    have hcn : cn ≤ 6500000 := by omega
    have hwr : IntKind.i64.wrap ((cn : Int) + (p : Int)) = (cn : Int) + (p : Int) := by rw [IntKind.wrap_i64]; omega
    clear hbn hny
    gi_wp2
    gi_region_with (first | (refine ⟨trivial, rfl, (CallsIn.inRound l (callsIn_wide.2 (HO.out _))).mono ?_⟩; rintro e w1 ⟨rfl, rfl⟩))
    all_goals
      gi_wp2
      have hk1 : Keeps w.heap.size w2.heap.size (w2.heap.size + 3) W (W.setCell ⟨w.heap.size, 0, Option.none⟩ (.int .i64 ((cn : Int) + (p : Int)))) := (Keeps.refl _ _ _ W).setCell _ (by simp) (by simp; omega) _
      refine ⟨((KeepsOthers.setCell _ _ _).trans (KeepsOthers.drew _)).from _, hk1.t ⟨(Below.refl _ _).drew, fun _ _ _ => rfl⟩, ⟨⟨?_, ?_⟩, (hB.setCell (by simp) _).drew⟩⟩
      · rw [cell_drew_own, World.cell?_setCell_same' _ _ _ (by rw [hc]; rfl), HNEW.out]
      · rw [frozen_drew_own, World.frozen?_setCell]; exact hf
  case done =>
    rintro D ys W hD rfl ⟨⟨hc, hf⟩, hB⟩ hK
    rw [HALL.out] at hc
    obtain ⟨cn, hcn⟩ : ∃ cn, cn = (occs ws f (t - f)).length := ⟨_, rfl⟩
    rw [← hcn] at hc
    have HCN := Lib.hid hcn
    clear hcn
    gi_wp2
    have hK' := (KeepsOthers.setCell W ⟨w.heap.size, 0, Option.none⟩ (.int .i64 cn)).same D _ hK rfl
    refine ⟨by simp, .inl ⟨_, _, rfl, run_takeDeferred hK', ?_⟩⟩
    have hc5 := cell_kept (World.cell?_setCell_same' W ⟨w.heap.size, 0, Option.none⟩ (.int .i64 cn) (by rw [hc]; rfl)) (grownBy_putObj' _ D (.deferred Option.none)) (fun r e => by cases e; exact ⟨_, hK', rfl⟩)
    refine ⟨.tuple #[.int .i64 cn, .int .i64 0], by simp [results, Try.results55, go_sem, hc5], by rw [HCN.out], ?_⟩
    exact (hB.setCell (by simp) _).trans (belowK_b (w := w) (Nat.le_refl _) _ D _ _ (by omega) hK' rfl rfl)
  case stop =>
    rintro D c pre W hD hpre ⟨h, hB⟩ hK
    exact h.elim

set_option maxRecDepth 100000 in
set_option maxHeartbeats 1000000 in
theorem Count_any (a : Option Addr) (ca : Nat) (ws : List Int) (n f t : Int) (w : World) (hu : U64 ws) (hr : Rd .u64 w a ws) (hl : ws.length ≤ 100000) :
    Calls Try.prog 55 #[.slice a ws.length ca, .int .i64 n, .int .i64 f, .int .i64 t] w fun e w' => e = .returned (.tuple #[.int .i64 (cntV ws n f t).1, .int .i64 (cntV ws n f t).2]) ∧ Below w.heap.size w w' := by
  by_cases hv : askV ws n (inB n f t) = 0
  · obtain ⟨hc, hb⟩ := askV_ok hv
    obtain ⟨m, rfl, hm, hlen, _⟩ := chkV_ok hc
    obtain ⟨h0, h1, h2⟩ := inB_iff.1 hb
    obtain ⟨f, rfl⟩ := Int.eq_ofNat_of_zero_le h0
    obtain ⟨t, rfl⟩ := Int.eq_ofNat_of_zero_le (show 0 ≤ t by omega)
    rw [show cntV ws (m : Int) (f : Int) (t : Int) = (((occs ws f (t - f)).length : Int), 0) by unfold cntV; rw [if_pos hv, Int.toNat_natCast, show ((t : Int) - (f : Int)).toNat = t - f by omega]]
    exact count_ok a ca ws m f t w hu hr hl hv
  · rw [show cntV ws n f t = (0, askV ws n (inB n f t)) from if_neg hv]
    have hb0 : Below w.heap.size w (w.alloc (.cells #[.int .i64 0] 3)) := (Below.refl _ w).alloc (Nat.le_refl _) _
    have HA1 := Lib.hid (asked_any a ca ws n (inB n f t) (w.alloc (.cells #[.int .i64 0] 3)) hu (hr.mono hb0 (Nat.le_refl _)) hl)
    have HB0 := Lib.hid hb0
    generalize hc : askV ws n (inB n f t) = c at *
    clear hu hr hc hb0
    by_cases h0 : 0 ≤ f
    · by_cases h1 : f ≤ t
      · by_cases h2 : t ≤ n
        · rw [inB_iff.2 ⟨h0, h1, h2⟩] at HA1
          go_enter Try.func55, Try.ntmps55
          go_wp2_with fail
          refine HA1.out.mono ?_
          rintro e w' ⟨rfl, rfl⟩
          go_wp2
          exact bodyPost_ret (v := .tuple #[.int .i64 0, .int .i64 c]) (by simp [results, Try.results55, go_sem]) rfl ⟨rfl, HB0.out⟩
        · rw [show inB n f t = false by rw [Bool.eq_false_iff]; exact fun g => h2 (inB_iff.1 g).2.2] at HA1
          go_enter Try.func55, Try.ntmps55
          go_wp2_with fail
          refine HA1.out.mono ?_
          rintro e w' ⟨rfl, rfl⟩
          go_wp2
          exact bodyPost_ret (v := .tuple #[.int .i64 0, .int .i64 c]) (by simp [results, Try.results55, go_sem]) rfl ⟨rfl, HB0.out⟩
      · rw [show inB n f t = false by rw [Bool.eq_false_iff]; exact fun g => h1 (inB_iff.1 g).2.1] at HA1
        go_enter Try.func55, Try.ntmps55
        go_wp2_with fail
        refine HA1.out.mono ?_
        rintro e w' ⟨rfl, rfl⟩
        go_wp2
        exact bodyPost_ret (v := .tuple #[.int .i64 0, .int .i64 c]) (by simp [results, Try.results55, go_sem]) rfl ⟨rfl, HB0.out⟩
    · rw [show inB n f t = false by rw [Bool.eq_false_iff]; exact fun g => h0 (inB_iff.1 g).1] at HA1
      go_enter Try.func55, Try.ntmps55
      go_wp2_with fail
      refine HA1.out.mono ?_
      rintro e w' ⟨rfl, rfl⟩
      go_wp2
      exact bodyPost_ret (v := .tuple #[.int .i64 0, .int .i64 c]) (by simp [results, Try.results55, go_sem]) rfl ⟨rfl, HB0.out⟩

end Go.Proofs.Ytfdkaahkhgljdaa.Occ
