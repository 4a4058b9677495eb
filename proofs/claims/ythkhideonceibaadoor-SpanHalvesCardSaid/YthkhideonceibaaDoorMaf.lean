/- Gapped arrays: plain: what is taken and laid. Contracts of package slots and of the document's answer: fits, Great, Is. Contracts of package slots: Check. Contracts of package slots: Check, to its end. -/
import Derived.Test.YthkhideonceibaaDoorMae
set_option linter.unusedSimpArgs false
set_option linter.unusedVariables false
namespace Go.Proofs.YthkhideonceibaaDoor.Slo
open Go.RowKit Go.Proofs.YthkhideonceibaaDoor Go.Proofs.YthkhideonceibaaDoor.Occ Go.Proofs.YthkhideonceibaaDoor.Frac

theorem getD_set (l : List Int) (i j : Nat) (x : Int) (hi : i < l.length) : (l.set i x).getD j 0 = if j = i then x else l.getD j 0 := by
  by_cases h : j = i
  · subst h; simp [List.getD_eq_getElem?_getD, hi]
  · rw [if_neg h]; simp only [List.getD_eq_getElem?_getD]; rw [List.getElem?_set_ne (by omega)]
theorem occs_congr {ws ws' : List Int} {f d : Nat} (h : ∀ t, f ≤ t → t < f + d → occB ws t = occB ws' t) : occs ws f d = occs ws' f d := by
  unfold occs
  apply List.filter_congr
  intro t ht
  rw [List.mem_range'_1] at ht
  exact h t ht.1 ht.2
theorem occs_one (ws : List Int) (a : Nat) : occs ws a 1 = if occB ws a = true then [a] else [] := by
  have := occs_succ ws a 0
  rw [Nat.add_zero] at this
  exact this
theorem occs_split (ws : List Int) (f d a : Nat) (h1 : f ≤ a) (h2 : a < f + d) : occs ws f d = occs ws f (a - f) ++ ((if occB ws a = true then [a] else []) ++ occs ws (a + 1) (f + d - (a + 1))) := by
  have e1 := occs_add ws f (a - f) (1 + (f + d - (a + 1)))
  have e2 := occs_add ws a 1 (f + d - (a + 1))
  rw [show a - f + (1 + (f + d - (a + 1))) = d by omega, show f + (a - f) = a by omega] at e1
  rw [e1, e2, occs_one]
section
variable {ws : List Int} (hu : U64 ws) (a : Nat) (ha : a < 64 * ws.length)
include hu ha
theorem occs_put_in (b : Bool) {f d : Nat} (h1 : f ≤ a) (h2 : a < f + d) : occs (putV ws a b) f d = occs ws f (a - f) ++ ((if b = true then [a] else []) ++ occs ws (a + 1) (f + d - (a + 1))) := by
  rw [occs_split (putV ws a b) f d a h1 h2, putV_occ hu a b ha, if_pos rfl]
  congr 1
  · exact occs_congr fun t h3 h4 => by rw [putV_occ hu a b ha, if_neg (by omega)]
  · congr 1
    exact occs_congr fun t h3 h4 => by rw [putV_occ hu a b ha, if_neg (by omega)]
theorem occs_put_out (b : Bool) {f d : Nat} (h : a < f ∨ f + d ≤ a) : occs (putV ws a b) f d = occs ws f d :=
  occs_congr fun t h3 h4 => by rw [putV_occ hu a b ha, if_neg (by omega)]
theorem occs_put_len (b : Bool) {f d : Nat} (h1 : f ≤ a) (h2 : a < f + d) : (occs (putV ws a b) f d).length + (if occB ws a = true then 1 else 0) = (occs ws f d).length + (if b = true then 1 else 0) := by
  rw [occs_put_in hu a ha b h1 h2, occs_split ws f d a h1 h2]
  cases b <;> cases occB ws a <;> simp <;> omega
end
theorem occs_pos {ws : List Int} {f d a : Nat} (h1 : f ≤ a) (h2 : a < f + d) (ho : occB ws a = true) : 1 ≤ (occs ws f d).length := by
  rw [occs_split ws f d a h1 h2, ho]; simp; omega

def takeV (s : Sl) (a : Nat) : Sl :=
  { s with ws := putV s.ws a false, ks := s.ks.set a 0, vs := s.vs.set a 0, cs := if occB s.ws a = true then s.cs.set (a / s.seg.toNat) (s.cs.getD (a / s.seg.toNat) 0 - 1) else s.cs }
def setV (s : Sl) (a : Nat) (x y : Int) : Sl :=
  { s with ws := putV s.ws a true, ks := s.ks.set a x, vs := s.vs.set a y, cs := s.cs.set (a / s.seg.toNat) (s.cs.getD (a / s.seg.toNat) 0 + 1), laid := IntKind.u64.wrap (s.laid + 1) }
def layV (s : Sl) (a : Nat) (x y : Int) : Sl := setV (takeV s a) a x y

/-- In which segment a slot lies. -/
theorem seg_of {g q n a : Nat} (hg : 4 ≤ g) (hn : n = q * g) (ha : a < n) : a / g < q ∧ a / g * g ≤ a ∧ a < a / g * g + g := by
  have h1 := Nat.div_add_mod a g
  have h2 := Nat.mod_lt a (show 0 < g by omega)
  rw [Nat.mul_comm] at h1
  refine ⟨?_, by omega, by omega⟩
  rw [Nat.div_lt_iff_lt_mul (by omega)]; omega
theorem seg_out {g a k : Nat} (hg : 4 ≤ g) (hk : k ≠ a / g) : a < k * g ∨ k * g + g ≤ a := by
  have h1 := Nat.div_add_mod a g
  have h2 := Nat.mod_lt a (show 0 < g by omega)
  rw [Nat.mul_comm] at h1
  rcases Nat.lt_or_ge k (a / g) with h | h
  · right
    have := Nat.mul_le_mul_right g (show k + 1 ≤ a / g from h)
    rw [Nat.succ_mul] at this; omega
  · left
    have := Nat.mul_le_mul_right g (show a / g + 1 ≤ k by omega)
    rw [Nat.succ_mul] at this; omega
theorem Ok.in {s : Sl} {g q a : Nat} (o : Ok s g q) (ha : a < s.ks.length) : a < 64 * s.ws.length := by have := o.w; omega
theorem Ok.take {s : Sl} {g q : Nat} (o : Ok s g q) (hu : U64 s.ws) {a : Nat} (ha : a < s.ks.length) : Ok (takeV s a) g q := by
  have hi := o.in ha
  obtain ⟨h1, h2, h3⟩ := seg_of o.g4 o.n ha
  have hsg : s.seg.toNat = g := by rw [o.seg]; simp
  refine ⟨o.seg, o.g4, o.g64, o.pg, ?_, o.q1, ?_, o.pq, ?_, ?_, ?_, ?_, ?_, ?_⟩
  · show (s.ks.set a 0).length = _; rw [List.length_set]; exact o.n
  · show (s.ks.set a 0).length ≤ _; rw [List.length_set]; exact o.n1
  · show (s.vs.set a 0).length = (s.ks.set a 0).length; rw [List.length_set, List.length_set]; exact o.v
  · show (putV s.ws a false).length = ((s.ks.set a 0).length + 63) / 64; rw [List.length_set, putV_length]; exact o.w
  · intro i h4 h5
    have h4 : s.ks.length ≤ i := by have : (s.ks.set a 0).length ≤ i := h4; rwa [List.length_set] at this
    have h5 : i < 64 * s.ws.length := by have : i < 64 * (putV s.ws a false).length := h5; rwa [putV_length] at this
    show occB (putV s.ws a false) i = false
    rw [putV_occ hu a false hi, if_neg (by omega)]; exact o.z i h4 h5
  · show (if occB s.ws a = true then s.cs.set _ _ else s.cs).length = q
    split
    · rw [List.length_set]; exact o.c
    · exact o.c
  · intro i h4 h5
    have h4 : i < s.ks.length := by have : i < (s.ks.set a 0).length := h4; rwa [List.length_set] at this
    have h5 : occB (putV s.ws a false) i = false := h5
    show (s.ks.set a 0).getD i 0 = 0 ∧ (s.vs.set a 0).getD i 0 = 0
    rw [getD_set _ _ _ _ ha, getD_set _ _ _ _ (by rw [o.v]; exact ha)]
    by_cases hia : i = a
    · rw [if_pos hia, if_pos hia]; exact ⟨rfl, rfl⟩
    · rw [if_neg hia, if_neg hia]
      rw [putV_occ hu a false hi, if_neg hia] at h5
      exact o.blank i h4 h5
  · intro k hk
    show (if occB s.ws a = true then s.cs.set (a / s.seg.toNat) (s.cs.getD (a / s.seg.toNat) 0 - 1) else s.cs).getD k 0 = ((occs (putV s.ws a false) (k * g) g).length : Int)
    rw [hsg]
    by_cases hka : k = a / g
    · subst hka
      have e1 := occs_put_len hu a hi false h2 h3
      have e2 := o.cnt (a / g) hk
      simp only [Bool.false_eq_true, if_false, Nat.add_zero] at e1
      by_cases ho : occB s.ws a = true
      · rw [if_pos ho, getD_set _ _ _ _ (by rw [o.c]; exact h1), if_pos rfl, e2]
        rw [if_pos ho] at e1; omega
      · rw [if_neg ho, e2]
        rw [if_neg ho] at e1; omega
    · rw [occs_put_out hu a hi false (seg_out o.g4 hka)]
      split
      · rw [getD_set _ _ _ _ (by rw [o.c]; exact h1), if_neg hka]; exact o.cnt k hk
      · exact o.cnt k hk
theorem Ok.set {s : Sl} {g q : Nat} (o : Ok s g q) (hu : U64 s.ws) {a : Nat} (ha : a < s.ks.length) (x y : Int) (hf : occB s.ws a = false) : Ok (setV s a x y) g q := by
  have hi := o.in ha
  obtain ⟨h1, h2, h3⟩ := seg_of o.g4 o.n ha
  have hsg : s.seg.toNat = g := by rw [o.seg]; simp
  refine ⟨o.seg, o.g4, o.g64, o.pg, ?_, o.q1, ?_, o.pq, ?_, ?_, ?_, ?_, ?_, ?_⟩
  · show (s.ks.set a x).length = _; rw [List.length_set]; exact o.n
  · show (s.ks.set a x).length ≤ _; rw [List.length_set]; exact o.n1
  · show (s.vs.set a y).length = (s.ks.set a x).length; rw [List.length_set, List.length_set]; exact o.v
  · show (putV s.ws a true).length = ((s.ks.set a x).length + 63) / 64; rw [List.length_set, putV_length]; exact o.w
  · intro i h4 h5
    have h4 : s.ks.length ≤ i := by have : (s.ks.set a x).length ≤ i := h4; rwa [List.length_set] at this
    have h5 : i < 64 * s.ws.length := by have : i < 64 * (putV s.ws a true).length := h5; rwa [putV_length] at this
    show occB (putV s.ws a true) i = false
    rw [putV_occ hu a true hi, if_neg (by omega)]; exact o.z i h4 h5
  · show (s.cs.set _ _).length = q
    rw [List.length_set]; exact o.c
  · intro i h4 h5
    have h4 : i < s.ks.length := by have : i < (s.ks.set a x).length := h4; rwa [List.length_set] at this
    have h5 : occB (putV s.ws a true) i = false := h5
    rw [putV_occ hu a true hi] at h5
    show (s.ks.set a x).getD i 0 = 0 ∧ (s.vs.set a y).getD i 0 = 0
    rw [getD_set _ _ _ _ ha, getD_set _ _ _ _ (by rw [o.v]; exact ha)]
    by_cases hia : i = a
    · rw [if_pos hia] at h5; cases h5
    · rw [if_neg hia, if_neg hia]
      rw [if_neg hia] at h5
      exact o.blank i h4 h5
  · intro k hk
    show (s.cs.set (a / s.seg.toNat) (s.cs.getD (a / s.seg.toNat) 0 + 1)).getD k 0 = ((occs (putV s.ws a true) (k * g) g).length : Int)
    rw [hsg, getD_set _ _ _ _ (by rw [o.c]; exact h1)]
    by_cases hka : k = a / g
    · subst hka
      have e1 := occs_put_len hu a hi true h2 h3
      have e2 := o.cnt (a / g) hk
      rw [hf] at e1
      simp only [Bool.false_eq_true, if_false, if_true, Nat.add_zero] at e1
      rw [if_pos rfl, e2, e1]; omega
    · rw [occs_put_out hu a hi true (seg_out o.g4 hka), if_neg hka]; exact o.cnt k hk
theorem take_u {s : Sl} (hu : U64 s.ws) (a : Nat) : U64 (takeV s a).ws := putV_u64 hu a false
theorem set_u {s : Sl} (hu : U64 s.ws) (a : Nat) (x y : Int) : U64 (setV s a x y).ws := putV_u64 hu a true
theorem take_len {s : Sl} (a : Nat) : (takeV s a).ks.length = s.ks.length := List.length_set
theorem set_len {s : Sl} (a : Nat) (x y : Int) : (setV s a x y).ks.length = s.ks.length := List.length_set
theorem take_occ {s : Sl} {g q : Nat} (o : Ok s g q) (hu : U64 s.ws) {a : Nat} (ha : a < s.ks.length) (i : Nat) : occB (takeV s a).ws i = if i = a then false else occB s.ws i := putV_occ hu a false (o.in ha) i
theorem set_occ {s : Sl} {g q : Nat} (o : Ok s g q) (hu : U64 s.ws) {a : Nat} (ha : a < s.ks.length) (x y : Int) (i : Nat) : occB (setV s a x y).ws i = if i = a then true else occB s.ws i := putV_occ hu a true (o.in ha) i
theorem Ok.lay {s : Sl} {g q : Nat} (o : Ok s g q) (hu : U64 s.ws) {a : Nat} (ha : a < s.ks.length) (x y : Int) : Ok (layV s a x y) g q :=
  (o.take hu ha).set (take_u hu a) (by rw [take_len]; exact ha) x y (by rw [take_occ o hu ha, if_pos rfl])
theorem Ok.ok {s : Sl} {g q : Nat} (o : Ok s g q) : okS s = true := okS_iff.2 ⟨g, q, o⟩
/-- A count of one that may be: not too great; and not none, where a slot is occupied. -/
theorem Ok.count {s : Sl} {g q : Nat} (o : Ok s g q) {a : Nat} (ha : a < s.ks.length) : 0 ≤ s.cs.getD (a / g) 0 ∧ s.cs.getD (a / g) 0 ≤ 64 ∧ (occB s.ws a = true → 1 ≤ s.cs.getD (a / g) 0) := by
  obtain ⟨h1, h2, h3⟩ := seg_of o.g4 o.n ha
  rw [o.cnt _ h1]
  have := occs_length s.ws (a / g * g) g
  have := o.g64
  exact ⟨by omega, by omega, fun ho => by have := occs_pos h2 h3 ho; omega⟩
/-- Its numbers fit still. -/
theorem Ok.wf {s : Sl} {g q : Nat} (o : Ok s g q) (hu : U64 s.ws) (hl : 0 ≤ s.laid ∧ s.laid < 18446744073709551616) : s.Wf := by
  have h1 := o.n1
  have h2 := o.w
  have h3 := o.v
  have h4 := o.g4
  have h5 := o.c
  have h6 := o.n
  have h7 : q ≤ q * g := Nat.le_mul_of_pos_right q (by omega)
  exact ⟨by rw [o.seg]; have := o.g64; simp [Lit.wf, IntKind.min, IntKind.max, IntKind.signed, IntKind.bits]; omega, hu, hl, by omega, by omega, by omega, by omega⟩
end Go.Proofs.YthkhideonceibaaDoor.Slo

namespace Go.Proofs.YthkhideonceibaaDoor.Slo
open Go.RowKit Go.Proofs.YthkhideonceibaaDoor Go.Proofs.YthkhideonceibaaDoor.Occ Go.Proofs.YthkhideonceibaaDoor.Frac
attribute [local go_sem] sval

set_option maxRecDepth 100000 in
set_option maxHeartbeats 1000000 in
theorem fits_any (g n : Int) (w : World) (wg : (Lit.int .i64 g).wf = true) (wn : (Lit.int .i64 n).wf = true) :
    Calls Tryd.prog 51 #[.int .i64 g, .int .i64 n] w fun e w' => e = .returned (.bool (fitsB g n)) ∧ w = w' := by
  have HG := Lib.hid (power_any g w wg)
  have bn := bd64 wn
  clear wg wn
  by_cases h1 : 4 ≤ g
  · by_cases h2 : g ≤ 64
    · by_cases h3 : powB g = true
      · by_cases h4 : g ≤ n
        · by_cases h5 : n ≤ 65536
          · have t1 : n.tmod g = n % g := Int.tmod_eq_emod_of_nonneg (by omega)
            have t2 : n.tdiv g = n / g := Int.tdiv_eq_ediv_of_nonneg (by omega)
            have g0 : g ≠ 0 := by omega
            have g1 : (g == 0) = false := by rw [beq_eq_false_iff_ne]; exact g0
            have q1 : 0 ≤ n / g := Int.ediv_nonneg (by omega) (by omega)
            have q2 : n / g ≤ n := Int.ediv_le_self _ (by omega)
            have m1 : 0 ≤ n % g := Int.emod_nonneg _ g0
            have m2 : n % g < g := Int.emod_lt_of_pos _ (by omega)
            have HQ := Lib.hid (power_any (n / g) w (by simp [Lit.wf, IntKind.min, IntKind.max, IntKind.signed, IntKind.bits]; omega))
            by_cases h6 : n % g = 0
            · have HV : Hid (fitsB g n = powB (n / g)) := Lib.hid (by unfold fitsB; simp [h1, h2, h3, h4, h5, h6])
              have w1 : IntKind.i64.wrap (n / g) = n / g := by rw [IntKind.wrap_i64]; omega
              rw [HV.out]
              rw [h3] at HG
              rw [h6] at t1
              clear h6 m1 m2 HV
              generalize n / g = q at *
              generalize powB q = b at *
              go_enter Tryd.func51, Tryd.ntmps51
              go_wp2_with fail
              refine HG.out.mono ?_
              rintro e w' ⟨rfl, rfl⟩
              go_wp2_with fail
              refine HQ.out.mono ?_
              rintro e w' ⟨rfl, rfl⟩
              go_wp2
              go_ret
              exact ⟨rfl, rfl⟩
            · have HV : Hid (fitsB g n = false) := Lib.hid (by unfold fitsB; simp [h6])
              have w1 : IntKind.i64.wrap (n % g) = n % g := by rw [IntKind.wrap_i64]; omega
              rw [HV.out]
              rw [h3] at HG
              have hne : (n % g == 0) = false := by rw [beq_eq_false_iff_ne]; exact h6
              clear HV q1 q2 HQ t2
              generalize n % g = q at *
              go_enter Tryd.func51, Tryd.ntmps51
              go_wp2_with fail
              refine HG.out.mono ?_
              rintro e w' ⟨rfl, rfl⟩
              go_wp2
              go_ret
              exact ⟨rfl, rfl⟩
          · have HV : Hid (fitsB g n = false) := Lib.hid (by unfold fitsB; simp [h5])
            rw [HV.out]
            rw [h3] at HG
            go_enter Tryd.func51, Tryd.ntmps51
            go_wp2_with fail
            refine HG.out.mono ?_
            rintro e w' ⟨rfl, rfl⟩
            go_wp2
            go_ret
            exact ⟨rfl, rfl⟩
        · have HV : Hid (fitsB g n = false) := Lib.hid (by unfold fitsB; simp [h4])
          rw [HV.out]
          rw [h3] at HG
          go_enter Tryd.func51, Tryd.ntmps51
          go_wp2_with fail
          refine HG.out.mono ?_
          rintro e w' ⟨rfl, rfl⟩
          go_wp2
          go_ret
          exact ⟨rfl, rfl⟩
      · have HV : Hid (fitsB g n = false) := Lib.hid (by unfold fitsB; simp [h3])
        rw [HV.out]
        rw [Bool.not_eq_true] at h3
        rw [h3] at HG
        go_enter Tryd.func51, Tryd.ntmps51
        go_wp2_with fail
        refine HG.out.mono ?_
        rintro e w' ⟨rfl, rfl⟩
        go_wp2
        go_ret
        exact ⟨rfl, rfl⟩
    · have HV : Hid (fitsB g n = false) := Lib.hid (by unfold fitsB; simp [h2])
      rw [HV.out]
      go_enter Tryd.func51, Tryd.ntmps51
      go_wp2
      go_ret
      exact ⟨rfl, rfl⟩
  · have HV : Hid (fitsB g n = false) := Lib.hid (by unfold fitsB; simp [h1])
    rw [HV.out]
    go_enter Tryd.func51, Tryd.ntmps51
    go_wp2
    go_ret
    exact ⟨rfl, rfl⟩

set_option maxRecDepth 100000 in
set_option maxHeartbeats 1000000 in
theorem refFits_any (g n : Int) (w : World) (wg : (Lit.int .i64 g).wf = true) (wn : (Lit.int .i64 n).wf = true) :
    Calls Tryd.prog 83 #[.int .i64 g, .int .i64 n] w fun e w' => e = .returned (.bool (fitsB g n)) ∧ w = w' := by
  have HG := Lib.hid (refPower_any g w wg)
  have bn := bd64 wn
  clear wg wn
  by_cases h1 : 4 ≤ g
  · by_cases h2 : g ≤ 64
    · by_cases h3 : powB g = true
      · by_cases h4 : 1 ≤ n
        · by_cases h5 : n ≤ 65536
          · have t1 : n.tmod g = n % g := Int.tmod_eq_emod_of_nonneg (by omega)
            have t2 : n.tdiv g = n / g := Int.tdiv_eq_ediv_of_nonneg (by omega)
            have g0 : g ≠ 0 := by omega
            have g1 : (g == 0) = false := by rw [beq_eq_false_iff_ne]; exact g0
            have q1 : 0 ≤ n / g := Int.ediv_nonneg (by omega) (by omega)
            have q2 : n / g ≤ n := Int.ediv_le_self _ (by omega)
            have m1 : 0 ≤ n % g := Int.emod_nonneg _ g0
            have m2 : n % g < g := Int.emod_lt_of_pos _ (by omega)
            have HQ := Lib.hid (refPower_any (n / g) w (by simp [Lit.wf, IntKind.min, IntKind.max, IntKind.signed, IntKind.bits]; omega))
            by_cases h6 : n % g = 0
            · have HV : Hid (fitsB g n = powB (n / g)) := Lib.hid (by
                have h7 : g ≤ n := by
                  rcases Int.lt_or_le n g with h | h
                  · rw [Int.emod_eq_of_lt (by omega) h] at h6; omega
                  · exact h
                unfold fitsB; simp [h1, h2, h3, h7, h5, h6])
              have w1 : IntKind.i64.wrap (n / g) = n / g := by rw [IntKind.wrap_i64]; omega
              rw [HV.out]
              rw [h3] at HG
              rw [h6] at t1
              clear h6 m1 m2 HV
              generalize n / g = q at *
              generalize powB q = b at *
              go_enter Tryd.func83, Tryd.ntmps83
              go_wp2_with fail
              refine HG.out.mono ?_
              rintro e w' ⟨rfl, rfl⟩
              go_wp2_with fail
              refine HQ.out.mono ?_
              rintro e w' ⟨rfl, rfl⟩
              go_wp2
              go_ret
              exact ⟨rfl, rfl⟩
            · have HV : Hid (fitsB g n = false) := Lib.hid (by unfold fitsB; simp [h6])
              have w1 : IntKind.i64.wrap (n % g) = n % g := by rw [IntKind.wrap_i64]; omega
              rw [HV.out]
              rw [h3] at HG
              have hne : (n % g == 0) = false := by rw [beq_eq_false_iff_ne]; exact h6
              clear HV q1 q2 HQ t2
              generalize n % g = q at *
              go_enter Tryd.func83, Tryd.ntmps83
              go_wp2_with fail
              refine HG.out.mono ?_
              rintro e w' ⟨rfl, rfl⟩
              go_wp2
              go_ret
              exact ⟨rfl, rfl⟩
          · have HV : Hid (fitsB g n = false) := Lib.hid (by unfold fitsB; simp [h5])
            rw [HV.out]
            rw [h3] at HG
            go_enter Tryd.func83, Tryd.ntmps83
            go_wp2_with fail
            refine HG.out.mono ?_
            rintro e w' ⟨rfl, rfl⟩
            go_wp2
            go_ret
            exact ⟨rfl, rfl⟩
        · have HV : Hid (fitsB g n = false) := Lib.hid (by unfold fitsB; simp [show ¬ g ≤ n by omega])
          rw [HV.out]
          rw [h3] at HG
          go_enter Tryd.func83, Tryd.ntmps83
          go_wp2_with fail
          refine HG.out.mono ?_
          rintro e w' ⟨rfl, rfl⟩
          go_wp2
          go_ret
          exact ⟨rfl, rfl⟩
      · have HV : Hid (fitsB g n = false) := Lib.hid (by unfold fitsB; simp [h3])
        rw [HV.out]
        rw [Bool.not_eq_true] at h3
        rw [h3] at HG
        go_enter Tryd.func83, Tryd.ntmps83
        go_wp2_with fail
        refine HG.out.mono ?_
        rintro e w' ⟨rfl, rfl⟩
        go_wp2
        go_ret
        exact ⟨rfl, rfl⟩
    · have HV : Hid (fitsB g n = false) := Lib.hid (by unfold fitsB; simp [h2])
      rw [HV.out]
      go_enter Tryd.func83, Tryd.ntmps83
      go_wp2
      go_ret
      exact ⟨rfl, rfl⟩
  · have HV : Hid (fitsB g n = false) := Lib.hid (by unfold fitsB; simp [h1])
    rw [HV.out]
    go_enter Tryd.func83, Tryd.ntmps83
    go_wp2
    go_ret
    exact ⟨rfl, rfl⟩

set_option maxRecDepth 100000 in
set_option maxHeartbeats 1000000 in
theorem Great_any (s : Sl) (h : Hd) (m : Int) (w : World) :
    Calls Tryd.prog 9 #[sval s h, .int .i64 m] w fun e w' => e = .returned (.bool (greatB s m)) ∧ Below w.heap.size w w' := by
  by_cases h1 : m < s.ks.length
  · have HV : Hid (greatB s m = true) := Lib.hid (by unfold greatB; simp [h1])
    rw [HV.out]
    go_enter Tryd.func9, Tryd.ntmps9
    go_wp2
    go_ret
    exact ⟨rfl, (Below.refl _ _).alloc (Nat.le_refl _) _⟩
  by_cases h2 : m < s.vs.length
  · have HV : Hid (greatB s m = true) := Lib.hid (by unfold greatB; simp [h2])
    rw [HV.out]
    go_enter Tryd.func9, Tryd.ntmps9
    go_wp2
    go_ret
    exact ⟨rfl, (Below.refl _ _).alloc (Nat.le_refl _) _⟩
  by_cases h3 : m < s.ws.length
  · have HV : Hid (greatB s m = true) := Lib.hid (by unfold greatB; simp [h3])
    rw [HV.out]
    go_enter Tryd.func9, Tryd.ntmps9
    go_wp2
    go_ret
    exact ⟨rfl, (Below.refl _ _).alloc (Nat.le_refl _) _⟩
  have HV : Hid (greatB s m = decide (m < s.cs.length)) := Lib.hid (by unfold greatB; simp [h1, h2, h3])
  rw [HV.out]
  go_enter Tryd.func9, Tryd.ntmps9
  go_wp2
  go_ret
  exact ⟨rfl, (Below.refl _ _).alloc (Nat.le_refl _) _⟩
end Go.Proofs.YthkhideonceibaaDoor.Slo

namespace Go.Proofs.YthkhideonceibaaDoor.Slo
open Go.RowKit Go.Sort Go.Proofs.YthkhideonceibaaDoor Go.Proofs.YthkhideonceibaaDoor.Occ Go.Proofs.YthkhideonceibaaDoor.Frac
attribute [local go_sem] sval

/-- The cells of a struct of six that was laid into a new block. -/
theorem box6 {w wr : World} {v0 v1 v2 v3 v4 v5 : Value} {t : TypeId} (h : Below (w.heap.size + 1) (w.alloc (.cells #[v0, v1, v2, v3, v4, v5] t)) wr) :
    wr.cell? ⟨w.heap.size, 0, Option.none⟩ = some v0 ∧ wr.cell? ⟨w.heap.size, 1, Option.none⟩ = some v1 ∧ wr.cell? ⟨w.heap.size, 2, Option.none⟩ = some v2 ∧
    wr.cell? ⟨w.heap.size, 3, Option.none⟩ = some v3 ∧ wr.cell? ⟨w.heap.size, 4, Option.none⟩ = some v4 ∧ wr.cell? ⟨w.heap.size, 5, Option.none⟩ = some v5 := by
  have H : ∀ j u, [v0, v1, v2, v3, v4, v5][j]? = some u → wr.cell? ⟨w.heap.size, j, Option.none⟩ = some u := fun j u hj => by
    rw [h.cell (p := ⟨w.heap.size, j, Option.none⟩) (by show w.heap.size < w.heap.size + 1; omega)]
    have := new_cells w t #[v0, v1, v2, v3, v4, v5] j u (by simpa using hj)
    rwa [Addr.add_lit, Nat.zero_add] at this
  exact ⟨H 0 _ rfl, H 1 _ rfl, H 2 _ rfl, H 3 _ rfl, H 4 _ rfl, H 5 _ rfl⟩

/-- Why one may not be. -/
theorem okS_no {s : Sl} (h : ¬ (fitsB s.seg s.ks.length = true ∧ s.vs.length = s.ks.length ∧ mayB s.ws s.ks.length = true ∧ s.cs.length = s.ks.length / s.seg.toNat)) : okS s = false := by
  rw [Bool.eq_false_iff]
  intro g
  unfold okS at g
  simp only [Bool.and_eq_true, decide_eq_true_eq] at g
  exact h ⟨g.1, g.2.1, g.2.2.1, g.2.2.2.1⟩
theorem okS_blank {s : Sl} {i : Nat} (hi : i < s.ks.length) (ho : occB s.ws i = false) (h : ¬ (s.ks.getD i 0 = 0 ∧ s.vs.getD i 0 = 0)) : okS s = false := by
  rw [Bool.eq_false_iff]
  intro g
  obtain ⟨_, _, o⟩ := okS_iff.1 g
  exact h (o.blank i hi ho)
theorem okS_cnt {s : Sl} {k g : Nat} (hg : s.seg = (g : Int)) (hk : k < s.cs.length) (h : ¬ ((occs s.ws (k * g) g).length : Int) = s.cs.getD k 0) : okS s = false := by
  rw [Bool.eq_false_iff]
  intro h1
  unfold okS at h1
  simp only [Bool.and_eq_true] at h1
  have := cntB_iff.1 h1.2.2.2.2.2 k hk
  rw [hg, Int.toNat_natCast] at this
  exact h this.symm
theorem okS_yes {s : Sl} (h : fitsB s.seg s.ks.length = true ∧ s.vs.length = s.ks.length ∧ mayB s.ws s.ks.length = true ∧ s.cs.length = s.ks.length / s.seg.toNat)
    (hb : ∀ i, i < s.ks.length → occB s.ws i = false → s.ks.getD i 0 = 0 ∧ s.vs.getD i 0 = 0) {g : Nat} (hg : s.seg = (g : Int)) (hc : ∀ k, k < s.cs.length → ((occs s.ws (k * g) g).length : Int) = s.cs.getD k 0) : okS s = true := by
  unfold okS
  simp only [Bool.and_eq_true, decide_eq_true_eq]
  exact ⟨h.1, h.2.1, h.2.2.1, h.2.2.2, blankB_iff.2 hb, cntB_iff.2 fun k hk => by rw [hg, Int.toNat_natCast]; exact (hc k hk).symm⟩

/-- What is told when the first tests are passed. -/
structure Pre (s : Sl) (g q : Nat) : Prop where
  seg : s.seg = (g : Int)
  g4 : 4 ≤ g
  g64 : g ≤ 64
  n : s.ks.length = q * g
  n1 : s.ks.length ≤ 65536
  v : s.vs.length = s.ks.length
  may : mayB s.ws s.ks.length = true
  w : s.ws.length = (s.ks.length + 63) / 64
  c : s.cs.length = q
theorem pre_of {s : Sl} (h : fitsB s.seg s.ks.length = true ∧ s.vs.length = s.ks.length ∧ mayB s.ws s.ks.length = true ∧ s.cs.length = s.ks.length / s.seg.toNat) : ∃ g q, Pre s g q := by
  obtain ⟨hf, hv, hm, hc⟩ := h
  obtain ⟨g, hg⟩ := Int.eq_ofNat_of_zero_le (show 0 ≤ s.seg by have := (fitsB_iff.1 hf).1; omega)
  rw [hg] at hf
  obtain ⟨h1, h2, h3, q, h4, h5, h6, h7, h8⟩ := fits_nat hf
  rw [hg, Int.toNat_natCast, h6] at hc
  exact ⟨g, q, hg, h1, h2, h4, h3, hv, hm, (mayB_iff.1 hm).1, hc⟩
theorem cnt_seg {s : Sl} {g q : Nat} (p : Pre s g q) {k : Nat} (hk : k < q) : k * g + g ≤ s.ks.length ∧ cntV s.ws (s.ks.length : Int) ((k * g : Nat) : Int) ((k * g + g : Nat) : Int) = (((occs s.ws (k * g) g).length : Int), 0) := by
  have h1 : (k + 1) * g ≤ q * g := Nat.mul_le_mul_right _ hk
  have e1 : (k + 1) * g = k * g + g := Nat.succ_mul _ _
  have h2 := p.n
  have h3 := p.n1
  refine ⟨by omega, ?_⟩
  unfold cntV
  have hc : chkV s.ws (s.ks.length : Int) = 0 := by rw [chkV_in p.n1, if_pos p.may]
  rw [if_pos (ask_ok hc (inB_iff.2 ⟨by omega, by omega, by omega⟩)), Int.toNat_natCast, show (((k * g + g : Nat) : Int) - ((k * g : Nat) : Int)).toNat = g by omega]

theorem ret_i {k : IntKind} {a b : Int} (h : a = b) : Ending.returned (.int k a) = .returned (.int k b) := by rw [h]

set_option maxRecDepth 100000 in
set_option maxHeartbeats 4000000 in
theorem check_no (s : Sl) (h : Hd) (w : World) (W : s.Wf) (R : SRd w s h) (hn : ¬ (fitsB s.seg s.ks.length = true ∧ s.vs.length = s.ks.length ∧ mayB s.ws s.ks.length = true ∧ s.cs.length = s.ks.length / s.seg.toNat)) :
    Calls Tryd.prog 78 #[sval s h] w fun e w' => e = .returned (.int .i64 8) ∧ Below w.heap.size w w' := by
  have HB : Hid (∀ o, Below w.heap.size w (w.alloc o)) := Lib.hid fun o => (Below.refl _ w).alloc (Nat.le_refl _) _
  have HF := Lib.hid (fun w1 => fits_any s.seg s.ks.length w1 W.seg (by have := W.lk; simp [Lit.wf, IntKind.min, IntKind.max, IntKind.signed, IntKind.bits]; omega))
  have HC := Lib.hid (fun w1 (hb : Below w.heap.size w w1) => Check_any h.aw h.cw s.ws s.ks.length w1 W.u (R.fw.mono hb (Nat.le_refl _)) W.lw)
  by_cases h1 : fitsB s.seg s.ks.length = true
  · by_cases h2 : s.vs.length = s.ks.length
    · by_cases h3 : mayB s.ws s.ks.length = true
      · have h4 : ¬ s.cs.length = s.ks.length / s.seg.toNat := fun h4 => hn ⟨h1, h2, h3, h4⟩
        obtain ⟨g, hg⟩ := Int.eq_ofNat_of_zero_le (show 0 ≤ s.seg by have := (fitsB_iff.1 h1).1; omega)
        rw [h1] at HF
        rw [hg] at h1 h4
        obtain ⟨g1, g2, g3, q, g4, g5, g6, _⟩ := fits_nat h1
        rw [Int.toNat_natCast, g6] at h4
        rw [chkV_in g3, if_pos h3] at HC
        have t2 : (s.ks.length : Int).tdiv s.seg = (q : Int) := by rw [Int.tdiv_eq_ediv_of_nonneg (by omega), hg, ← g6]; simp
        have s0 : (s.seg == 0) = false := by rw [beq_eq_false_iff_ne]; omega
        have s1 : s.seg ≠ 0 := by omega
        have n1 : ((s.vs.length : Int) != (s.ks.length : Int)) = false := by simp [h2]
        have n2 : ((s.cs.length : Int) != (q : Int)) = true := by rw [bne_iff_ne]; omega
        have hq : q ≤ 65536 := by rw [← g6]; exact Nat.le_trans (Nat.div_le_self _ _) g3
        have w1 : IntKind.i64.wrap (q : Int) = (q : Int) := by rw [IntKind.wrap_i64]; omega
        clear W R hn h1 h2 h3 h4 g4 g5 g6 hg
        unfold sval
        generalize s.seg = sg at *
        generalize s.ks.length = n at *
        generalize s.vs.length = nv at *
        generalize s.cs.length = nc at *
        generalize s.ws.length = nw at *
        go_enter Tryd.func78, Tryd.ntmps78
        go_wp2
        refine region_qb' _ (w.heap.size + 1) (Below.refl _ _) mixed' (by kernel_rfl) fun w5 hB hz => ?_
        obtain ⟨c0, c1, c2, c3, c4, c5⟩ := box6 hB
        have k0 := cell_regrown c0; have k1 := cell_regrown c1; have k2 := cell_regrown c2; have k3 := cell_regrown c3; have k4 := cell_regrown c4
        have HB5 := Lib.hid (Below.regrown hB (by simpa using hz))
        clear hB c0 c1 c2 c3 c4 c5 hz
        repeat (go_big_quiet_step (first | exact Calls.regrown_of (same_below (HF.out _)) | exact Calls.regrown_of (same_below (HC.out _ ((HB.out _).trans ((HB5.out _ _).mono (Nat.le_succ _)))))))
        refine wpQuiet_nil ?_
        rintro _ ⟨⟨dq, osq⟩, rfl⟩
        have HB6 := Lib.hid (HB5.out dq osq)
        generalize grow (redrawn w5 dq) osq = w6 at *
        clear k0 k1 k2 k3 k4
        go_wp2
        go_ret
        exact ⟨rfl, (HB.out _).trans (HB6.out.mono (Nat.le_succ _))⟩
      · have g3 := (fitsB_iff.1 h1).2.2.2.2.1
        rw [h1] at HF
        rw [chkV_in (by omega), if_neg h3] at HC
        have n1 : ((s.vs.length : Int) != (s.ks.length : Int)) = false := by simp [h2]
        clear W R hn h1 h2 h3 g3
        unfold sval
        generalize s.seg = sg at *
        generalize s.ks.length = n at *
        generalize s.vs.length = nv at *
        generalize s.cs.length = nc at *
        generalize s.ws.length = nw at *
        go_enter Tryd.func78, Tryd.ntmps78
        go_wp2
        refine region_qb' _ (w.heap.size + 1) (Below.refl _ _) mixed' (by kernel_rfl) fun w5 hB hz => ?_
        obtain ⟨c0, c1, c2, c3, c4, c5⟩ := box6 hB
        have k0 := cell_regrown c0; have k1 := cell_regrown c1; have k2 := cell_regrown c2; have k3 := cell_regrown c3; have k4 := cell_regrown c4
        have HB5 := Lib.hid (Below.regrown hB (by simpa using hz))
        clear hB c0 c1 c2 c3 c4 c5 hz
        repeat (go_big_quiet_step (first | exact Calls.regrown_of (same_below (HF.out _)) | exact Calls.regrown_of (same_below (HC.out _ ((HB.out _).trans ((HB5.out _ _).mono (Nat.le_succ _)))))))
        refine wpQuiet_nil ?_
        rintro _ ⟨⟨dq, osq⟩, rfl⟩
        have HB6 := Lib.hid (HB5.out dq osq)
        generalize grow (redrawn w5 dq) osq = w6 at *
        clear k0 k1 k2 k3 k4
        go_wp2
        go_ret
        exact ⟨rfl, (HB.out _).trans (HB6.out.mono (Nat.le_succ _))⟩
    · rw [h1] at HF
      have n1 : ((s.vs.length : Int) != (s.ks.length : Int)) = true := by rw [bne_iff_ne]; omega
      clear W R hn h1 h2
      unfold sval
      generalize s.seg = sg at *
      generalize s.ks.length = n at *
      generalize s.vs.length = nv at *
      generalize s.cs.length = nc at *
      generalize s.ws.length = nw at *
      go_enter Tryd.func78, Tryd.ntmps78
      go_wp2
      refine region_qb' _ (w.heap.size + 1) (Below.refl _ _) mixed' (by kernel_rfl) fun w5 hB hz => ?_
      obtain ⟨c0, c1, c2, c3, c4, c5⟩ := box6 hB
      have k0 := cell_regrown c0; have k1 := cell_regrown c1; have k2 := cell_regrown c2; have k3 := cell_regrown c3; have k4 := cell_regrown c4
      have HB5 := Lib.hid (Below.regrown hB (by simpa using hz))
      clear hB c0 c1 c2 c3 c4 c5 hz
      repeat (go_big_quiet_step (first | exact Calls.regrown_of (same_below (HF.out _)) | exact Calls.regrown_of (same_below (HC.out _ ((HB.out _).trans ((HB5.out _ _).mono (Nat.le_succ _)))))))
      refine wpQuiet_nil ?_
      rintro _ ⟨⟨dq, osq⟩, rfl⟩
      have HB6 := Lib.hid (HB5.out dq osq)
      generalize grow (redrawn w5 dq) osq = w6 at *
      clear k0 k1 k2 k3 k4
      go_wp2
      go_ret
      exact ⟨rfl, (HB.out _).trans (HB6.out.mono (Nat.le_succ _))⟩
  · rw [Bool.not_eq_true] at h1
    rw [h1] at HF
    clear W R hn h1
    unfold sval
    generalize s.seg = sg at *
    generalize s.ks.length = n at *
    generalize s.vs.length = nv at *
    generalize s.cs.length = nc at *
    generalize s.ws.length = nw at *
    go_enter Tryd.func78, Tryd.ntmps78
    go_wp2
    refine region_qb' _ (w.heap.size + 1) (Below.refl _ _) mixed' (by kernel_rfl) fun w5 hB hz => ?_
    obtain ⟨c0, c1, c2, c3, c4, c5⟩ := box6 hB
    have k0 := cell_regrown c0; have k1 := cell_regrown c1; have k2 := cell_regrown c2; have k3 := cell_regrown c3; have k4 := cell_regrown c4
    have HB5 := Lib.hid (Below.regrown hB (by simpa using hz))
    clear hB c0 c1 c2 c3 c4 c5 hz
    repeat (go_big_quiet_step (first | exact Calls.regrown_of (same_below (HF.out _)) | exact Calls.regrown_of (same_below (HC.out _ ((HB.out _).trans ((HB5.out _ _).mono (Nat.le_succ _)))))))
    refine wpQuiet_nil ?_
    rintro _ ⟨⟨dq, osq⟩, rfl⟩
    have HB6 := Lib.hid (HB5.out dq osq)
    generalize grow (redrawn w5 dq) osq = w6 at *
    clear k0 k1 k2 k3 k4
    go_wp2
    go_ret
    exact ⟨rfl, (HB.out _).trans (HB6.out.mono (Nat.le_succ _))⟩
end Go.Proofs.YthkhideonceibaaDoor.Slo

namespace Go.Proofs.YthkhideonceibaaDoor.Slo
open Go.RowKit Go.Sort Go.Proofs.YthkhideonceibaaDoor Go.Proofs.YthkhideonceibaaDoor.Occ Go.Proofs.YthkhideonceibaaDoor.Frac
attribute [local go_sem] sval

theorem bne_int {a b : Int} (h : a = b) : (a != b) = false := by simp [h]
theorem bne_int' {a b : Int} (h : ¬ a = b) : (a != b) = true := by rw [bne_iff_ne]; exact h
theorem occ_and (x k : Nat) (hx : x < 18446744073709551616) : (((x / 2 ^ k % 2 : Nat) : Int) == 0) = !(x.testBit k) := by
  rw [testBit_is]
  rcases Nat.mod_two_eq_zero_or_one (x / 2 ^ k) with h | h <;> rw [h] <;> rfl
set_option maxRecDepth 100000 in
set_option maxHeartbeats 8000000 in
theorem check_yes (s : Sl) (h : Hd) (w : World) (W : s.Wf) (R : SRd w s h) (hy : fitsB s.seg s.ks.length = true ∧ s.vs.length = s.ks.length ∧ mayB s.ws s.ks.length = true ∧ s.cs.length = s.ks.length / s.seg.toNat) :
    Calls Tryd.prog 78 #[sval s h] w fun e w' => e = .returned (.int .i64 (chkS s)) ∧ Below w.heap.size w w' := by
  obtain ⟨g, q, p⟩ := pre_of hy
  have HY := Lib.hid hy
  have HP := Lib.hid p
  have HB : Hid (∀ o, Below w.heap.size w (w.alloc o)) := Lib.hid fun o => (Below.refl _ w).alloc (Nat.le_refl _) _
  have HF := Lib.hid (fun w1 => fits_any s.seg s.ks.length w1 W.seg (by have := W.lk; simp [Lit.wf, IntKind.min, IntKind.max, IntKind.signed, IntKind.bits]; omega))
  have HC := Lib.hid (fun w1 (hb : Below w.heap.size w w1) => Check_any h.aw h.cw s.ws s.ks.length w1 W.u (R.fw.mono hb (Nat.le_refl _)) W.lw)
  have HN := Lib.hid (fun w1 (hb : Below w.heap.size w w1) f t => Count_any h.aw h.cw s.ws s.ks.length f t w1 W.u (R.fw.mono hb (Nat.le_refl _)) W.lw)
  have HR : Hid (∀ w1, Below w.heap.size w w1 → SRd w1 s h) := Lib.hid (fun w1 hb => R.mono hb (Nat.le_refl _))
  rw [hy.1] at HF
  rw [chkV_in p.n1, if_pos p.may] at HC
  have HU := Lib.hid W.u
  have hqn : q ≤ 65536 := by
    have h1 := p.n1
    rw [p.n] at h1
    have := Nat.mul_le_mul_left q p.g4
    omega
  have t2 : (s.ks.length : Int).tdiv s.seg = (q : Int) := by
    rw [Int.tdiv_eq_ediv_of_nonneg (by omega), p.seg, p.n]
    have : (((q * g) / g : Nat) : Int) = (q : Int) := by rw [Nat.mul_div_cancel _ (by have := p.g4; omega)]
    rw [← this]; simp
  have s0 : (s.seg == 0) = false := by rw [beq_eq_false_iff_ne]; have := p.seg; have := p.g4; omega
  have s1 : s.seg ≠ 0 := by have := p.seg; have := p.g4; omega
  have n1 : ((s.vs.length : Int) != (s.ks.length : Int)) = false := by simp [p.v]
  have n2 : ((s.cs.length : Int) != (q : Int)) = false := by simp [p.c]
  have w1 : IntKind.i64.wrap (q : Int) = (q : Int) := by rw [IntKind.wrap_i64]; omega
  have hn0 : s.ks.length ≤ 65536 := p.n1
  have hw0 : s.ks.length ≤ 64 * s.ws.length := by have := p.w; omega
  have hv0 : s.vs.length = s.ks.length := p.v
  have hlw := W.lw
  clear W R hy p
  unfold sval
  have HV0 := Lib.hid hv0
  generalize hsg : s.seg = sg at *
  generalize hn : s.ks.length = n at *
  generalize hnv : s.vs.length = nv at *
  generalize hnc : s.cs.length = nc at *
  generalize hnw : s.ws.length = nw at *
  have HSG := Lib.hid hsg; have HN0 := Lib.hid hn; have HNV := Lib.hid hnv; have HNC := Lib.hid hnc; have HNW := Lib.hid hnw
  clear hsg hn hnv hnc hnw hv0
  go_enter Tryd.func78, Tryd.ntmps78
  go_wp2
  refine region_qb' _ (w.heap.size + 1) (Below.refl _ _) mixed' (by kernel_rfl) fun w5 hB hz => ?_
  obtain ⟨c0, c1, c2, c3, c4, c5⟩ := box6 hB
  have k0 := cell_regrown c0; have k1 := cell_regrown c1; have k2 := cell_regrown c2; have k3 := cell_regrown c3; have k4 := cell_regrown c4
  have HB5 := Lib.hid (Below.regrown hB (by simpa using hz))
  clear hB c0 c1 c2 c3 c4 c5 hz
  repeat (go_big_quiet_step (first | exact Calls.regrown_of (same_below (HF.out _)) | exact Calls.regrown_of (same_below (HC.out _ ((HB.out _).trans ((HB5.out _ _).mono (Nat.le_succ _)))))))
  refine wpQuiet_nil ?_
  rintro _ ⟨⟨dq, osq⟩, rfl⟩
  have HB6 := Lib.hid (HB5.out dq osq)
  generalize grow (redrawn w5 dq) osq = w6 at *
  clear k0 k1 k2 k3 k4 HB5 HC HF n1 n2 t2 w1
  go_wp2
  go_loopw [4, 42] (fun _ i wr => ∃ k : Nat, k ≤ n ∧ i = .int .i64 k ∧ (∀ i, i < k → occB s.ws i = false → s.ks.getD i 0 = 0 ∧ s.vs.getD i 0 = 0) ∧ wr = w6) (fun _ i _ => n - (intOf i).toNat)
  case atStart => exact ⟨0, Nat.zero_le _, rfl, fun i hi => by omega, rfl⟩
  case round =>
    obtain ⟨k, hk, rfl, hall, rfl⟩ := hrel
    have HA := Lib.hid hall
    clear hall
    obtain ⟨c0, c1, c2, c3, c4, c5⟩ := box6 HB6.out
    by_cases hlt : k < n
    · have HR6 := HR.out wr ((HB.out _).trans (HB6.out.mono (Nat.le_succ _)))
      obtain ⟨bw, ow, haw, cw0⟩ := Rd.word HU.out HR6.fw (k / 64) (by rw [HNW.out]; omega)
      obtain ⟨bk, ok, hak, ck0⟩ := Rd.at HR6.fk (Below.refl _ _) (Nat.le_refl _) (show k < s.ks.length by rw [HN0.out]; exact hlt)
      obtain ⟨bv, ov, hav, cv0⟩ := Rd.at HR6.fv (Below.refl _ _) (Nat.le_refl _) (show k < s.vs.length by rw [HNV.out, HV0.out]; exact hlt)
      clear HR6
      rw [haw] at c1
      rw [hak] at c2
      rw [hav] at c3
      have hx := wd_of HU.out (k / 64)
      have hb1 := and_one (wd s.ws (k / 64)) (k % 64) hx
      have ho := occ_and (wd s.ws (k / 64)) (k % 64) hx
      have HO : Hid ((wd s.ws (k / 64)).testBit (k % 64) = occB s.ws k) := Lib.hid rfl
      rw [HO.out] at ho
      have hd : (k : Int) / 64 = ((k / 64 : Nat) : Int) := rfl
      have hm : (k : Int) % 64 = ((k % 64 : Nat) : Int) := rfl
      have hq1 : k / 64 < nw := by omega
      have hnv2 : k < nv := by have := HV0.out; omega
      have HKEY : Hid (∀ (_ : occB s.ws k = false) (_ : ¬ (s.ks.getD k 0 = 0 ∧ s.vs.getD k 0 = 0)), okS s = false) := Lib.hid fun h1 h2 => okS_blank (by rw [HN0.out]; exact hlt) h1 h2
      have HNEXT : Hid (∀ (_ : occB s.ws k = false → s.ks.getD k 0 = 0 ∧ s.vs.getD k 0 = 0), ∀ i, i < k + 1 → occB s.ws i = false → s.ks.getD i 0 = 0 ∧ s.vs.getD i 0 = 0) := Lib.hid fun h i hi => by
        by_cases hik : i = k
        · rw [hik]; exact h
        · exact HA.out i (by omega)
      have hk64 : k % 64 < 64 := Nat.mod_lt _ (by decide)
      clear haw hak hav c0 c4 c5 HO
      generalize wd s.ws (k / 64) = x at *
      generalize k / 64 = kq at *
      generalize k % 64 = km at *
      generalize s.ks.getD k 0 = y at *
      generalize s.vs.getD k 0 = z at *
      generalize x / 2 ^ km % 2 = d at *
      cases hoc : occB s.ws k
      · rw [hoc] at ho HKEY HNEXT
        rw [Bool.not_false] at ho
        by_cases hy0 : y = 0
        · have e1 := bne_int hy0
          by_cases hz0 : z = 0
          · have e2 := bne_int hz0
            have HX := Lib.hid (HNEXT.out (fun _ => ⟨hy0, hz0⟩))
            clear HKEY HNEXT hy0 hz0 hoc
            go_wp2
            go_roundw
            case rel => exact ⟨k + 1, by omega, by go_num, HX.out, trivial⟩
            case measure => simp [intOf]; omega
          · have e2 := bne_int' hz0
            have HX := Lib.hid (HKEY.out rfl (fun h => hz0 h.2))
            clear HKEY HNEXT hz0 hy0 hoc
            go_wp2
            go_ret
            exact ⟨by rw [chkS, HX.out]; rfl, (HB.out _).trans (HB6.out.mono (Nat.le_succ _))⟩
        · have e1 := bne_int' hy0
          have HX := Lib.hid (HKEY.out rfl (fun h => hy0 h.1))
          clear HKEY HNEXT hy0 hoc
          go_wp2
          go_ret
          exact ⟨by rw [chkS, HX.out]; rfl, (HB.out _).trans (HB6.out.mono (Nat.le_succ _))⟩
      · rw [hoc] at ho HKEY HNEXT
        rw [Bool.not_true] at ho
        have HX := Lib.hid (HNEXT.out (fun h => by cases h))
        clear HKEY HNEXT hoc
        go_wp2
        go_roundw
        case rel => exact ⟨k + 1, by omega, by go_num, HX.out, trivial⟩
        case measure => simp [intOf]; omega
    · obtain rfl : k = n := by omega
      obtain ⟨w7, rfl⟩ : ∃ w7 : World, w7 = wr := ⟨_, rfl⟩
      obtain rfl : sg = (g : Int) := by have := HSG.out; have := HP.out.seg; omega
      obtain rfl : nc = q := by have := HNC.out; have := HP.out.c; omega
      have hg4 := HP.out.g4
      have hg64 := HP.out.g64
      have hsz := HB6.out.size
      have HSZ : Hid (w.heap.size + 1 ≤ w7.heap.size) := Lib.hid (by simpa using hsz)
      clear hsz s0 s1 hlt hk c0 c1 c2 c3 c5
      go_wp2
      clear c4
      go_loopw [5, 6, 7, 8, 76] (fun _ _ _ _ i w2 => ∃ j : Nat, j ≤ nc ∧ i = .int .i64 j ∧ (∀ i, i < j → ((occs s.ws (i * g) g).length : Int) = s.cs.getD i 0) ∧ RowKit.Below w7.heap.size w7 w2) (fun _ _ _ _ i _ => nc - (intOf i).toNat)
      case atStart => exact ⟨0, Nat.zero_le _, rfl, fun i hi => by omega, Below.refl _ _⟩
      case round =>
        obtain ⟨j, hj, rfl, hcnt, hbl⟩ := hrel
        have HCN := Lib.hid hcnt
        have HBL := Lib.hid hbl
        clear hcnt hbl
        have HB7 : Hid (RowKit.Below (w.heap.size + 1) _ wr) := Lib.hid (HB6.out.trans (HBL.out.mono HSZ.out))
        by_cases hlt : j < nc
        · obtain ⟨c0, c1, c2, c3, c4, c5⟩ := box6 HB7.out
          have HB8 : Hid (RowKit.Below w.heap.size w wr) := Lib.hid ((HB.out _).trans (HB7.out.mono (Nat.le_succ _)))
          obtain ⟨bc, oc, hac, cc0⟩ := Rd.at (HR.out wr HB8.out).fc (Below.refl _ _) (Nat.le_refl _) (show j < s.cs.length by rw [HNC.out]; exact hlt)
          rw [hac] at c4 ⊢
          obtain ⟨e1, e2⟩ := cnt_seg HP.out hlt
          rw [HN0.out] at e1 e2
          have HCL := Lib.hid (HN.out wr HB8.out ((j * g : Nat) : Int) ((j * g + g : Nat) : Int))
          rw [e2] at HCL
          have HNO : Hid (¬ ((occs s.ws (j * g) g).length : Int) = s.cs.getD j 0 → okS s = false) := Lib.hid fun h => okS_cnt HP.out.seg (by rw [HNC.out]; exact hlt) h
          have HYES : Hid (((occs s.ws (j * g) g).length : Int) = s.cs.getD j 0 → ∀ i, i < j + 1 → ((occs s.ws (i * g) g).length : Int) = s.cs.getD i 0) := Lib.hid fun h i hi => by
            by_cases hij : i = j
            · rw [hij]; exact h
            · exact HCN.out i (by omega)
          have m1 : (j : Int) * (g : Int) = ((j * g : Nat) : Int) := by simp
          have m2 : ((j : Int) + 1) * (g : Int) = ((j * g + g : Nat) : Int) := by rw [← Nat.succ_mul]; simp
          have hmg : j * g + g ≤ 65536 := by omega
          have HOC := Lib.hid (occs_length s.ws (j * g) g)
          clear hac e1 e2 c3 c5
          generalize (occs s.ws (j * g) g).length = L at *
          generalize hG : j * g = G at *
          have HG := Lib.hid hG
          clear hG
          have u1 : IntKind.i64.wrap (G : Int) = (G : Int) := by rw [IntKind.wrap_i64]; omega
          have u2 : IntKind.i64.wrap ((G + g : Nat) : Int) = ((G + g : Nat) : Int) := by rw [IntKind.wrap_i64]; omega
          generalize hT : ((G + g : Nat) : Int) = T at *
          clear hT
          generalize s.cs.getD j 0 = y at *
          by_cases hy0 : (L : Int) = y
          · have e1 := bne_int hy0
            have HX := Lib.hid (HYES.out hy0)
            clear HNO HYES hy0
            go_wp2_with fail
            refine HCL.out.mono ?_
            rintro e w3 ⟨rfl, hb⟩
            have HB9 := Lib.hid (HBL.out.trans (hb.mono HBL.out.size))
            clear hb
            go_wp2
            go_roundw
            case rel => exact ⟨j + 1, by omega, by go_num, HX.out, HB9.out⟩
            case measure => simp [intOf]; omega
          · have e1 := bne_int' hy0
            have HX := Lib.hid (HNO.out hy0)
            clear HNO HYES hy0
            go_wp2_with fail
            refine HCL.out.mono ?_
            rintro e w3 ⟨rfl, hb⟩
            have HB9 := Lib.hid (HB8.out.trans (hb.mono HB8.out.size))
            clear hb
            go_wp2
            go_ret
            exact ⟨by rw [chkS, HX.out]; rfl, HB9.out⟩
        · obtain rfl : j = nc := by omega
          have HOK : Hid (okS s = true) := Lib.hid (okS_yes (by rw [HSG.out, HN0.out, HNV.out, HNC.out]; exact HY.out) (fun i hi => HA.out i (by have := HN0.out; omega)) HP.out.seg (fun k hk => HCN.out k (by have := HNC.out; omega)))
          clear hlt hj
          go_wp2
          go_ret
          exact ⟨by rw [chkS, HOK.out]; rfl, (HB.out _).trans (HB7.out.mono (Nat.le_succ _))⟩
theorem sCheck_any (s : Sl) (h : Hd) (w : World) (W : s.Wf) (R : SRd w s h) :
    Calls Tryd.prog 78 #[sval s h] w fun e w' => e = .returned (.int .i64 (chkS s)) ∧ RowKit.Below w.heap.size w w' := by
  by_cases hy : fitsB s.seg s.ks.length = true ∧ s.vs.length = s.ks.length ∧ mayB s.ws s.ks.length = true ∧ s.cs.length = s.ks.length / s.seg.toNat
  · exact check_yes s h w W R hy
  · have := check_no s h w W R hy
    rwa [show chkS s = 8 by rw [chkS, okS_no hy]; rfl]
end Go.Proofs.YthkhideonceibaaDoor.Slo
