/- Contracts of the document's answer: Count, Nth, Next, Last. -/
import Derived.Test.YtnfjabohnjbgbaaDoorOcc8
namespace Go.Proofs.YtnfjabohnjbgbaaDoor.Occ
open Go.RowKit Go.Shelf Go.Proofs.YtnfjabohnjbgbaaDoor

def inB (n f t : Int) : Bool := decide (0 ≤ f) && (decide (f ≤ t) && decide (t ≤ n))
theorem inB_iff {n f t : Int} : inB n f t = true ↔ 0 ≤ f ∧ f ≤ t ∧ t ≤ n := by unfold inB; simp only [Bool.and_eq_true, decide_eq_true_eq]
def upB (n s : Int) : Bool := decide (0 ≤ s) && decide (s ≤ n)
theorem upB_iff {n s : Int} : upB n s = true ↔ 0 ≤ s ∧ s ≤ n := by unfold upB; simp only [Bool.and_eq_true, decide_eq_true_eq]
def cntV (ws : List Int) (n f t : Int) : Int × Int := if askV ws n (inB n f t) = 0 then (((occs ws f.toNat (t - f).toNat).length : Int), 0) else (0, askV ws n (inB n f t))
def nthV (ws : List Int) (n k : Int) : Int × Int :=
  if chkV ws n = 0 then (if 0 ≤ k ∧ k < ((occs ws 0 n.toNat).length : Int) then ((((occs ws 0 n.toNat).getD k.toNat 0 : Nat) : Int), 0) else (0, 6)) else (0, chkV ws n)
def firstV (l : List Nat) : Int × Int := if l.length = 0 then (0, 6) else (((l.getD 0 0 : Nat) : Int), 0)
def endV (l : List Nat) : Int × Int := if l.length = 0 then (0, 6) else (((l.getD (l.length - 1) 0 : Nat) : Int), 0)
def nextV (ws : List Int) (n s : Int) : Int × Int := if askV ws n (upB n s) = 0 then firstV (occs ws s.toNat (n - s).toNat) else (0, askV ws n (upB n s))
def lastV (ws : List Int) (n s : Int) : Int × Int := if askV ws n (upB n s) = 0 then endV (occs ws 0 s.toNat) else (0, askV ws n (upB n s))

def zs (l : List Nat) : List Int := l.map (fun x : Nat => (x : Int))
theorem nats_zs (l : List Nat) : nats l = (zs l).map (Value.int .i64) := by unfold nats zs; rw [List.map_map]; rfl
theorem zs_length (l : List Nat) : (zs l).length = l.length := by unfold zs; rw [List.length_map]
theorem zs_getD (l : List Nat) (i : Nat) : (zs l).getD i 0 = ((l.getD i 0 : Nat) : Int) := by
  unfold zs
  simp only [List.getD_eq_getElem?_getD, List.getElem?_map]
  cases l[i]? <;> rfl
/-- The list that was made, as it is read. -/
theorem places_read {w w1 : World} {v : Value} {l : List Nat} (h : w1.ownsRow w.heap.size 3 1 v l.length (nats l)) : ∃ a c, v = .slice a l.length c ∧ Rd .i64 w1 a (zs l) := by
  rw [nats_zs] at h
  obtain ⟨a, c, hv, hn, hr, _⟩ := owns_arg h
  rw [zs_length] at hv
  exact ⟨a, c, hv, hr⟩
/-- Words that may be, and a place that is asked for. -/
theorem ask_bad {ws : List Int} {n : Int} {b : Bool} (hc : chkV ws n = 0) (hb : ¬ b = true) : askV ws n b = 2 := by unfold askV; rw [if_pos hc, if_neg hb]
theorem ask_ok {ws : List Int} {n : Int} {b : Bool} (hc : chkV ws n = 0) (hb : b = true) : askV ws n b = 0 := by unfold askV; rw [if_pos hc, if_pos hb]
theorem ask_chk {ws : List Int} {n : Int} {b : Bool} (hc : ¬ chkV ws n = 0) : askV ws n b = chkV ws n := by unfold askV; rw [if_neg hc]

set_option maxRecDepth 100000 in
set_option maxHeartbeats 1000000 in
theorem refCount_any (a : Option Addr) (ca : Nat) (ws : List Int) (n f t : Int) (w : World) (hu : U64 ws) (hr : Rd .u64 w a ws) (hl : ws.length ≤ 100000) :
    Calls Tryd.prog 10 #[.slice a ws.length ca, .int .i64 n, .int .i64 f, .int .i64 t] w fun e w' => e = .returned (.tuple #[.int .i64 (cntV ws n f t).1, .int .i64 (cntV ws n f t).2]) ∧ Below w.heap.size w w' := by
  have HC := Lib.hid (refCheck_any a ca ws n w hu hr hl)
  by_cases hc : chkV ws n = 0
  · obtain ⟨m, rfl, hm, hlen, _⟩ := chkV_ok hc
    rw [hc] at HC
    by_cases hat : inB (m : Int) f t = true
    · obtain ⟨h0, h1, h2⟩ := inB_iff.1 hat
      obtain ⟨f, rfl⟩ := Int.eq_ofNat_of_zero_le h0
      obtain ⟨t, rfl⟩ := Int.eq_ofNat_of_zero_le (show 0 ≤ t by omega)
      have HV : Hid (cntV ws (m : Int) (f : Int) (t : Int) = (((occs ws f (t - f)).length : Int), 0)) := Lib.hid (by
        unfold cntV; rw [if_pos (ask_ok hc hat), Int.toNat_natCast, show ((t : Int) - (f : Int)).toNat = t - f by omega])
      have HP := Lib.hid (Places_any a ca ws f t w hu hr hl (by omega) (by omega))
      rw [HV.out]
      generalize occs ws f (t - f) = L at *
      clear hu hr hc hat hlen
      go_enter Tryd.func10, Tryd.ntmps10
      go_wp2_with fail
      refine HC.out.mono ?_
      rintro e w' ⟨rfl, rfl⟩
      go_wp2_with fail
      refine HP.out.mono ?_
      rintro e w' ⟨v, rfl, hown, hb⟩
      obtain ⟨a2, c2, rfl, hrd⟩ := places_read hown
      clear hown hrd
      go_wp2
      go_ret2
      exact ⟨rfl, hb⟩
    · have HV : Hid (cntV ws (m : Int) f t = (0, 2)) := Lib.hid (by unfold cntV; rw [ask_bad hc hat]; rfl)
      rw [HV.out]
      have hx : ¬ (0 ≤ f ∧ f ≤ t ∧ t ≤ (m : Int)) := fun g => hat (inB_iff.2 g)
      clear hu hr hc hat hlen HV
      by_cases h0 : f < 0
      · clear hx
        go_enter Tryd.func10, Tryd.ntmps10
        go_wp2_with fail
        refine HC.out.mono ?_
        rintro e w' ⟨rfl, rfl⟩
        go_wp2
        go_ret2
        exact ⟨rfl, Below.refl _ _⟩
      · by_cases h1 : t < f
        · clear hx
          go_enter Tryd.func10, Tryd.ntmps10
          go_wp2_with fail
          refine HC.out.mono ?_
          rintro e w' ⟨rfl, rfl⟩
          go_wp2
          go_ret2
          exact ⟨rfl, Below.refl _ _⟩
        · have h2 : (m : Int) < t := by omega
          clear hx
          go_enter Tryd.func10, Tryd.ntmps10
          go_wp2_with fail
          refine HC.out.mono ?_
          rintro e w' ⟨rfl, rfl⟩
          go_wp2
          go_ret2
          exact ⟨rfl, Below.refl _ _⟩
  · have HV : Hid (cntV ws n f t = (0, chkV ws n)) := Lib.hid (by unfold cntV; rw [ask_chk hc, if_neg hc])
    rw [HV.out]
    clear hu hr HV
    generalize chkV ws n = c at *
    go_enter Tryd.func10, Tryd.ntmps10
    go_wp2_with fail
    refine HC.out.mono ?_
    rintro e w' ⟨rfl, rfl⟩
    go_wp2
    go_ret2
    exact ⟨rfl, Below.refl _ _⟩

set_option maxRecDepth 100000 in
set_option maxHeartbeats 1000000 in
theorem refNth_any (a : Option Addr) (ca : Nat) (ws : List Int) (n k : Int) (w : World) (hu : U64 ws) (hr : Rd .u64 w a ws) (hl : ws.length ≤ 100000) :
    Calls Tryd.prog 12 #[.slice a ws.length ca, .int .i64 n, .int .i64 k] w fun e w' => e = .returned (.tuple #[.int .i64 (nthV ws n k).1, .int .i64 (nthV ws n k).2]) ∧ Below w.heap.size w w' := by
  have HC := Lib.hid (refCheck_any a ca ws n w hu hr hl)
  by_cases hc : chkV ws n = 0
  · obtain ⟨m, rfl, hm, hlen, _⟩ := chkV_ok hc
    rw [hc] at HC
    have HP := Lib.hid (Places_any a ca ws 0 m w hu hr hl (by omega) (by omega))
    rw [Nat.sub_zero] at HP
    have HV : Hid (nthV ws (m : Int) k = if 0 ≤ k ∧ k < ((occs ws 0 m).length : Int) then ((((occs ws 0 m).getD k.toNat 0 : Nat) : Int), 0) else (0, 6)) := Lib.hid (by unfold nthV; rw [if_pos hc, Int.toNat_natCast])
    have hLl := occs_length ws 0 m
    generalize occs ws 0 m = L at *
    rw [HV.out]
    clear hu hr hc hlen HV
    by_cases h0 : k < 0
    · rw [if_neg (by omega)]
      go_enter Tryd.func12, Tryd.ntmps12
      go_wp2_with fail
      refine HC.out.mono ?_
      rintro e w' ⟨rfl, rfl⟩
      go_wp2_with fail
      refine HP.out.mono ?_
      rintro e w' ⟨v, rfl, hown, hb⟩
      obtain ⟨a2, c2, rfl, hrd⟩ := places_read hown
      clear hown hrd
      go_wp2
      go_ret2
      exact ⟨rfl, hb⟩
    · obtain ⟨k, rfl⟩ := Int.eq_ofNat_of_zero_le (show 0 ≤ k by omega)
      by_cases h1 : k < L.length
      · rw [if_pos (by omega), Int.toNat_natCast]
        go_enter Tryd.func12, Tryd.ntmps12
        go_wp2_with fail
        refine HC.out.mono ?_
        rintro e w' ⟨rfl, rfl⟩
        go_wp2_with fail
        refine HP.out.mono ?_
        rintro e w' ⟨v, rfl, hown, hb⟩
        obtain ⟨a2, c2, rfl, hrd⟩ := places_read hown
        obtain ⟨b1, o1, rfl, c1⟩ := Rd.at hrd (Below.refl _ _) (Nat.le_refl _) (show k < (zs L).length by rw [zs_length]; exact h1)
        rw [zs_getD] at c1
        have HB := Lib.hid hb
        clear hown hrd hb
        obtain ⟨x, hx⟩ : ∃ x, x = L.getD k 0 := ⟨_, rfl⟩
        rw [← hx] at c1
        have HX := Lib.hid hx
        clear hx
        go_wp2
        go_ret2
        exact ⟨by rw [← HX.out]; rfl, HB.out⟩
      · rw [if_neg (by omega)]
        have h2 : (L.length : Int) ≤ (k : Int) := by omega
        go_enter Tryd.func12, Tryd.ntmps12
        go_wp2_with fail
        refine HC.out.mono ?_
        rintro e w' ⟨rfl, rfl⟩
        go_wp2_with fail
        refine HP.out.mono ?_
        rintro e w' ⟨v, rfl, hown, hb⟩
        obtain ⟨a2, c2, rfl, hrd⟩ := places_read hown
        clear hown hrd
        go_wp2
        go_ret2
        exact ⟨rfl, hb⟩
  · have HV : Hid (nthV ws n k = (0, chkV ws n)) := Lib.hid (by unfold nthV; rw [if_neg hc])
    rw [HV.out]
    clear hu hr HV
    generalize chkV ws n = c at *
    go_enter Tryd.func12, Tryd.ntmps12
    go_wp2_with fail
    refine HC.out.mono ?_
    rintro e w' ⟨rfl, rfl⟩
    go_wp2
    go_ret2
    exact ⟨rfl, Below.refl _ _⟩

set_option maxRecDepth 100000 in
set_option maxHeartbeats 1000000 in
theorem refNext_any (a : Option Addr) (ca : Nat) (ws : List Int) (n s : Int) (w : World) (hu : U64 ws) (hr : Rd .u64 w a ws) (hl : ws.length ≤ 100000) :
    Calls Tryd.prog 22 #[.slice a ws.length ca, .int .i64 n, .int .i64 s] w fun e w' => e = .returned (.tuple #[.int .i64 (nextV ws n s).1, .int .i64 (nextV ws n s).2]) ∧ Below w.heap.size w w' := by
  have HC := Lib.hid (refCheck_any a ca ws n w hu hr hl)
  by_cases hc : chkV ws n = 0
  · obtain ⟨m, rfl, hm, hlen, _⟩ := chkV_ok hc
    rw [hc] at HC
    by_cases hat : upB (m : Int) s = true
    · obtain ⟨h0, h1⟩ := upB_iff.1 hat
      obtain ⟨s, rfl⟩ := Int.eq_ofNat_of_zero_le h0
      have HP := Lib.hid (Places_any a ca ws s m w hu hr hl (by omega) (by omega))
      have HV : Hid (nextV ws (m : Int) (s : Int) = firstV (occs ws s (m - s))) := Lib.hid (by
        unfold nextV; rw [if_pos (ask_ok hc hat), Int.toNat_natCast, show ((m : Int) - (s : Int)).toNat = m - s by omega])
      have hLl := occs_length ws s (m - s)
      rw [HV.out]
      clear hu hr hc hat hlen HV
      generalize occs ws s (m - s) = L at *
      unfold firstV
      by_cases hz : L.length = 0
      · rw [if_pos hz]
        go_enter Tryd.func22, Tryd.ntmps22
        go_wp2_with fail
        refine HC.out.mono ?_
        rintro e w' ⟨rfl, rfl⟩
        go_wp2_with fail
        refine HP.out.mono ?_
        rintro e w' ⟨v, rfl, hown, hb⟩
        obtain ⟨a2, c2, rfl, hrd⟩ := places_read hown
        have hz2 : (L.length : Int) = 0 := by omega
        clear hown hrd hz
        go_wp2
        go_ret2
        exact ⟨rfl, hb⟩
      · rw [if_neg hz]
        go_enter Tryd.func22, Tryd.ntmps22
        go_wp2_with fail
        refine HC.out.mono ?_
        rintro e w' ⟨rfl, rfl⟩
        go_wp2_with fail
        refine HP.out.mono ?_
        rintro e w' ⟨v, rfl, hown, hb⟩
        obtain ⟨a2, c2, rfl, hrd⟩ := places_read hown
        obtain ⟨b1, o1, rfl, c1⟩ := Rd.at hrd (Below.refl _ _) (Nat.le_refl _) (show 0 < (zs L).length by rw [zs_length]; omega)
        rw [zs_getD] at c1
        have HB := Lib.hid hb
        clear hown hrd hb
        obtain ⟨x, hx⟩ : ∃ x, x = L.getD 0 0 := ⟨_, rfl⟩
        rw [← hx, Nat.add_zero] at c1
        have HX := Lib.hid hx
        clear hx
        go_wp2
        go_ret2
        exact ⟨by rw [← HX.out]; rfl, HB.out⟩
    · have HV : Hid (nextV ws (m : Int) s = (0, 2)) := Lib.hid (by unfold nextV; rw [ask_bad hc hat]; rfl)
      rw [HV.out]
      have hx : ¬ (0 ≤ s ∧ s ≤ (m : Int)) := fun g => hat (upB_iff.2 g)
      clear hu hr hc hat hlen HV
      by_cases h0 : s < 0
      · clear hx
        go_enter Tryd.func22, Tryd.ntmps22
        go_wp2_with fail
        refine HC.out.mono ?_
        rintro e w' ⟨rfl, rfl⟩
        go_wp2
        go_ret2
        exact ⟨rfl, Below.refl _ _⟩
      · have h1 : (m : Int) < s := by omega
        clear hx
        go_enter Tryd.func22, Tryd.ntmps22
        go_wp2_with fail
        refine HC.out.mono ?_
        rintro e w' ⟨rfl, rfl⟩
        go_wp2
        go_ret2
        exact ⟨rfl, Below.refl _ _⟩
  · have HV : Hid (nextV ws n s = (0, chkV ws n)) := Lib.hid (by unfold nextV; rw [ask_chk hc, if_neg hc])
    rw [HV.out]
    clear hu hr HV
    generalize chkV ws n = c at *
    go_enter Tryd.func22, Tryd.ntmps22
    go_wp2_with fail
    refine HC.out.mono ?_
    rintro e w' ⟨rfl, rfl⟩
    go_wp2
    go_ret2
    exact ⟨rfl, Below.refl _ _⟩

set_option maxRecDepth 100000 in
set_option maxHeartbeats 1000000 in
theorem refLast_any (a : Option Addr) (ca : Nat) (ws : List Int) (n s : Int) (w : World) (hu : U64 ws) (hr : Rd .u64 w a ws) (hl : ws.length ≤ 100000) :
    Calls Tryd.prog 24 #[.slice a ws.length ca, .int .i64 n, .int .i64 s] w fun e w' => e = .returned (.tuple #[.int .i64 (lastV ws n s).1, .int .i64 (lastV ws n s).2]) ∧ Below w.heap.size w w' := by
  have HC := Lib.hid (refCheck_any a ca ws n w hu hr hl)
  by_cases hc : chkV ws n = 0
  · obtain ⟨m, rfl, hm, hlen, _⟩ := chkV_ok hc
    rw [hc] at HC
    by_cases hat : upB (m : Int) s = true
    · obtain ⟨h0, h1⟩ := upB_iff.1 hat
      obtain ⟨s, rfl⟩ := Int.eq_ofNat_of_zero_le h0
      have HP := Lib.hid (Places_any a ca ws 0 s w hu hr hl (by omega) (by omega))
      rw [Nat.sub_zero] at HP
      have HV : Hid (lastV ws (m : Int) (s : Int) = endV (occs ws 0 s)) := Lib.hid (by
        unfold lastV; rw [if_pos (ask_ok hc hat), Int.toNat_natCast])
      have hLl := occs_length ws 0 s
      rw [HV.out]
      clear hu hr hc hat hlen HV
      generalize occs ws 0 s = L at *
      unfold endV
      by_cases hz : L.length = 0
      · rw [if_pos hz]
        go_enter Tryd.func24, Tryd.ntmps24
        go_wp2_with fail
        refine HC.out.mono ?_
        rintro e w' ⟨rfl, rfl⟩
        go_wp2_with fail
        refine HP.out.mono ?_
        rintro e w' ⟨v, rfl, hown, hb⟩
        obtain ⟨a2, c2, rfl, hrd⟩ := places_read hown
        have hz2 : (L.length : Int) = 0 := by omega
        clear hown hrd hz
        go_wp2
        go_ret2
        exact ⟨rfl, hb⟩
      · rw [if_neg hz]
        go_enter Tryd.func24, Tryd.ntmps24
        go_wp2_with fail
        refine HC.out.mono ?_
        rintro e w' ⟨rfl, rfl⟩
        go_wp2_with fail
        refine HP.out.mono ?_
        rintro e w' ⟨v, rfl, hown, hb⟩
        obtain ⟨a2, c2, rfl, hrd⟩ := places_read hown
        obtain ⟨b1, o1, rfl, c1⟩ := Rd.at hrd (Below.refl _ _) (Nat.le_refl _) (show L.length - 1 < (zs L).length by rw [zs_length]; omega)
        have hl1 : (L.length : Int) - 1 = ((L.length - 1 : Nat) : Int) := by omega
        have hl2 : L.length - 1 < L.length := by omega
        rw [zs_getD] at c1
        have HB := Lib.hid hb
        clear hown hrd hb
        obtain ⟨x, hx⟩ : ∃ x, x = L.getD (L.length - 1) 0 := ⟨_, rfl⟩
        rw [← hx] at c1
        have HX := Lib.hid hx
        clear hx
        go_wp2
        go_ret2
        exact ⟨by rw [← HX.out]; rfl, HB.out⟩
    · have HV : Hid (lastV ws (m : Int) s = (0, 2)) := Lib.hid (by unfold lastV; rw [ask_bad hc hat]; rfl)
      rw [HV.out]
      have hx : ¬ (0 ≤ s ∧ s ≤ (m : Int)) := fun g => hat (upB_iff.2 g)
      clear hu hr hc hat hlen HV
      by_cases h0 : s < 0
      · clear hx
        go_enter Tryd.func24, Tryd.ntmps24
        go_wp2_with fail
        refine HC.out.mono ?_
        rintro e w' ⟨rfl, rfl⟩
        go_wp2
        go_ret2
        exact ⟨rfl, Below.refl _ _⟩
      · have h1 : (m : Int) < s := by omega
        clear hx
        go_enter Tryd.func24, Tryd.ntmps24
        go_wp2_with fail
        refine HC.out.mono ?_
        rintro e w' ⟨rfl, rfl⟩
        go_wp2
        go_ret2
        exact ⟨rfl, Below.refl _ _⟩
  · have HV : Hid (lastV ws n s = (0, chkV ws n)) := Lib.hid (by unfold lastV; rw [ask_chk hc, if_neg hc])
    rw [HV.out]
    clear hu hr HV
    generalize chkV ws n = c at *
    go_enter Tryd.func24, Tryd.ntmps24
    go_wp2_with fail
    refine HC.out.mono ?_
    rintro e w' ⟨rfl, rfl⟩
    go_wp2
    go_ret2
    exact ⟨rfl, Below.refl _ _⟩

end Go.Proofs.YtnfjabohnjbgbaaDoor.Occ
