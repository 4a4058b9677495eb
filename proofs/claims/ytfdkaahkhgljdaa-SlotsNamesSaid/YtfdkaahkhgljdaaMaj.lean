/- Contracts of package slots: Move. Package slots, in plain Lean: a part that is filled. Contracts of package slots: Fill. Several 'make's in a region that draws its order: whatever order is picked. No program in sight. Contracts of package slots: new ones. -/
import Derived.Test.YtfdkaahkhgljdaaMai
import Derived.Deep.OwnRows
set_option linter.unusedSimpArgs false
set_option linter.unusedVariables false
namespace Go.Proofs.Ytfdkaahkhgljdaa.Slo
open Go.RowKit Go.Shelf Go.Proofs.Ytfdkaahkhgljdaa Go.Proofs.Ytfdkaahkhgljdaa.Occ Go.Proofs.Ytfdkaahkhgljdaa.Frac
attribute [local go_sem] Oper.semAt_some

theorem is_arr (lo hi p : Nat) (s : Sl) (h : Hd) (g q a : Nat) (w : World) (A : Arr w lo hi p s h) (o : Ok s g q) (hu : U64 s.ws) (ha : a < s.ks.length) :
    Calls Try.prog 63 #[.pointer (some ⟨p, 0, Option.none⟩), .int .i64 a] w fun e w' => e = .returned (.bool (occB s.ws a)) ∧ w = w' := by
  have hi64 : a / 64 < s.ws.length := by have := o.w; omega
  have hav : a < s.vs.length := by rw [o.v]; exact ha
  have hj := (seg_of o.g4 o.n ha).1
  have hjc : a / g < s.cs.length := by rw [o.c]; exact hj
  obtain ⟨aw, cw, ak, ck, av, cv, ac, cc⟩ := h
  obtain ⟨gw, gk, gv, gc, ⟨rfl, rfl, rfl, rfl⟩, ⟨c1, -, -, -⟩, -, -, -⟩ := A.open hi64 ha hav hjc
  rw [wd_int hu (a / 64)] at c1
  exact is_any gw cw s.ws.length p (wd s.ws (a / 64)) (a / 64) (a % 64) a w A.b1 c1 (wd_of hu (a / 64)) hi64 rfl rfl (by have := o.n1; omega)

theorem sval_none : sval noneS noneH = .agg #[.int .i64 0, .slice Option.none 0 0, .slice Option.none 0 0, .slice Option.none 0 0, .slice Option.none 0 0, .int .u64 0] := rfl

def moveSV (s : Sl) (a b : Int) : Sl × Int :=
  if (atV s a).2 ≠ 0 then (noneS, (atV s a).2) else if b < 0 ∨ (s.ks.length : Int) ≤ b then (noneS, 2) else if b ≠ a ∧ occB s.ws b.toNat = true then (noneS, 9)
  else (layV (takeV s a.toNat) b.toNat (pairAt s a.toNat).1 (pairAt s a.toNat).2, 0)

set_option maxRecDepth 100000 in
set_option maxHeartbeats 4000000 in
theorem Move_any (s : Sl) (h : Hd) (a b : Int) (w : World) (W : s.Wf) (R : SRd w s h) :
    Calls Try.prog 32 #[sval s h, .int .i64 a, .int .i64 b] w fun e w' => AnsS (moveSV s a b) w e w' := by
  have HC := Lib.hid (fun w1 (hb : Below w.heap.size w w1) => sAt_any s h a w1 W (R.mono hb (Nat.le_refl _)))
  have HB : Hid (∀ o1 o2, Below w.heap.size w ((w.alloc o1).alloc o2)) := Lib.hid fun o1 o2 => ((Below.refl _ w).alloc (Nat.le_refl _) _).alloc (by simp) _
  have HSET : Hid (∀ (W' : World), Below w.heap.size w W' → ∀ u0 u1 u2 u3 u4 u5 : Value, Below w.heap.size w ((((((W'.setCell ⟨w.heap.size + 1, 0, Option.none⟩ u0).setCell ⟨w.heap.size + 1, 1, Option.none⟩ u1).setCell ⟨w.heap.size + 1, 2, Option.none⟩ u2).setCell ⟨w.heap.size + 1, 3, Option.none⟩ u3).setCell ⟨w.heap.size + 1, 4, Option.none⟩ u4).setCell ⟨w.heap.size + 1, 5, Option.none⟩ u5)) := Lib.hid fun W' hB u0 u1 u2 u3 u4 u5 =>
    (((((hB.setCell (p := ⟨w.heap.size + 1, 0, Option.none⟩) (by simp) u0).setCell (p := ⟨w.heap.size + 1, 1, Option.none⟩) (by simp) u1).setCell (p := ⟨w.heap.size + 1, 2, Option.none⟩) (by simp) u2).setCell (p := ⟨w.heap.size + 1, 3, Option.none⟩) (by simp) u3).setCell (p := ⟨w.heap.size + 1, 4, Option.none⟩) (by simp) u4).setCell (p := ⟨w.heap.size + 1, 5, Option.none⟩) (by simp) u5
  by_cases hv : (atV s a).2 = 0
  · obtain ⟨hask, -, hpv⟩ := atV_ok hv
    obtain ⟨hok, hat⟩ := askS_ok hask
    obtain ⟨h0, h1⟩ := atB_iff.1 hat
    by_cases hr : b < 0 ∨ (s.ks.length : Int) ≤ b
    · have HV : Hid (moveSV s a b = (noneS, 2)) := Lib.hid (by unfold moveSV; rw [if_neg (by simp [hv]), if_pos hr])
      rw [hpv] at HC
      clear hpv hv hok hat h0 h1 hask W R
      generalize (pairAt s a.toNat) = xy at *
      obtain ⟨x, y⟩ := xy
      have HR := Lib.hid hr
      unfold sval at *
      go_enter Try.func32, Try.ntmps32
      go_wp2_with fail
      refine (HC.out _ (HB.out _ _)).mono ?_
      rintro e w1 ⟨rfl, hb⟩
      have HB1 := Lib.hid ((HB.out _ _).trans (hb.mono (HB.out _ _).size))
      have HX1 := Lib.hid (show Below (w.heap.size + 1 + 1) _ w1 by simpa using hb)
      clear hb hr
      obtain ⟨⟨c0, c1, c2, c3, c4, c5⟩, d0, d1, d2, d3, d4, d5⟩ := box66 HX1.out
      have f0 := (box66_frozen HX1.out 0).2; have f1 := (box66_frozen HX1.out 1).2; have f2 := (box66_frozen HX1.out 2).2; have f3 := (box66_frozen HX1.out 3).2; have f4 := (box66_frozen HX1.out 4).2; have f5 := (box66_frozen HX1.out 5).2
      have hz1 : w.heap.size + 1 < w1.heap.size := by have := HX1.out.size; simp at this; omega
      have hz0 : w.heap.size < w1.heap.size := by omega
      have hza : w.heap.size + 1 ≠ w1.heap.size := by omega
      rcases HR.out with hr | hr
      · go_wp2
        refine bodyPost_ret (v := .tuple #[.agg #[.int .i64 0, .slice Option.none 0 0, .slice Option.none 0 0, .slice Option.none 0 0, .slice Option.none 0 0, .int .u64 0], .int .i64 2]) (by simp [results, Try.results32, go_sem, *]) rfl ⟨noneH, by rw [HV.out]; dsimp only; rw [sval_none], by rw [HV.out]; exact noneS_own _ _ _, ?_⟩
        have HQ := HSET.out w1 HB1.out (.int .i64 0) (.slice Option.none 0 0) (.slice Option.none 0 0) (.slice Option.none 0 0) (.slice Option.none 0 0) (.int .u64 0)
        exact HQ.alloc HQ.size _
      · have hr0 : ¬ b < 0 := by omega
        go_wp2
        refine bodyPost_ret (v := .tuple #[.agg #[.int .i64 0, .slice Option.none 0 0, .slice Option.none 0 0, .slice Option.none 0 0, .slice Option.none 0 0, .int .u64 0], .int .i64 2]) (by simp [results, Try.results32, go_sem, *]) rfl ⟨noneH, by rw [HV.out]; dsimp only; rw [sval_none], by rw [HV.out]; exact noneS_own _ _ _, ?_⟩
        have HQ := HSET.out w1 HB1.out (.int .i64 0) (.slice Option.none 0 0) (.slice Option.none 0 0) (.slice Option.none 0 0) (.slice Option.none 0 0) (.int .u64 0)
        exact HQ.alloc HQ.size _
    · have hr1 : 0 ≤ b ∧ b < s.ks.length := by omega
      obtain ⟨a, rfl⟩ := Int.eq_ofNat_of_zero_le h0
      obtain ⟨b, rfl⟩ := Int.eq_ofNat_of_zero_le hr1.1
      obtain ⟨g, q, o⟩ := okS_iff.1 hok
      have ha : a < s.ks.length := by omega
      have hbl : b < s.ks.length := by omega
      have HT := Lib.hid (fun w1 (hb : Below w.heap.size w w1) => sTwin_any s h w1 W (R.mono hb (Nat.le_refl _)) (o.pl R))
      have HIS := Lib.hid (fun lo hi p h w1 (A : Arr w1 lo hi p s h) => is_arr lo hi p s h g q b w1 A o W.u hbl)
      have HTK := Lib.hid (fun lo hi p h w1 (A : Arr w1 lo hi p s h) => take_any lo hi p s h g q a w1 A o W.u ha)
      have HLY := Lib.hid (fun lo hi p h w1 (A : Arr w1 lo hi p (takeV s a) h) => lay_any lo hi p (takeV s a) h g q b (pairAt s a).1 (pairAt s a).2 w1 A (o.take W.u ha) (take_u W.u a) W.laid (by rw [take_len]; exact hbl))
      have HP : Hid ((s.ks.getD a 0 : Int) = (pairAt s a).1 ∧ (s.vs.getD a 0 : Int) = (pairAt s a).2) := Lib.hid ⟨rfl, rfl⟩
      have HV1 : Hid (¬ ((b : Int) ≠ a ∧ occB s.ws b = true) → moveSV s a b = (layV (takeV s a) b (pairAt s a).1 (pairAt s a).2, 0)) := Lib.hid fun hf => by
        unfold moveSV; rw [if_neg (by simp [hv]), if_neg hr, if_neg (by simpa using hf), Int.toNat_natCast, Int.toNat_natCast]
      have HV2 : Hid (((b : Int) ≠ a ∧ occB s.ws b = true) → moveSV s a b = (noneS, 9)) := Lib.hid fun hf => by
        unfold moveSV; rw [if_neg (by simp [hv]), if_neg hr, if_pos (by simpa using hf)]
      rw [hpv, Int.toNat_natCast] at HC
      have hr2 : ¬ (b : Int) < 0 := by omega
      have hr3 : ¬ (s.ks.length : Int) ≤ (b : Int) := by omega
      clear hpv hv hok hat h0 h1 hask W R o hr hr1 ha
      generalize takeV s a = T at *
      generalize (pairAt s a) = xy at *
      obtain ⟨x, y⟩ := xy
      dsimp only at HP
      have hp1 := HP.out.1
      have hp2 := HP.out.2
      rw [hp1, hp2] at HTK
      clear hp1 hp2 HP
      generalize layV T b x y = L at *
      generalize occB s.ws b = ob at *
      unfold sval at *
      go_enter Try.func32, Try.ntmps32
      go_wp2_with fail
      refine (HC.out _ (HB.out _ _)).mono ?_
      rintro e w1 ⟨rfl, hb⟩
      have HB1 := Lib.hid ((HB.out _ _).trans (hb.mono (HB.out _ _).size))
      have HX1 := Lib.hid (show Below (w.heap.size + 1 + 1) _ w1 by simpa using hb)
      clear hb
      obtain ⟨⟨c0, c1, c2, c3, c4, c5⟩, d0, d1, d2, d3, d4, d5⟩ := box66 HX1.out
      clear d0 d1 d2 d3 d4 d5
      have HZ0 : Hid (w.heap.size + 2 ≤ w1.heap.size) := Lib.hid (by have := HX1.out.size; simpa using this)
      have hz1 : w.heap.size < w1.heap.size := by have := HZ0.out; omega
      have HBA : Hid (∀ o, Below w.heap.size w (w1.alloc o)) := Lib.hid fun o => HB1.out.alloc HB1.out.size o
      have HXA : Hid (∀ o, Below (w.heap.size + 1 + 1) w1 (w1.alloc o)) := Lib.hid fun o => (Below.refl _ _).alloc (by have := HZ0.out; omega) o
      go_wp2_with fail
      refine (HT.out _ (HBA.out _)).mono ?_
      rintro e w2 ⟨h2, rfl, hown, hb⟩
      have HB2 := Lib.hid ((HBA.out _).trans (hb.mono (HBA.out _).size))
      have HX2 := Lib.hid ((HX1.out.trans (HXA.out _)).trans (hb.mono (by have := HZ0.out; simp; omega)))
      have hsz := hb.size
      have HA := Lib.hid (arr_new hown hsz 71)
      have HZ : Hid (w.heap.size + 2 ≤ w1.heap.size ∧ w1.heap.size + 1 ≤ w2.heap.size) := Lib.hid ⟨HZ0.out, by simpa using hsz⟩
      clear hown hb hsz c0 c1 c2 c3 c4 c5 HBA HXA HZ0
      by_cases hba : b = a
      · have HV := Lib.hid (HV1.out (by subst hba; simp))
        subst hba
        go_wp2_with fail
        refine (HTK.out _ _ _ _ _ HA.out).mono ?_
        rintro e w3 ⟨rfl, hA3, hk3⟩
        have HA3 := Lib.hid hA3
        have HB3 : Hid (Below w.heap.size w w3) := Lib.hid ((HB2.out.alloc HB2.out.size _).trans (hk3.below.mono (by have := HZ.out; simp; omega)))
        have HX3 := Lib.hid ((HX2.out.alloc (by have := HZ.out; omega) _).trans (hk3.below.mono (by have := HZ.out; simp; omega)))
        have HP3 : Hid (w2.heap.size ≤ w3.heap.size) := Lib.hid (by have := hA3.pl; omega)
        clear hA3 hk3
        go_wp2_with fail
        refine (HLY.out _ _ _ _ _ HA3.out).mono ?_
        rintro e w4 ⟨rfl, hA4, hk4⟩
        have HB4 : Hid (Below w.heap.size w w4) := Lib.hid (HB3.out.trans (hk4.below.mono (by have := HZ.out; simp; omega)))
        have HX4 := Lib.hid (HX3.out.trans (hk4.below.mono (by have := HZ.out; simp; omega)))
        have HO4 := Lib.hid hA4.own
        have b0 := hA4.b0; have b1 := hA4.b1; have b2 := hA4.b2; have b3 := hA4.b3; have b4 := hA4.b4; have b5 := hA4.b5
        have hp : w2.heap.size ≠ w.heap.size + 1 := by have := HZ.out; omega
        have HP4 : Hid (w2.heap.size ≤ w4.heap.size) := Lib.hid (by have := hA4.pl; omega)
        clear hA4 hk4
        obtain ⟨-, d0, d1, d2, d3, d4, d5⟩ := box66 HX4.out
        have f0 := (box66_frozen HX4.out 0).2; have f1 := (box66_frozen HX4.out 1).2; have f2 := (box66_frozen HX4.out 2).2; have f3 := (box66_frozen HX4.out 3).2; have f4 := (box66_frozen HX4.out 4).2; have f5 := (box66_frozen HX4.out 5).2
        go_wp2
        refine bodyPost_ret (v := .tuple #[sval L h2, .int .i64 0]) (by simp [results, Try.results32, sval, go_sem, *]) rfl ⟨h2, by rw [HV.out], ?_, ?_⟩
        · rw [HV.out]
          have hlow : w.heap.size + 1 < w1.heap.size + 1 := by have := HZ.out; omega
          have HO4' := HO4.out
          simp only [World.size_alloc] at HO4'
          exact ((((((HO4'.set_low _ _ hlow).set_low _ _ hlow).set_low _ _ hlow).set_low _ _ hlow).set_low _ _ hlow).set_low _ _ hlow).mono (by have := HZ.out; omega) (by have := HP4.out; simp; omega)
        · exact HSET.out w4 HB4.out _ _ _ _ _ _
      · have hbi : (b : Int) ≠ (a : Int) := by omega
        go_wp2_with fail
        refine (HIS.out _ _ _ _ _ HA.out).mono ?_
        rintro e w3 ⟨rfl, rfl⟩
        cases ob
        · have HV := Lib.hid (HV1.out (by simp))
          go_wp2_with fail
          refine (HTK.out _ _ _ _ _ HA.out).mono ?_
          rintro e w3 ⟨rfl, hA3, hk3⟩
          have HA3 := Lib.hid hA3
          have HB3 : Hid (Below w.heap.size w w3) := Lib.hid ((HB2.out.alloc HB2.out.size _).trans (hk3.below.mono (by have := HZ.out; simp; omega)))
          have HX3 := Lib.hid ((HX2.out.alloc (by have := HZ.out; omega) _).trans (hk3.below.mono (by have := HZ.out; simp; omega)))
          have HP3 : Hid (w2.heap.size ≤ w3.heap.size) := Lib.hid (by have := hA3.pl; omega)
          clear hA3 hk3
          go_wp2_with fail
          refine (HLY.out _ _ _ _ _ HA3.out).mono ?_
          rintro e w4 ⟨rfl, hA4, hk4⟩
          have HB4 : Hid (Below w.heap.size w w4) := Lib.hid (HB3.out.trans (hk4.below.mono (by have := HZ.out; simp; omega)))
          have HX4 := Lib.hid (HX3.out.trans (hk4.below.mono (by have := HZ.out; simp; omega)))
          have HO4 := Lib.hid hA4.own
          have b0 := hA4.b0; have b1 := hA4.b1; have b2 := hA4.b2; have b3 := hA4.b3; have b4 := hA4.b4; have b5 := hA4.b5
          have hp : w2.heap.size ≠ w.heap.size + 1 := by have := HZ.out; omega
          have HP4 : Hid (w2.heap.size ≤ w4.heap.size) := Lib.hid (by have := hA4.pl; omega)
          clear hA4 hk4
          obtain ⟨-, d0, d1, d2, d3, d4, d5⟩ := box66 HX4.out
          have f0 := (box66_frozen HX4.out 0).2; have f1 := (box66_frozen HX4.out 1).2; have f2 := (box66_frozen HX4.out 2).2; have f3 := (box66_frozen HX4.out 3).2; have f4 := (box66_frozen HX4.out 4).2; have f5 := (box66_frozen HX4.out 5).2
          go_wp2
          refine bodyPost_ret (v := .tuple #[sval L h2, .int .i64 0]) (by simp [results, Try.results32, sval, go_sem, *]) rfl ⟨h2, by rw [HV.out], ?_, ?_⟩
          · rw [HV.out]
            have hlow : w.heap.size + 1 < w1.heap.size + 1 := by have := HZ.out; omega
            have HO4' := HO4.out
            simp only [World.size_alloc] at HO4'
            exact ((((((HO4'.set_low _ _ hlow).set_low _ _ hlow).set_low _ _ hlow).set_low _ _ hlow).set_low _ _ hlow).set_low _ _ hlow).mono (by have := HZ.out; omega) (by have := HP4.out; simp; omega)
          · exact HSET.out w4 HB4.out _ _ _ _ _ _
        · have HV := Lib.hid (HV2.out ⟨hbi, rfl⟩)
          have hx := HX2.out.alloc (by have := HZ.out; omega) (.cells #[.int .i64 s.seg, .slice h2.aw s.ws.length h2.cw, .slice h2.ak s.ks.length h2.ck, .slice h2.av s.vs.length h2.cv, .slice h2.ac s.cs.length h2.cc, .int .u64 s.laid] 71)
          obtain ⟨-, d0, d1, d2, d3, d4, d5⟩ := box66 HX2.out
          have f0 := (box66_frozen HX2.out 0).2; have f1 := (box66_frozen HX2.out 1).2; have f2 := (box66_frozen HX2.out 2).2; have f3 := (box66_frozen HX2.out 3).2; have f4 := (box66_frozen HX2.out 4).2; have f5 := (box66_frozen HX2.out 5).2
          have hp : w.heap.size + 1 ≠ w2.heap.size := by have := HZ.out; omega
          have hp2 : w.heap.size + 1 < w2.heap.size := by have := HZ.out; omega
          clear hx
          go_wp2
          refine bodyPost_ret (v := .tuple #[.agg #[.int .i64 0, .slice Option.none 0 0, .slice Option.none 0 0, .slice Option.none 0 0, .slice Option.none 0 0, .int .u64 0], .int .i64 9]) (by simp [results, Try.results32, go_sem, *]) rfl ⟨noneH, by rw [HV.out]; dsimp only; rw [sval_none], by rw [HV.out]; exact noneS_own _ _ _, ?_⟩
          have HQ := HSET.out w2 HB2.out (.int .i64 0) (.slice Option.none 0 0) (.slice Option.none 0 0) (.slice Option.none 0 0) (.slice Option.none 0 0) (.int .u64 0)
          exact HQ.alloc HQ.size _
  · have HV : Hid (moveSV s a b = (noneS, (atV s a).2)) := Lib.hid (if_pos hv)
    generalize atV s a = xye at *
    obtain ⟨⟨x, y⟩, c⟩ := xye
    dsimp only at hv
    have hne : (c != 0) = true := by rw [bne_iff_ne]; exact hv
    clear W R hv
    unfold sval at *
    go_enter Try.func32, Try.ntmps32
    go_wp2_with fail
    refine (HC.out _ (HB.out _ _)).mono ?_
    rintro e w1 ⟨rfl, hb⟩
    have HB1 := Lib.hid ((HB.out _ _).trans (hb.mono (HB.out _ _).size))
    have HX1 := Lib.hid (show Below (w.heap.size + 1 + 1) _ w1 by simpa using hb)
    clear hb
    obtain ⟨-, d0, d1, d2, d3, d4, d5⟩ := box66 HX1.out
    have f0 := (box66_frozen HX1.out 0).2; have f1 := (box66_frozen HX1.out 1).2; have f2 := (box66_frozen HX1.out 2).2; have f3 := (box66_frozen HX1.out 3).2; have f4 := (box66_frozen HX1.out 4).2; have f5 := (box66_frozen HX1.out 5).2
    have hz1 : w.heap.size + 1 < w1.heap.size := by have := HX1.out.size; simp at this; omega
    have hza : w.heap.size + 1 ≠ w1.heap.size := by omega
    go_wp2
    refine bodyPost_ret (v := .tuple #[.agg #[.int .i64 0, .slice Option.none 0 0, .slice Option.none 0 0, .slice Option.none 0 0, .slice Option.none 0 0, .int .u64 0], .int .i64 c]) (by simp [results, Try.results32, go_sem, *]) rfl ⟨noneH, by rw [HV.out]; dsimp only; rw [sval_none], by rw [HV.out]; exact noneS_own _ _ _, ?_⟩
    have HQ := HSET.out w1 HB1.out (.int .i64 0) (.slice Option.none 0 0) (.slice Option.none 0 0) (.slice Option.none 0 0) (.slice Option.none 0 0) (.int .u64 0)
    exact HQ.alloc HQ.size _
end Go.Proofs.Ytfdkaahkhgljdaa.Slo

namespace Go.Proofs.Ytfdkaahkhgljdaa.Slo
open Go.RowKit Go.Shelf Go.Proofs.Ytfdkaahkhgljdaa Go.Proofs.Ytfdkaahkhgljdaa.Occ Go.Proofs.Ytfdkaahkhgljdaa.Frac

def prevV (f : Int) (xs : List Int) (k : Nat) : Int := if k = 0 then f - 1 else xs.getD (k - 1) 0
def partB (f t : Int) (xs : List Int) : Bool := (List.range xs.length).all fun k => decide (prevV f xs k < xs.getD k 0) && decide (xs.getD k 0 < t)
theorem partB_iff {f t : Int} {xs : List Int} : partB f t xs = true ↔ ∀ k, k < xs.length → prevV f xs k < xs.getD k 0 ∧ xs.getD k 0 < t := by
  simp [partB]
theorem partB_ge {f t : Int} {xs : List Int} (h : partB f t xs = true) : ∀ k, k < xs.length → f ≤ xs.getD k 0 := by
  intro k
  induction k with
  | zero => intro hk; have := (partB_iff.1 h 0 hk).1; simp [prevV] at this; simp; omega
  | succ k ih =>
    intro hk
    have h1 := (partB_iff.1 h (k + 1) hk).1
    have h2 := ih (by omega)
    simp only [prevV, Nat.add_sub_cancel, if_neg (Nat.succ_ne_zero k)] at h1
    omega
def clrV (s : Sl) (f : Nat) : Nat → Sl
  | 0 => s
  | k + 1 => takeV (clrV s f k) (f + k)
def layL (s : Sl) (xs : List Int) (ps : List (Int × Int)) : Nat → Sl
  | 0 => s
  | k + 1 => layV (layL s xs ps k) (xs.getD k 0).toNat (ps.getD k (0, 0)).1 (ps.getD k (0, 0)).2
def fillV (s : Sl) (f t : Nat) (xs : List Int) (ps : List (Int × Int)) : Sl := layL (clrV s f (t - f)) xs ps xs.length
def fillSV (s : Sl) (f t : Int) (xs : List Int) (ps : List (Int × Int)) : Sl × Int :=
  if askS s (inB s.ks.length f t) ≠ 0 then (noneS, askS s (inB s.ks.length f t)) else if xs.length ≠ ps.length ∨ partB f t xs = false then (noneS, 2) else (fillV s f.toNat t.toNat xs ps, 0)

/-- What stays. -/
structure Is (s : Sl) (g q : Nat) (n : Nat) : Prop where
  o : Ok s g q
  u : U64 s.ws
  l : 0 ≤ s.laid ∧ s.laid < 18446744073709551616
  n : s.ks.length = n
theorem Is.take {s : Sl} {g q n : Nat} (h : Is s g q n) {a : Nat} (ha : a < n) : Is (takeV s a) g q n :=
  ⟨h.o.take h.u (by rw [h.n]; exact ha), take_u h.u a, h.l, (take_len a).trans h.n⟩
theorem Is.lay {s : Sl} {g q n : Nat} (h : Is s g q n) {a : Nat} (ha : a < n) (x y : Int) : Is (layV s a x y) g q n := by
  refine ⟨h.o.lay h.u (by rw [h.n]; exact ha) x y, putV_u64 (take_u h.u a) a true, ?_, ?_⟩
  · show 0 ≤ IntKind.u64.wrap (s.laid + 1) ∧ IntKind.u64.wrap (s.laid + 1) < 18446744073709551616
    rw [IntKind.wrap_u64]; omega
  · exact (List.length_set).trans ((take_len a).trans h.n)
theorem Is.clr {s : Sl} {g q n f : Nat} (h : Is s g q n) : ∀ k, f + k ≤ n → Is (clrV s f k) g q n
  | 0, _ => h
  | k + 1, hk => (h.clr k (by omega)).take (by omega)
theorem Is.layL {s : Sl} {g q n : Nat} (h : Is s g q n) {xs : List Int} {ps : List (Int × Int)} (hx : ∀ k, k < xs.length → 0 ≤ xs.getD k 0 ∧ xs.getD k 0 < n) : ∀ k, k ≤ xs.length → Is (layL s xs ps k) g q n
  | 0, _ => h
  | k + 1, hk => (h.layL hx k (by omega)).lay (by have := hx k (by omega); omega) _ _
end Go.Proofs.Ytfdkaahkhgljdaa.Slo

namespace Go.Proofs.Ytfdkaahkhgljdaa.Slo
open Go.RowKit Go.Shelf Go.Proofs.Ytfdkaahkhgljdaa Go.Proofs.Ytfdkaahkhgljdaa.Occ Go.Proofs.Ytfdkaahkhgljdaa.Frac
attribute [local go_sem] Oper.semAt_some

/-- The cells of the result, as they began. -/
structure Box0 (W : World) (b : Nat) : Prop where
  c : W.cell? ⟨b, 0, Option.none⟩ = some (.int .i64 0) ∧ W.cell? ⟨b, 1, Option.none⟩ = some (.slice Option.none 0 0) ∧ W.cell? ⟨b, 2, Option.none⟩ = some (.slice Option.none 0 0) ∧ W.cell? ⟨b, 3, Option.none⟩ = some (.slice Option.none 0 0) ∧ W.cell? ⟨b, 4, Option.none⟩ = some (.slice Option.none 0 0) ∧ W.cell? ⟨b, 5, Option.none⟩ = some (.int .u64 0)
  f : ∀ j, W.frozen? ⟨b, j, Option.none⟩ = false
theorem Box0.below {W W' : World} {b m : Nat} (h : Box0 W b) (hb : Below m W W') (hm : b < m) : Box0 W' b :=
  ⟨⟨(hb.cell (p := ⟨b, 0, Option.none⟩) hm).trans h.c.1, (hb.cell (p := ⟨b, 1, Option.none⟩) hm).trans h.c.2.1, (hb.cell (p := ⟨b, 2, Option.none⟩) hm).trans h.c.2.2.1, (hb.cell (p := ⟨b, 3, Option.none⟩) hm).trans h.c.2.2.2.1, (hb.cell (p := ⟨b, 4, Option.none⟩) hm).trans h.c.2.2.2.2.1, (hb.cell (p := ⟨b, 5, Option.none⟩) hm).trans h.c.2.2.2.2.2⟩, fun j => (hb.frozen (p := ⟨b, j, Option.none⟩) hm).trans (h.f j)⟩

set_option maxRecDepth 100000 in
set_option maxHeartbeats 4000000 in
theorem Fill_err (s : Sl) (h : Hd) (f t : Int) (ax : Option Addr) (cx : Nat) (xs : List Int) (al : Option Addr) (cl : Nat) (ps : List (Int × Int)) (w : World) (W : s.Wf) (R : SRd w s h)
    (hv : askS s (inB s.ks.length f t) ≠ 0) :
    Calls Try.prog 12 #[sval s h, .int .i64 f, .int .i64 t, .slice ax xs.length cx, .slice al ps.length cl] w fun e w' => AnsS (fillSV s f t xs ps) w e w' := by
  have HC := Lib.hid (fun w1 (hb : Below w.heap.size w w1) => sPart_any s h f t w1 W (R.mono hb (Nat.le_refl _)))
  have HB : Hid (∀ o1 o2, Below w.heap.size w ((w.alloc o1).alloc o2)) := Lib.hid fun o1 o2 => ((Below.refl _ w).alloc (Nat.le_refl _) _).alloc (by simp) _
  have HV : Hid (fillSV s f t xs ps = (noneS, askS s (inB s.ks.length f t))) := Lib.hid (if_pos hv)
  generalize askS s (inB s.ks.length f t) = c at *
  have hne : (c != 0) = true := by rw [bne_iff_ne]; exact hv
  clear W R hv
  unfold sval at *
  go_enter Try.func12, Try.ntmps12
  go_wp2_with fail
  refine (HC.out _ (HB.out _ _)).mono ?_
  rintro e w1 ⟨rfl, hb⟩
  have HB1 := Lib.hid ((HB.out _ _).trans (hb.mono (HB.out _ _).size))
  have HX1 := Lib.hid (show Below (w.heap.size + 1 + 1) _ w1 by simpa using hb)
  clear hb
  obtain ⟨-, d0, d1, d2, d3, d4, d5⟩ := box66 HX1.out
  have f0 := (box66_frozen HX1.out 0).2; have f1 := (box66_frozen HX1.out 1).2; have f2 := (box66_frozen HX1.out 2).2; have f3 := (box66_frozen HX1.out 3).2; have f4 := (box66_frozen HX1.out 4).2; have f5 := (box66_frozen HX1.out 5).2
  go_wp2
  refine bodyPost_ret (v := .tuple #[.agg #[.int .i64 0, .slice Option.none 0 0, .slice Option.none 0 0, .slice Option.none 0 0, .slice Option.none 0 0, .int .u64 0], .int .i64 c]) (by simp [results, Try.results12, go_sem, *]) rfl ⟨noneH, by rw [HV.out]; dsimp only; rw [sval_none], by rw [HV.out]; exact noneS_own _ _ _, ?_⟩
  exact (((((HB1.out.setCell (by simp) _).setCell (by simp) _).setCell (by simp) _).setCell (by simp) _).setCell (by simp) _).setCell (by simp) _

set_option maxRecDepth 100000 in
set_option maxHeartbeats 4000000 in
theorem Fill_any (s : Sl) (h : Hd) (f t : Int) (ax : Option Addr) (cx : Nat) (xs : List Int) (al : Option Addr) (cl : Nat) (ps : List (Int × Int)) (w : World) (W : s.Wf) (R : SRd w s h)
    (hrx : Rd .i64 w ax xs) (hrp : Rd2 w al ps) (lx : xs.length ≤ 9223372036854775807) (lp : ps.length ≤ 9223372036854775807) :
    Calls Try.prog 12 #[sval s h, .int .i64 f, .int .i64 t, .slice ax xs.length cx, .slice al ps.length cl] w fun e w' => AnsS (fillSV s f t xs ps) w e w' := by
  by_cases hv : askS s (inB s.ks.length f t) = 0
  case neg => exact Fill_err s h f t ax cx xs al cl ps w W R hv
  have HC := Lib.hid (fun w1 (hb : Below w.heap.size w w1) => sPart_any s h f t w1 W (R.mono hb (Nat.le_refl _)))
  have HB : Hid (∀ o1 o2, Below w.heap.size w ((w.alloc o1).alloc o2)) := Lib.hid fun o1 o2 => ((Below.refl _ w).alloc (Nat.le_refl _) _).alloc (by simp) _
  have HSET : Hid (∀ (W' : World), Below w.heap.size w W' → ∀ u0 u1 u2 u3 u4 u5 : Value, Below w.heap.size w ((((((W'.setCell ⟨w.heap.size + 1, 0, Option.none⟩ u0).setCell ⟨w.heap.size + 1, 1, Option.none⟩ u1).setCell ⟨w.heap.size + 1, 2, Option.none⟩ u2).setCell ⟨w.heap.size + 1, 3, Option.none⟩ u3).setCell ⟨w.heap.size + 1, 4, Option.none⟩ u4).setCell ⟨w.heap.size + 1, 5, Option.none⟩ u5)) := Lib.hid fun W' hB u0 u1 u2 u3 u4 u5 =>
    (((((hB.setCell (p := ⟨w.heap.size + 1, 0, Option.none⟩) (by simp) u0).setCell (p := ⟨w.heap.size + 1, 1, Option.none⟩) (by simp) u1).setCell (p := ⟨w.heap.size + 1, 2, Option.none⟩) (by simp) u2).setCell (p := ⟨w.heap.size + 1, 3, Option.none⟩) (by simp) u3).setCell (p := ⟨w.heap.size + 1, 4, Option.none⟩) (by simp) u4).setCell (p := ⟨w.heap.size + 1, 5, Option.none⟩) (by simp) u5
  obtain ⟨hok, hin⟩ := askS_ok hv
  obtain ⟨h0, h1, h2⟩ := inB_iff.1 hin
  have HE1 : Hid (xs.length ≠ ps.length ∨ partB f t xs = false → fillSV s f t xs ps = (noneS, 2)) := Lib.hid fun hh => by
    unfold fillSV; rw [if_neg (by simpa using hv), if_pos hh]
  have HE2 : Hid (xs.length = ps.length → partB f t xs = true → fillSV s f t xs ps = (fillV s f.toNat t.toNat xs ps, 0)) := Lib.hid fun h3 h4 => by
    unfold fillSV; rw [if_neg (by simpa using hv), if_neg (by rw [h4]; simpa using h3)]
  rw [hv] at HC
  obtain ⟨g, q, o⟩ := okS_iff.1 hok
  have hn1 := o.n1
  obtain ⟨f, rfl⟩ := Int.eq_ofNat_of_zero_le h0
  obtain ⟨t, rfl⟩ := Int.eq_ofNat_of_zero_le (by omega : 0 ≤ t)
  have hft : f ≤ t := by omega
  have htn : t ≤ s.ks.length := by omega
  have ht65 : t ≤ 65536 := by omega
  have HI : Hid (Is s g q s.ks.length) := Lib.hid ⟨o, W.u, W.laid, rfl⟩
  have HT := Lib.hid (fun w1 (hb : Below w.heap.size w w1) => sTwin_any s h w1 W (R.mono hb (Nat.le_refl _)) (o.pl R))
  have HTK : Hid (∀ A, f ≤ A → A < t → ∀ lo hi p h w1, Arr w1 lo hi p (clrV s f (A - f)) h → Calls Try.prog 37 #[.pointer (some ⟨p, 0, Option.none⟩), .int .i64 A] w1 fun e w' => (∃ x y, e = .returned (.agg #[.int .i64 x, .int .i64 y])) ∧ Arr w' lo hi p (clrV s f (A + 1 - f)) h ∧ Keeps lo hi w1.heap.size w1 w') := Lib.hid fun A h3 h4 lo hi p h w1 hA => by
    have i := HI.out.clr (f := f) (A - f) (by omega)
    have e1 : clrV s f (A + 1 - f) = takeV (clrV s f (A - f)) A := by
      rw [show A + 1 - f = A - f + 1 by omega]; show takeV _ (f + (A - f)) = _; rw [show f + (A - f) = A by omega]
    rw [e1]
    exact (take_any lo hi p _ h g q A w1 hA i.o i.u (by rw [i.n]; omega)).mono fun e w' ⟨h5, h6, h7⟩ => ⟨⟨_, _, h5⟩, h6, h7⟩
  have HLK : Hid (partB f t xs = true → ∀ k, k < xs.length → ∀ lo hi p h w1, Arr w1 lo hi p (layL (clrV s f (t - f)) xs ps k) h → Calls Try.prog 38 #[.pointer (some ⟨p, 0, Option.none⟩), .int .i64 (xs.getD k 0), .agg #[.int .i64 (ps.getD k (0, 0)).1, .int .i64 (ps.getD k (0, 0)).2]] w1 fun e w' => e = .returned (.tuple #[]) ∧ Arr w' lo hi p (layL (clrV s f (t - f)) xs ps (k + 1)) h ∧ Keeps lo (p + 1) w1.heap.size w1 w') := Lib.hid fun hp k hk lo hi p h w1 hA => by
    have hx : ∀ k, k < xs.length → 0 ≤ xs.getD k 0 ∧ xs.getD k 0 < s.ks.length := fun k hk => by
      have := partB_ge hp k hk; have := (partB_iff.1 hp k hk).2; omega
    have i := (HI.out.clr (f := f) (t - f) (by omega)).layL (ps := ps) hx k (by omega)
    have h3 := hx k hk
    have e1 : xs.getD k 0 = ((xs.getD k 0).toNat : Int) := by omega
    have := lay_any lo hi p _ h g q (xs.getD k 0).toNat (ps.getD k (0, 0)).1 (ps.getD k (0, 0)).2 w1 hA i.o i.u i.l (by rw [i.n]; omega)
    rw [← e1] at this
    exact this
  have HFV : Hid (fillV s f t xs ps = layL (clrV s f (t - f)) xs ps xs.length) := Lib.hid rfl
  have HF0 : Hid (clrV s f (f - f) = s ∧ layL (clrV s f (t - f)) xs ps 0 = clrV s f (t - f)) := Lib.hid ⟨by rw [Nat.sub_self]; rfl, rfl⟩
  simp only [Int.toNat_natCast] at HE2
  generalize hC : (fun A => clrV s f (A - f)) = C at *
  generalize hD : layL (clrV s f (t - f)) xs ps = D at *
  have HC0 : Hid (C f = s ∧ D 0 = C t) := Lib.hid ⟨by rw [← hC]; exact HF0.out.1, by rw [HF0.out.2, ← hC]⟩
  have HTK : Hid (∀ A, f ≤ A → A < t → ∀ lo hi p h w1, Arr w1 lo hi p (C A) h → Calls Try.prog 37 #[.pointer (some ⟨p, 0, Option.none⟩), .int .i64 A] w1 fun e w' => (∃ x y, e = .returned (.agg #[.int .i64 x, .int .i64 y])) ∧ Arr w' lo hi p (C (A + 1)) h ∧ Keeps lo hi w1.heap.size w1 w') := Lib.hid (by rw [← hC]; exact HTK.out)
  rw [HFV.out] at HE2
  have HPB : Hid (partB f t xs = true ↔ ∀ k, k < xs.length → prevV f xs k < xs.getD k 0 ∧ xs.getD k 0 < t) := Lib.hid partB_iff
  clear hC hD HFV HF0 HI hv hok hin h0 h1 h2 W R o hn1 htn
  have HX := Lib.hid hrx
  have HP := Lib.hid hrp
  clear hrx hrp
  unfold sval at *
  go_enter Try.func12, Try.ntmps12
  go_wp2_with fail
  refine (HC.out _ (HB.out _ _)).mono ?_
  rintro e w1 ⟨rfl, hb⟩
  have HB1 := Lib.hid ((HB.out _ _).trans (hb.mono (HB.out _ _).size))
  have HX1 := Lib.hid (show Below (w.heap.size + 1 + 1) _ w1 by simpa using hb)
  clear hb
  have HZ1 : Hid (w.heap.size + 2 ≤ w1.heap.size) := Lib.hid (by have := HX1.out.size; simpa using this)
  obtain ⟨⟨c0, c1, c2, c3, c4, c5⟩, d0, d1, d2, d3, d4, d5⟩ := box66 HX1.out
  have f0 := (box66_frozen HX1.out 0).2; have f1 := (box66_frozen HX1.out 1).2; have f2 := (box66_frozen HX1.out 2).2; have f3 := (box66_frozen HX1.out 3).2; have f4 := (box66_frozen HX1.out 4).2; have f5 := (box66_frozen HX1.out 5).2
  by_cases hlen : xs.length = ps.length
  case neg =>
    have hln : ((xs.length : Int) != (ps.length : Int)) = true := by rw [bne_iff_ne]; omega
    have HV := Lib.hid (HE1.out (.inl hlen))
    clear hlen
    go_wp2
    refine bodyPost_ret (v := .tuple #[.agg #[.int .i64 0, .slice Option.none 0 0, .slice Option.none 0 0, .slice Option.none 0 0, .slice Option.none 0 0, .int .u64 0], .int .i64 2]) (by simp [results, Try.results12, go_sem, *]) rfl ⟨noneH, by rw [HV.out]; dsimp only; rw [sval_none], by rw [HV.out]; exact noneS_own _ _ _, ?_⟩
    exact HSET.out w1 HB1.out _ _ _ _ _ _
  have HLEN := Lib.hid hlen
  have wf1 : IntKind.i64.wrap ((f : Int) - 1) = (f : Int) - 1 := by rw [IntKind.wrap_i64]; omega
  rw [← hlen]
  clear hlen lp
  go_wp2
  go_loop [13, 15, 38] (fun l _ i => ∃ k : Nat, k ≤ xs.length ∧ i = .int .i64 k ∧ l = .int .i64 (prevV f xs k) ∧ ∀ j, j < k → prevV f xs j < xs.getD j 0 ∧ xs.getD j 0 < t) (fun _ _ i => xs.length - (intOf i).toNat)
  case atStart => exact ⟨0, Nat.zero_le _, rfl, rfl, fun j hj => by omega⟩
  case round =>
    obtain ⟨k, hk, rfl, rfl, hlow⟩ := hrel
    have HL := Lib.hid hlow
    clear hlow wf1
    by_cases hlt : k < xs.length
    · obtain ⟨bx, ox, rfl, hcx⟩ := Rd.at HX.out HB1.out (Nat.le_refl _) hlt
      have HN : Hid (prevV f xs (k + 1) = xs.getD k 0) := Lib.hid rfl
      have HF : Hid (¬ (prevV f xs k < xs.getD k 0 ∧ xs.getD k 0 < t) → partB f t xs = false) := Lib.hid fun h => by
        rw [Bool.eq_false_iff]; intro hp; exact h (HPB.out.1 hp k hlt)
      have HG : Hid (prevV f xs k < xs.getD k 0 ∧ xs.getD k 0 < t → ∀ j, j < k + 1 → prevV f xs j < xs.getD j 0 ∧ xs.getD j 0 < t) := Lib.hid fun h j hj => by
        rcases Nat.lt_or_ge j k with h2 | h2
        · exact HL.out j h2
        · obtain rfl : j = k := by omega
          exact h
      generalize prevV f xs k = l0 at *
      generalize xs.getD k 0 = x at *
      by_cases h3 : x ≤ l0
      · have HV := Lib.hid (HE1.out (.inr (HF.out (by omega))))
        clear HF HG HN
        go_wp2
        refine bodyPost_ret (v := .tuple #[.agg #[.int .i64 0, .slice Option.none 0 0, .slice Option.none 0 0, .slice Option.none 0 0, .slice Option.none 0 0, .int .u64 0], .int .i64 2]) (by simp [results, Try.results12, go_sem, *]) rfl ⟨noneH, by rw [HV.out]; dsimp only; rw [sval_none], by rw [HV.out]; exact noneS_own _ _ _, ?_⟩
        exact HSET.out w1 HB1.out _ _ _ _ _ _

      · by_cases h4 : (t : Int) ≤ x
        · have HV := Lib.hid (HE1.out (.inr (HF.out (by omega))))
          clear HF HG HN
          go_wp2
          refine bodyPost_ret (v := .tuple #[.agg #[.int .i64 0, .slice Option.none 0 0, .slice Option.none 0 0, .slice Option.none 0 0, .slice Option.none 0 0, .int .u64 0], .int .i64 2]) (by simp [results, Try.results12, go_sem, *]) rfl ⟨noneH, by rw [HV.out]; dsimp only; rw [sval_none], by rw [HV.out]; exact noneS_own _ _ _, ?_⟩
          exact HSET.out w1 HB1.out _ _ _ _ _ _

        · have HG2 := Lib.hid (HG.out (by omega))
          clear HF HG
          have wk1 : IntKind.i64.wrap ((k : Int) + 1) = (k : Int) + 1 := by rw [IntKind.wrap_i64]; omega
          go_wp2
          go_round
          case rel => exact ⟨k + 1, by omega, by go_num, by rw [HN.out], HG2.out⟩
          case measure => simp [intOf]; omega
    · obtain rfl : k = xs.length := by omega
      have HPT : Hid (partB f t xs = true) := Lib.hid (HPB.out.2 HL.out)
      clear HPB HL hk hlt
      generalize prevV f xs xs.length = l0 at *
      clear d0 d1 d2 d3 d4 d5 f0 f1 f2 f3 f4 f5
      go_wp2_with fail
      refine (HT.out _ HB1.out).mono ?_
      rintro e w2 ⟨h2, rfl, hown, hb⟩
      have HB2 := Lib.hid (HB1.out.trans (hb.mono HB1.out.size))
      have HX2 := Lib.hid (HX1.out.trans (hb.mono (by have := HZ1.out; omega)))
      have hsz := hb.size
      have HA := Lib.hid (arr_new hown hsz 71)
      have HZ : Hid (w.heap.size + 2 ≤ w1.heap.size ∧ w1.heap.size ≤ w2.heap.size) := Lib.hid ⟨HZ1.out, hsz⟩
      clear hown hb hsz c0 c1 c2 c3 c4 c5 HZ1
      have HBA := Lib.hid (HB2.out.alloc HB2.out.size (.cells #[.int .i64 s.seg, .slice h2.aw s.ws.length h2.cw, .slice h2.ak s.ks.length h2.ck, .slice h2.av s.vs.length h2.cv, .slice h2.ac s.cs.length h2.cc, .int .u64 s.laid] 71))
      have HXA := Lib.hid (HX2.out.alloc (by have := HZ.out; omega) (.cells #[.int .i64 s.seg, .slice h2.aw s.ws.length h2.cw, .slice h2.ak s.ks.length h2.ck, .slice h2.av s.vs.length h2.cv, .slice h2.ac s.cs.length h2.cc, .int .u64 s.laid] 71))
      have HA := Lib.hid (show Arr (w2.alloc (.cells #[.int .i64 s.seg, .slice h2.aw s.ws.length h2.cw, .slice h2.ak s.ks.length h2.ck, .slice h2.av s.vs.length h2.cv, .slice h2.ac s.cs.length h2.cc, .int .u64 s.laid] 71)) w1.heap.size w2.heap.size w2.heap.size (C f) h2 by rw [HC0.out.1]; exact HA.out)
      have HZB : Hid (Box0 (w2.alloc (.cells #[.int .i64 s.seg, .slice h2.aw s.ws.length h2.cw, .slice h2.ak s.ks.length h2.ck, .slice h2.av s.vs.length h2.cv, .slice h2.ac s.cs.length h2.cc, .int .u64 s.laid] 71)) (w.heap.size + 1)) := Lib.hid ⟨(box66 HXA.out).2, fun j => (box66_frozen HXA.out j).2⟩
      have HZW : Hid (w2.heap.size < (w2.alloc (.cells #[.int .i64 s.seg, .slice h2.aw s.ws.length h2.cw, .slice h2.ak s.ks.length h2.ck, .slice h2.av s.vs.length h2.cv, .slice h2.ac s.cs.length h2.cc, .int .u64 s.laid] 71)).heap.size) := Lib.hid (by simp)
      clear HX2 HXA HB2
      go_wp2
      generalize w2.alloc (.cells #[.int .i64 s.seg, .slice h2.aw s.ws.length h2.cw, .slice h2.ak s.ks.length h2.ck, .slice h2.av s.vs.length h2.cv, .slice h2.ac s.cs.length h2.cc, .int .u64 s.laid] 71) = wz at *
      generalize w2.heap.size = p at *
      go_loopw [17] (fun i wr => ∃ A : Nat, f ≤ A ∧ A ≤ t ∧ i = .int .i64 A ∧ Arr wr w1.heap.size p p (C A) h2 ∧ Below w.heap.size w wr ∧ Box0 wr (w.heap.size + 1)) (fun i _ => t - (intOf i).toNat)
      case atStart => exact ⟨f, Nat.le_refl _, hft, rfl, HA.out, HBA.out, HZB.out⟩
      case round =>
        obtain ⟨A, hA1, hA2, rfl, hAr, hBl, hBx⟩ := hrel
        have HAr := Lib.hid hAr
        have HBl := Lib.hid hBl
        have HBx := Lib.hid hBx
        clear hAr hBl hBx
        by_cases hlt : A < t
        · have wk1 : IntKind.i64.wrap ((A : Int) + 1) = ((A + 1 : Nat) : Int) := by rw [IntKind.wrap_i64]; omega
          go_wp2_with fail
          refine (HTK.out A hA1 hlt _ _ _ _ _ HAr.out).mono ?_
          rintro e w4 ⟨⟨x, y, rfl⟩, hA4, hk4⟩
          have HA4 := Lib.hid hA4
          have HB4 : Hid (Below w.heap.size w w4) := Lib.hid (HBl.out.trans (hk4.below.mono (by have := HZ.out; omega)))
          have HX4 : Hid (Box0 w4 (w.heap.size + 1)) := Lib.hid (HBx.out.below hk4.below (by have := HZ.out; omega))
          clear hA4 hk4
          go_wp2
          go_round
          case rel => exact ⟨A + 1, by omega, by omega, by go_num, HA4.out, HB4.out, HX4.out⟩
          case measure => simp [intOf]; omega
        · obtain rfl : A = t := by omega
          have hd0 := HC0.out.2
          rw [← hd0] at HAr
          clear HA HBA HZB hd0 hA2 hlt
          go_wp2
          go_loopw [18, 19, 68] (fun _ _ i wr => ∃ k : Nat, k ≤ xs.length ∧ i = .int .i64 k ∧ Arr wr w1.heap.size p p (D k) h2 ∧ Below w.heap.size w wr ∧ Box0 wr (w.heap.size + 1)) (fun _ _ i _ => xs.length - (intOf i).toNat)
          case atStart => exact ⟨0, Nat.zero_le _, rfl, HAr.out, HBl.out, HBx.out⟩
          case round =>
            obtain ⟨k, hk, rfl, hAr, hBl, hBx⟩ := hrel
            clear HAr HBl HBx
            have HAr := Lib.hid hAr
            have HBl := Lib.hid hBl
            have HBx := Lib.hid hBx
            clear hAr hBl hBx
            by_cases hlt : k < xs.length
            · obtain ⟨bx, ox, rfl, hcx⟩ := Rd.at HX.out HBl.out (Nat.le_refl _) hlt
              have hlp : k < ps.length := by rw [← HLEN.out]; exact hlt
              obtain ⟨bp, op, rfl, hp1, hp2⟩ := Rd2.at HP.out HBl.out (Nat.le_refl _) hlp
              have HLY := Lib.hid (HLK.out HPT.out k hlt)
              have wk1 : IntKind.i64.wrap ((k : Int) + 1) = ((k + 1 : Nat) : Int) := by rw [IntKind.wrap_i64]; omega
              clear HLK HTK HC0 HE1 HE2
              generalize xs.getD k 0 = x at *
              generalize ps.getD k (0, 0) = pr at *
              obtain ⟨px, py⟩ := pr
              dsimp only at hp1 hp2
              go_wp2_with fail
              refine (HLY.out _ _ _ _ _ HAr.out).mono ?_
              rintro e w4 ⟨rfl, hA4, hk4⟩
              have HA4 := Lib.hid hA4
              have HB4 : Hid (Below w.heap.size w w4) := Lib.hid (HBl.out.trans (hk4.below.mono (by have := HZ.out; omega)))
              have HX4 : Hid (Box0 w4 (w.heap.size + 1)) := Lib.hid (HBx.out.below hk4.below (by have := HZ.out; omega))
              clear hA4 hk4
              go_wp2
              go_round
              case rel => exact ⟨k + 1, by omega, by go_num, HA4.out, HB4.out, HX4.out⟩
              case measure => simp [intOf]; omega
            · obtain rfl : k = xs.length := by omega
              have HV := Lib.hid (HE2.out HLEN.out HPT.out)
              clear HLK HTK HC0 HE1 HE2 hk hlt
              have hAr := HAr.out
              have b0 := hAr.b0; have b1 := hAr.b1; have b2 := hAr.b2; have b3 := hAr.b3; have b4 := hAr.b4; have b5 := hAr.b5
              have HO := Lib.hid hAr.own
              have hpne : p ≠ w.heap.size + 1 := by have := HZ.out; omega
              have HPW : Hid (p ≤ wr.heap.size) := Lib.hid (by have := hAr.pl; omega)
              obtain ⟨d0, d1, d2, d3, d4, d5⟩ := HBx.out.c
              have f0 := HBx.out.f 0; have f1 := HBx.out.f 1; have f2 := HBx.out.f 2; have f3 := HBx.out.f 3; have f4 := HBx.out.f 4; have f5 := HBx.out.f 5
              clear hAr HAr
              generalize D xs.length = L at *
              go_wp2
              refine bodyPost_ret (v := .tuple #[sval L h2, .int .i64 0]) (by simp [results, Try.results12, sval, go_sem, *]) rfl ⟨h2, by rw [HV.out], ?_, ?_⟩
              · rw [HV.out]
                have hlow : w.heap.size + 1 < w1.heap.size := by have := HZ.out; omega
                exact ((((((HO.out.set_low _ _ hlow).set_low _ _ hlow).set_low _ _ hlow).set_low _ _ hlow).set_low _ _ hlow).set_low _ _ hlow).mono (by have := HZ.out; omega) (by have := HPW.out; simp; omega)
              · exact HSET.out wr HBl.out _ _ _ _ _ _
end Go.Proofs.Ytfdkaahkhgljdaa.Slo

namespace Go.Proofs.Ytfdkaahkhgljdaa.Mix
open Go Go.RowKit

/-- One 'make([]T, n)': which operation, where its value goes, the slice's type, the element's type and kind, how many, and the operand. -/
structure Mk where
  i : Nat
  d : Tmp
  t : TypeId
  e : TypeId
  k : IntKind
  n : Nat
  x : Operand
def zerosK (k : IntKind) (n : Nat) : List Value := (List.replicate n (0 : Int)).map (Value.int k)
def upd (B : Nat → Option Nat) (i b : Nat) : Nat → Option Nat := fun j => if j = i then some b else B j
/-- What has been made: rows of their own, apart. -/
structure MadeF (M : List Mk) (w W : World) (B : Nat → Option Nat) : Prop where
  below : RowKit.Below w.heap.size w W
  own : ∀ m ∈ M, ∀ b, B m.i = some b → W.ownsRow w.heap.size m.e 1 (.slice (some ⟨b, 0, Option.none⟩) m.n m.n) m.n (zerosK m.k m.n)
  lt : ∀ m ∈ M, ∀ b, B m.i = some b → b < W.heap.size
  apart : ∀ m ∈ M, ∀ m' ∈ M, m.i ≠ m'.i → ∀ b, B m.i = some b → B m'.i ≠ some b
theorem made_list (z : Int) (k : IntKind) (n : Nat) : (madeCells (Value.int k z).cells n).toList = List.replicate n (Value.int k z) := by
  unfold madeCells
  apply List.ext_getElem
  · simp
  · intro i h1 h2
    simp [Value.cells, Nat.mod_one]
theorem made_row (w : World) (e : TypeId) (k : IntKind) (n : Nat) (h : n ≤ maxLen) : (w.alloc (.cells (madeCells #[Value.int k 0] n) e)).ownsRow w.heap.size e 1 (.slice (some ⟨w.heap.size, 0, Option.none⟩) n n) n (zerosK k n) := by
  refine ⟨by simp [zerosK], .inr ⟨w.heap.size, n, _, rfl, Nat.le_refl _, heap_alloc_new w _, Nat.le_refl _, h, by rw [size_madeCells]; simp, ?_⟩⟩
  have : (madeCells #[Value.int k 0] n).toList = List.replicate n (Value.int k 0) := made_list 0 k n
  rw [this, zerosK, List.map_replicate, Nat.mul_one, List.take_of_length_le (by simp)]

/-- In every order just those of 'todo' come up, till 'le' is reached. -/
def mkB (md : Region.Mode) (ops : Array Oper) (le : Array Bool) : Nat → List Nat → Array Bool → Bool
  | 0, _, listed => decide (listed = le)
  | f + 1, todo, listed => !(Region.ready md ops listed).isEmpty && (Region.ready md ops listed).all fun i => todo.contains i && mkB md ops le f (todo.erase i) (listed.setIfInBounds i true)

theorem wpAny_makes {P : Program} {md : Region.Mode} {l : List Oper} {Q : Exit → Act → World → Prop} (M : List Mk) (w : World) (acts : (Nat → Option Nat) → Act) (le : Array Bool) (fuel : Nat)
    (hop : ∀ m ∈ M, ∃ o, l.toArray[m.i]? = some o ∧ o.op = Op.makeSlice m.t m.x m.x ∧ o.dst = some m.d ∧ o.guard = Option.none)
    (hev : ∀ m ∈ M, ∀ B, (acts B).eval m.x = .int .i64 (m.n : Int))
    (hmk : ∀ m ∈ M, ∀ W, (Instr.makeSlice m.t (.int .i64 (m.n : Int)) (.int .i64 (m.n : Int))).run P W = .ok (.slice (some ⟨W.heap.size, 0, Option.none⟩) m.n m.n) (W.alloc (.cells (madeCells #[Value.int m.k 0] m.n) m.e)))
    (hput : ∀ m ∈ M, ∀ B b, (acts B).put (some m.d) (.slice (some ⟨b, 0, Option.none⟩) m.n m.n) = acts (upd B m.i b))
    (hn : ∀ m ∈ M, m.n ≤ maxLen) (hinj : ∀ m ∈ M, ∀ m' ∈ M, m.i = m'.i → m = m')
    (tail : ∀ W B, MadeF M w W B → (∀ m ∈ M, B m.i ≠ Option.none) → wpAny P md l.toArray Q fuel le (acts B) W) :
    ∀ (f : Nat) (todo : List Nat) (listed : Array Bool) (W : World) (B : Nat → Option Nat), mkB md l.toArray le f todo listed = true → todo.length = f → todo.Nodup → (∀ i ∈ todo, ∃ m ∈ M, m.i = i) → (∀ m ∈ M, m.i ∈ todo ↔ B m.i = Option.none) → MadeF M w W B →
      wpAny P md l.toArray Q (fuel + f) listed (acts B) W
  | 0, todo, listed, W, B, hB, hl, _, _, hBn, hF => by
    have e : listed = le := of_decide_eq_true hB
    subst e
    refine tail W B hF fun m hm h => ?_
    have := (hBn m hm).2 h
    rw [List.eq_nil_of_length_eq_zero hl] at this
    cases this
  | f + 1, todo, listed, W, B, hB, hl, hnd, hM, hBn, hF => by
    simp only [mkB, Bool.and_eq_true, Bool.not_eq_true', List.isEmpty_eq_false_iff] at hB
    show wpAny P md l.toArray Q ((fuel + f) + 1) listed (acts B) W
    refine ⟨fun h => absurd h hB.1, fun i hi => ?_⟩
    have h2 := List.all_eq_true.1 hB.2 i hi
    simp only [Bool.and_eq_true] at h2
    have hit : i ∈ todo := by simpa using h2.1
    obtain ⟨m, hm, rfl⟩ := hM i hit
    obtain ⟨o, ho, hop1, hd, hg⟩ := hop m hm
    unfold wpOp
    simp only [ho]
    rw [if_pos (by simp [Region.wanted, hg])]
    left
    unfold Oper.wp
    simp [execOp, hop1, hev m hm B, hmk m hm W, Result.andThen, Oper.upon_value]
    rw [hd, hput m hm B]
    have hb0 : RowKit.Below W.heap.size W (W.alloc (.cells (madeCells #[Value.int m.k 0] m.n) m.e)) := (RowKit.Below.refl _ W).alloc (Nat.le_refl _) _
    have hz := hF.below.size
    refine wpAny_makes M w acts le fuel hop hev hmk hput hn hinj tail f (todo.erase m.i) _ _ (upd B m.i W.heap.size) h2.2 (by rw [List.length_erase_of_mem hit, hl]; rfl) (hnd.erase _) (fun j hj => hM j (List.mem_of_mem_erase hj)) ?_ ?_
    · intro m' hm'
      rw [hnd.mem_erase_iff]
      unfold upd
      by_cases h : m'.i = m.i
      · rw [if_pos h]; simp [h]
      · rw [if_neg h]; simp [h, hBn m' hm']
    · refine ⟨hF.below.trans (hb0.mono hz), fun m' hm' b hb => ?_, fun m' hm' b hb => ?_, fun m1 hm1 m2 hm2 hne b hb => ?_⟩
      · unfold upd at hb
        by_cases h : m'.i = m.i
        · rw [if_pos h] at hb
          cases hb
          rw [hinj m' hm' m hm h]
          exact World.ownsRow.mono (made_row W m.e m.k m.n (hn m hm)) hz
        · rw [if_neg h] at hb
          exact owns_below (hF.own m' hm' b hb) hb0
      · unfold upd at hb
        by_cases h : m'.i = m.i
        · rw [if_pos h] at hb; cases hb; simp
        · rw [if_neg h] at hb
          have := hF.lt m' hm' b hb
          simp; omega
      · unfold upd at hb ⊢
        by_cases h : m1.i = m.i
        · rw [if_pos h] at hb
          cases hb
          rw [if_neg (fun e => hne (h.trans e.symm))]
          intro h3; have := hF.lt m2 hm2 _ h3; omega
        · rw [if_neg h] at hb
          by_cases h' : m2.i = m.i
          · rw [if_pos h']
            intro h3; cases h3
            have := hF.lt m1 hm1 _ hb; omega
          · rw [if_neg h']; exact hF.apart m1 hm1 m2 hm2 hne b hb
end Go.Proofs.Ytfdkaahkhgljdaa.Mix

namespace Go.Proofs.Ytfdkaahkhgljdaa.Slo
open Go.RowKit Go.Shelf Go.Sort Go.Proofs.Ytfdkaahkhgljdaa Go.Proofs.Ytfdkaahkhgljdaa.Occ Go.Proofs.Ytfdkaahkhgljdaa.Frac
attribute [local go_sem] Oper.semAt_some

def emptyV (g n : Nat) : Sl := ⟨g, List.replicate ((n + 63) / 64) 0, List.replicate n 0, List.replicate n 0, List.replicate (n / g) 0, 0⟩
def slOf (b : Option Nat) (n : Nat) : Value := match b with
  | Option.none => undef
  | some b => .slice (some ⟨b, 0, Option.none⟩) n n

def mks (nw n nc : Nat) (i1 i2 i3 i4 d1 d2 d3 d4 x1 x2 x3 x4 : Nat) : List Mix.Mk := [⟨i1, d1, 22, 25, .u64, nw, .tmp x1⟩, ⟨i2, d2, 23, 2, .i64, n, .tmp x2⟩, ⟨i3, d3, 23, 2, .i64, n, .tmp x3⟩, ⟨i4, d4, 24, 3, .i64, nc, .tmp x4⟩]
/-- The four rows, made in whatever order. -/
theorem made_sown {w W : World} {B : Nat → Option Nat} {g n i1 i2 i3 i4 d1 d2 d3 d4 x1 x2 x3 x4 b1 b2 b3 b4 : Nat} (hF : Mix.MadeF (mks ((n + 63) / 64) n (n / g) i1 i2 i3 i4 d1 d2 d3 d4 x1 x2 x3 x4) w W B)
    (h1 : B i1 = some b1) (h2 : B i2 = some b2) (h3 : B i3 = some b3) (h4 : B i4 = some b4) (hi : [i1, i2, i3, i4].Nodup) :
    SOwn W w.heap.size W.heap.size (emptyV g n) ⟨some ⟨b1, 0, Option.none⟩, (n + 63) / 64, some ⟨b2, 0, Option.none⟩, n, some ⟨b3, 0, Option.none⟩, n, some ⟨b4, 0, Option.none⟩, n / g⟩ := by
  have m1 : (⟨i1, d1, 22, 25, .u64, (n + 63) / 64, .tmp x1⟩ : Mix.Mk) ∈ mks ((n + 63) / 64) n (n / g) i1 i2 i3 i4 d1 d2 d3 d4 x1 x2 x3 x4 := by simp [mks]
  have m2 : (⟨i2, d2, 23, 2, .i64, n, .tmp x2⟩ : Mix.Mk) ∈ mks ((n + 63) / 64) n (n / g) i1 i2 i3 i4 d1 d2 d3 d4 x1 x2 x3 x4 := by simp [mks]
  have m3 : (⟨i3, d3, 23, 2, .i64, n, .tmp x3⟩ : Mix.Mk) ∈ mks ((n + 63) / 64) n (n / g) i1 i2 i3 i4 d1 d2 d3 d4 x1 x2 x3 x4 := by simp [mks]
  have m4 : (⟨i4, d4, 24, 3, .i64, n / g, .tmp x4⟩ : Mix.Mk) ∈ mks ((n + 63) / 64) n (n / g) i1 i2 i3 i4 d1 d2 d3 d4 x1 x2 x3 x4 := by simp [mks]
  simp only [List.nodup_cons, List.mem_cons, List.not_mem_nil, or_false, not_or, List.nodup_nil, and_true] at hi
  obtain ⟨⟨n12, n13, n14⟩, ⟨n23, n24⟩, n34, -⟩ := hi
  have ap : ∀ {a b : Nat}, some a ≠ some b → Ap (some ⟨a, 0, Option.none⟩) (some ⟨b, 0, Option.none⟩) := fun {a b} h k e1 e2 => by
    simp only [bl, Option.map_some, Option.some.injEq] at e1 e2
    exact h (by rw [e1, e2])
  have lt : ∀ {b : Nat}, b < W.heap.size → ∀ k, bl (some ⟨b, 0, Option.none⟩) = some k → k < W.heap.size := fun {b} h k e => by
    simp only [bl, Option.map_some, Option.some.injEq] at e
    omega
  have q : ∀ {i j a b : Nat}, B j = some b → B j ≠ some a → some a ≠ some b := fun {i j a b} h hne e => hne (by rw [h, e])
  refine ⟨?_, ?_, ?_, ?_, lt (hF.lt _ m1 _ h1), lt (hF.lt _ m2 _ h2), lt (hF.lt _ m3 _ h3), lt (hF.lt _ m4 _ h4),
    ap (q (i := 0) h2 (hF.apart _ m1 _ m2 n12 _ h1)), ap (q (i := 0) h3 (hF.apart _ m1 _ m3 n13 _ h1)), ap (q (i := 0) h4 (hF.apart _ m1 _ m4 n14 _ h1)), ap (q (i := 0) h3 (hF.apart _ m2 _ m3 n23 _ h2)), ap (q (i := 0) h4 (hF.apart _ m2 _ m4 n24 _ h2)), ap (q (i := 0) h4 (hF.apart _ m3 _ m4 n34 _ h3))⟩
  · simpa [emptyV, Mix.zerosK, numsK] using hF.own _ m1 _ h1
  · simpa [emptyV, Mix.zerosK, numsK] using hF.own _ m2 _ h2
  · simpa [emptyV, Mix.zerosK, numsK] using hF.own _ m3 _ h3
  · simpa [emptyV, Mix.zerosK, numsK] using hF.own _ m4 _ h4

set_option maxRecDepth 100000 in
set_option maxHeartbeats 4000000 in
theorem Empty_any (g n : Nat) (w : World) (hg : 1 ≤ g) (hn : n ≤ 65536) :
    Calls Try.prog 60 #[.int .i64 g, .int .i64 n] w fun e w' => ∃ h', e = .returned (sval (emptyV g n) h') ∧ SOwn w' w.heap.size w'.heap.size (emptyV g n) h' ∧ RowKit.Below w.heap.size w w' := by
  have e1 : IntKind.i64.wrap ((n : Int) + 63) = ((n + 63 : Nat) : Int) := by rw [IntKind.wrap_i64]; omega
  have e2 : Int.tdiv ((n + 63 : Nat) : Int) 64 = (((n + 63) / 64 : Nat) : Int) := by rw [Int.tdiv_eq_ediv_of_nonneg (by omega)]; simp
  have e3 : IntKind.i64.wrap ((((n + 63) / 64 : Nat)) : Int) = (((n + 63) / 64 : Nat) : Int) := by rw [IntKind.wrap_i64]; omega
  have e4 : Int.tdiv (n : Int) (g : Int) = ((n / g : Nat) : Int) := by rw [Int.tdiv_eq_ediv_of_nonneg (by omega)]; simp
  have hq : n / g ≤ n := Nat.div_le_self n g
  have e5 : IntKind.i64.wrap ((n / g : Nat) : Int) = ((n / g : Nat) : Int) := by
    generalize n / g = jj at *
    rw [IntKind.wrap_i64]; omega
  have g0 : ((g : Int) == 0) = false := by rw [beq_eq_false_iff_ne]; omega
  have g1 : (g : Int) ≠ 0 := by omega
  have g2 : g ≠ 0 := by omega
  have hr63 : (n + 63) / 64 ≤ 65536 := by omega
  generalize hnw : (n + 63) / 64 = nw at *
  generalize hnc : n / g = nc at *
  have HNW := Lib.hid hnw; have HNC := Lib.hid hnc
  clear hnw hnc
  generalize hsm : n + 63 = sm at *
  have HSM := Lib.hid hsm
  clear hsm
  go_enter Try.func60, Try.ntmps60
  go_wp2_with fail
  generalize hw0 : World.alloc w _ = w0
  have HW0 := Lib.hid hw0
  clear hw0
  refine Mix.wp_region_plan (fun w' => True) [4, 6, 8, 12, 13, 14] [.free [true, true, true, true, false, true, false, true, false, true, true, true]]
    #[true, true, true, true, false, true, false, true, false, true, true, true, false, false, false] 6 mixed' (by kernel_rfl) (by kernel_rfl) (by kernel_rfl) (fun _ _ _ _ _ h => h) trivial ?_
  simp only [Mix.wpPlan, Mix.maskL]
  repeat (go_big_quiet_step (fail))
  refine wpQuiet_nil ?_
  refine Mix.wpAny_makes (l := [_, _, _, _, _, _, _, _, _, _, _, _, _, _, _]) (mks nw n nc 4 6 8 12 9 11 13 17 8 10 12 16) w0.drew
    (fun B => { tmps := #[.int .i64 g, .int .i64 n, undef, undef, .pointer (some ⟨w.heap.size, 0, Option.none⟩), .int .i64 g, .int .i64 n, .int .i64 sm, .int .i64 nw, slOf (B 4) nw, .int .i64 n, slOf (B 6) n, .int .i64 n, slOf (B 8) n, .int .i64 n, .int .i64 g, .int .i64 nc, slOf (B 12) nc, undef], defers := [] })
    #[true, true, true, true, true, true, true, true, true, true, true, true, true, false, false] 2 ?hop ?hev ?hmk ?hput ?hn ?hinj ?tail 4 [4, 6, 8, 12] _ w0.drew (fun _ => Option.none) (by kernel_rfl) rfl (by decide) ?hM ?hBn ?hF
  case hop => intro m hm; simp [mks] at hm; rcases hm with rfl | rfl | rfl | rfl <;> exact ⟨_, rfl, rfl, rfl, rfl⟩
  case hev => intro m hm B; simp [mks] at hm; rcases hm with rfl | rfl | rfl | rfl <;> rfl
  case hmk =>
    intro m hm W; simp [mks] at hm
    rcases hm with rfl | rfl | rfl | rfl
    · exact run_make_row' 22 25 (.int .u64 0) 8 (by kernel_rfl) (by kernel_rfl) rfl .i64 .i64 nw (by omega) (by omega) W
    · exact run_make_row' 23 2 (.int .i64 0) 8 (by kernel_rfl) (by kernel_rfl) rfl .i64 .i64 n (by omega) (by omega) W
    · exact run_make_row' 23 2 (.int .i64 0) 8 (by kernel_rfl) (by kernel_rfl) rfl .i64 .i64 n (by omega) (by omega) W
    · exact run_make_row' 24 3 (.int .i64 0) 8 (by kernel_rfl) (by kernel_rfl) rfl .i64 .i64 nc (by omega) (by omega) W
  case hput => intro m hm B b; simp [mks] at hm; rcases hm with rfl | rfl | rfl | rfl <;> rfl
  case hn => intro m hm; simp [mks] at hm; unfold maxLen; rcases hm with rfl | rfl | rfl | rfl <;> simp <;> omega
  case hinj => intro m hm m' hm' h; simp [mks] at hm hm'; rcases hm with rfl | rfl | rfl | rfl <;> rcases hm' with rfl | rfl | rfl | rfl <;> first | rfl | (simp at h)
  case hM => intro i hi; simp at hi; simp [mks]; omega
  case hBn => intro m hm; simp [mks] at hm; rcases hm with rfl | rfl | rfl | rfl <;> simp
  case hF => exact ⟨RowKit.Below.refl _ _, (by intro m hm b hb; cases hb), (by intro m hm b hb; cases hb), (by intro m hm m' hm' _ b hb; cases hb)⟩
  case tail =>
    intro W B hF hB
    obtain ⟨b1, h1⟩ := Option.ne_none_iff_exists'.1 (hB ⟨4, 9, 22, 25, .u64, nw, .tmp 8⟩ (by simp [mks]))
    obtain ⟨b2, h2⟩ := Option.ne_none_iff_exists'.1 (hB ⟨6, 11, 23, 2, .i64, n, .tmp 10⟩ (by simp [mks]))
    obtain ⟨b3, h3⟩ := Option.ne_none_iff_exists'.1 (hB ⟨8, 13, 23, 2, .i64, n, .tmp 12⟩ (by simp [mks]))
    obtain ⟨b4, h4⟩ := Option.ne_none_iff_exists'.1 (hB ⟨12, 17, 24, 3, .i64, nc, .tmp 16⟩ (by simp [mks]))
    dsimp only at h1 h2 h3 h4
    have hF' := hF
    rw [← HNC.out, ← HNW.out, ← HSM.out] at hF'
    have HO := Lib.hid (made_sown hF' h1 h2 h3 h4 (by decide))
    have hb := hF.below
    have HX := Lib.hid ((RowKit.Below.refl (w.heap.size + 1) w0).drew.trans (hb.mono (by rw [← HW0.out]; simp)))
    rw [← HW0.out] at HX hb
    have HB : Hid (RowKit.Below w.heap.size w W) := Lib.hid (((RowKit.Below.refl _ w).alloc (Nat.le_refl _) _).drew.trans (hb.mono (by simp)))
    have hsz := hb.size
    have hz : w0.drew.heap.size = w.heap.size + 1 := by rw [← HW0.out]; simp
    rw [hz] at HO
    simp only [h1, h2, h3, h4, slOf]
    obtain ⟨c0, c1, c2, c3, c4, c5⟩ := box6 HX.out
    have f0 := box_frozen HX.out 0; have f1 := box_frozen HX.out 1; have f2 := box_frozen HX.out 2; have f3 := box_frozen HX.out 3; have f4 := box_frozen HX.out 4; have f5 := box_frozen HX.out 5
    rw [HSM.out, HNW.out, HNC.out] at HO
    have HEV : Hid (emptyV g n = ⟨g, List.replicate nw 0, List.replicate n 0, List.replicate n 0, List.replicate nc 0, 0⟩) := Lib.hid (by unfold emptyV; rw [HSM.out, HNW.out, HNC.out])
    clear hF hF' hB h1 h2 h3 h4 hb hsz hz HX e1 e2 e3 e4 e5 g0 g1 g2 hq hr63
    refine Mix.wpAny_tail [false, false, false, false, false, false, false, false, false, false, false, false, false, true, true] (Array.replicate 15 true) (by kernel_rfl) (by kernel_rfl) ?_
    simp only [Mix.maskL]
    go_wp2
    refine bodyPost_ret (v := .agg #[.int .i64 g, .slice (some ⟨b1, 0, Option.none⟩) nw nw, .slice (some ⟨b2, 0, Option.none⟩) n n, .slice (some ⟨b3, 0, Option.none⟩) n n, .slice (some ⟨b4, 0, Option.none⟩) nc nc, .int .u64 0]) (by simp [results, Try.results60, go_sem, *]) rfl ⟨⟨some ⟨b1, 0, Option.none⟩, nw, some ⟨b2, 0, Option.none⟩, n, some ⟨b3, 0, Option.none⟩, n, some ⟨b4, 0, Option.none⟩, nc⟩, by rw [HEV.out]; simp [sval], ?_, ?_⟩
    · have hlow : w.heap.size < w.heap.size + 1 := by omega
      exact ((((((HO.out.set_low _ _ hlow).set_low _ _ hlow).set_low _ _ hlow).set_low _ _ hlow).set_low _ _ hlow).set_low _ _ hlow).mono (by omega) (by simp)
    · exact (((((HB.out.setCell (by simp) _).setCell (by simp) _).setCell (by simp) _).setCell (by simp) _).setCell (by simp) _).setCell (by simp) _
end Go.Proofs.Ytfdkaahkhgljdaa.Slo
