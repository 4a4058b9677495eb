/- Contracts of package slots: Fill. Several 'make's in a region that draws its order: whatever order is picked. No program in sight. Contracts of package slots: new ones. Contracts of package slots: New; the document's New. Contracts of package slots: the document's Twin. A gapped array whose struct lies in a block ahead of its rows. Contracts of package slots: the document's Emptied. -/
import Derived.Test.YtiemfklonhlnnaaMag
import Derived.Deep.OwnRows
set_option linter.unusedSimpArgs false
set_option linter.unusedVariables false
namespace Go.Proofs.Ytiemfklonhlnnaa.Slo
open Go.RowKit Go.Shelf Go.Proofs.Ytiemfklonhlnnaa Go.Proofs.Ytiemfklonhlnnaa.Occ Go.Proofs.Ytiemfklonhlnnaa.Frac
attribute [local go_sem] Oper.semAt_some

/-- The cells of the result, as they began. -/
structure Box0 (W : World) (b : Nat) : Prop where
  c : W.cell? ⟨b, 0, Option.none⟩ = some (.int .i64 0) ∧ W.cell? ⟨b, 1, Option.none⟩ = some (.slice Option.none 0 0) ∧ W.cell? ⟨b, 2, Option.none⟩ = some (.slice Option.none 0 0) ∧ W.cell? ⟨b, 3, Option.none⟩ = some (.slice Option.none 0 0) ∧ W.cell? ⟨b, 4, Option.none⟩ = some (.slice Option.none 0 0) ∧ W.cell? ⟨b, 5, Option.none⟩ = some (.int .u64 0)
  f : ∀ j, W.frozen? ⟨b, j, Option.none⟩ = false
theorem Box0.below {W W' : World} {b m : Nat} (h : Box0 W b) (hb : Below m W W') (hm : b < m) : Box0 W' b :=
  ⟨⟨(hb.cell (p := ⟨b, 0, Option.none⟩) hm).trans h.c.1, (hb.cell (p := ⟨b, 1, Option.none⟩) hm).trans h.c.2.1, (hb.cell (p := ⟨b, 2, Option.none⟩) hm).trans h.c.2.2.1, (hb.cell (p := ⟨b, 3, Option.none⟩) hm).trans h.c.2.2.2.1, (hb.cell (p := ⟨b, 4, Option.none⟩) hm).trans h.c.2.2.2.2.1, (hb.cell (p := ⟨b, 5, Option.none⟩) hm).trans h.c.2.2.2.2.2⟩, fun j => (hb.frozen (p := ⟨b, j, Option.none⟩) hm).trans (h.f j)⟩

set_option maxRecDepth 100000 in
set_option maxHeartbeats 4000000 in
theorem Fill_err (s : Sl) (h : Hd) (f t : Int) (ax : Option Addr) (cx : Nat) (xs : List Int) (al : Option Addr) (cl : Nat) (ps : List (Int × Int)) (w : World) (W : s.Wf) (R : SRd w s h)
    (hv : askS s (inB s.ks.length f t) ≠ 0) :
    Calls Try.prog 64 #[sval s h, .int .i64 f, .int .i64 t, .slice ax xs.length cx, .slice al ps.length cl] w fun e w' => AnsS (fillSV s f t xs ps) w e w' := by
  have HC := Lib.hid (fun w1 (hb : Below w.heap.size w w1) => sPart_any s h f t w1 W (R.mono hb (Nat.le_refl _)))
  have HB : Hid (∀ o1 o2, Below w.heap.size w ((w.alloc o1).alloc o2)) := Lib.hid fun o1 o2 => ((Below.refl _ w).alloc (Nat.le_refl _) _).alloc (by simp) _
  have HV : Hid (fillSV s f t xs ps = (noneS, askS s (inB s.ks.length f t))) := Lib.hid (if_pos hv)
  generalize askS s (inB s.ks.length f t) = c at *
  have hne : (c != 0) = true := by rw [bne_iff_ne]; exact hv
  clear W R hv
  unfold sval at *
  go_enter Try.func64, Try.ntmps64
  go_wp2_with fail
  refine (HC.out _ (HB.out _ _)).mono ?_
  rintro e w1 ⟨rfl, hb⟩
  have HB1 := Lib.hid ((HB.out _ _).trans (hb.mono (HB.out _ _).size))
  have HX1 := Lib.hid (show Below (w.heap.size + 1 + 1) _ w1 by simpa using hb)
  clear hb
  obtain ⟨-, d0, d1, d2, d3, d4, d5⟩ := box66 HX1.out
  have f0 := (box66_frozen HX1.out 0).2; have f1 := (box66_frozen HX1.out 1).2; have f2 := (box66_frozen HX1.out 2).2; have f3 := (box66_frozen HX1.out 3).2; have f4 := (box66_frozen HX1.out 4).2; have f5 := (box66_frozen HX1.out 5).2
  go_wp2
  refine bodyPost_ret (v := .tuple #[.agg #[.int .i64 0, .slice Option.none 0 0, .slice Option.none 0 0, .slice Option.none 0 0, .slice Option.none 0 0, .int .u64 0], .int .i64 c]) (by simp [results, Try.results64, go_sem, *]) rfl ⟨noneH, by rw [HV.out]; dsimp only; rw [sval_none], by rw [HV.out]; exact noneS_own _ _ _, ?_⟩
  exact (((((HB1.out.setCell (by simp) _).setCell (by simp) _).setCell (by simp) _).setCell (by simp) _).setCell (by simp) _).setCell (by simp) _

set_option maxRecDepth 100000 in
set_option maxHeartbeats 4000000 in
theorem Fill_any (s : Sl) (h : Hd) (f t : Int) (ax : Option Addr) (cx : Nat) (xs : List Int) (al : Option Addr) (cl : Nat) (ps : List (Int × Int)) (w : World) (W : s.Wf) (R : SRd w s h)
    (hrx : Rd .i64 w ax xs) (hrp : Rd2 w al ps) (lx : xs.length ≤ 9223372036854775807) (lp : ps.length ≤ 9223372036854775807) :
    Calls Try.prog 64 #[sval s h, .int .i64 f, .int .i64 t, .slice ax xs.length cx, .slice al ps.length cl] w fun e w' => AnsS (fillSV s f t xs ps) w e w' := by
  by_cases hv : askS s (inB s.ks.length f t) = 0
  case neg => exact Fill_err s h f t ax cx xs al cl ps w W R hv
  have HC := Lib.hid (fun w1 (hb : Below w.heap.size w w1) => sPart_any s h f t w1 W (R.mono hb (Nat.le_refl _)))
  have HB : Hid (∀ o1 o2, Below w.heap.size w ((w.alloc o1).alloc o2)) := Lib.hid fun o1 o2 => ((Below.refl _ w).alloc (Nat.le_refl _) _).alloc (by simp) _
  have HSET : Hid (∀ (W' : World), Below w.heap.size w W' → ∀ u0 u1 u2 u3 u4 u5 : Value, Below w.heap.size w ((((((W'.setCell ⟨w.heap.size + 1, 0, Option.none⟩ u0).setCell ⟨w.heap.size + 1, 1, Option.none⟩ u1).setCell ⟨w.heap.size + 1, 2, Option.none⟩ u2).setCell ⟨w.heap.size + 1, 3, Option.none⟩ u3).setCell ⟨w.heap.size + 1, 4, Option.none⟩ u4).setCell ⟨w.heap.size + 1, 5, Option.none⟩ u5)) := Lib.hid fun W' hB u0 u1 u2 u3 u4 u5 =>
    (((((hB.setCell (p := ⟨w.heap.size + 1, 0, Option.none⟩) (by simp) u0).setCell (p := ⟨w.heap.size + 1, 1, Option.none⟩) (by simp) u1).setCell (p := ⟨w.heap.size + 1, 2, Option.none⟩) (by simp) u2).setCell (p := ⟨w.heap.size + 1, 3, Option.none⟩) (by simp) u3).setCell (p := ⟨w.heap.size + 1, 4, Option.none⟩) (by simp) u4).setCell (p := ⟨w.heap.size + 1, 5, Option.none⟩) (by simp) u5
  obtain ⟨hok, hin⟩ := askS_ok hv
  obtain ⟨h0, h1, h2⟩ := inB_iff.1 hin
  have HE1 : Hid (xs.length ≠ ps.length ∨ partB f t xs = false → fillSV s f t xs ps = (noneS, 2)) := Lib.hid fun hh => by
    unfold fillSV; rw [if_neg (by simpa using hv), if_pos hh]
  have HE2 : Hid (xs.length = ps.length → partB f t xs = true → fillSV s f t xs ps = (fillV s f.toNat t.toNat xs ps, 0)) := Lib.hid fun h3 h4 => by
    unfold fillSV; rw [if_neg (by simpa using hv), if_neg (by rw [h4]; simpa using h3)]
  rw [hv] at HC
  obtain ⟨g, q, o⟩ := okS_iff.1 hok
  have hn1 := o.n1
  obtain ⟨f, rfl⟩ := Int.eq_ofNat_of_zero_le h0
  obtain ⟨t, rfl⟩ := Int.eq_ofNat_of_zero_le (by omega : 0 ≤ t)
  have hft : f ≤ t := by omega
  have htn : t ≤ s.ks.length := by omega
  have ht65 : t ≤ 65536 := by omega
  have HI : Hid (Is s g q s.ks.length) := Lib.hid ⟨o, W.u, W.laid, rfl⟩
  have HT := Lib.hid (fun w1 (hb : Below w.heap.size w w1) => sTwin_any s h w1 W (R.mono hb (Nat.le_refl _)) (o.pl R))
  have HTK : Hid (∀ A, f ≤ A → A < t → ∀ lo hi p h w1, Arr w1 lo hi p (clrV s f (A - f)) h → Calls Try.prog 72 #[.pointer (some ⟨p, 0, Option.none⟩), .int .i64 A] w1 fun e w' => (∃ x y, e = .returned (.agg #[.int .i64 x, .int .i64 y])) ∧ Arr w' lo hi p (clrV s f (A + 1 - f)) h ∧ Keeps lo hi w1.heap.size w1 w') := Lib.hid fun A h3 h4 lo hi p h w1 hA => by
    have i := HI.out.clr (f := f) (A - f) (by omega)
    have e1 : clrV s f (A + 1 - f) = takeV (clrV s f (A - f)) A := by
      rw [show A + 1 - f = A - f + 1 by omega]; show takeV _ (f + (A - f)) = _; rw [show f + (A - f) = A by omega]
    rw [e1]
    exact (take_any lo hi p _ h g q A w1 hA i.o i.u (by rw [i.n]; omega)).mono fun e w' ⟨h5, h6, h7⟩ => ⟨⟨_, _, h5⟩, h6, h7⟩
  have HLK : Hid (partB f t xs = true → ∀ k, k < xs.length → ∀ lo hi p h w1, Arr w1 lo hi p (layL (clrV s f (t - f)) xs ps k) h → Calls Try.prog 73 #[.pointer (some ⟨p, 0, Option.none⟩), .int .i64 (xs.getD k 0), .agg #[.int .i64 (ps.getD k (0, 0)).1, .int .i64 (ps.getD k (0, 0)).2]] w1 fun e w' => e = .returned (.tuple #[]) ∧ Arr w' lo hi p (layL (clrV s f (t - f)) xs ps (k + 1)) h ∧ Keeps lo (p + 1) w1.heap.size w1 w') := Lib.hid fun hp k hk lo hi p h w1 hA => by
    have hx : ∀ k, k < xs.length → 0 ≤ xs.getD k 0 ∧ xs.getD k 0 < s.ks.length := fun k hk => by
      have := partB_ge hp k hk; have := (partB_iff.1 hp k hk).2; omega
    have i := (HI.out.clr (f := f) (t - f) (by omega)).layL (ps := ps) hx k (by omega)
    have h3 := hx k hk
    have e1 : xs.getD k 0 = ((xs.getD k 0).toNat : Int) := by omega
    have := lay_any lo hi p _ h g q (xs.getD k 0).toNat (ps.getD k (0, 0)).1 (ps.getD k (0, 0)).2 w1 hA i.o i.u i.l (by rw [i.n]; omega)
    rw [← e1] at this
    exact this
  have HFV : Hid (fillV s f t xs ps = layL (clrV s f (t - f)) xs ps xs.length) := Lib.hid rfl
  have HF0 : Hid (clrV s f (f - f) = s ∧ layL (clrV s f (t - f)) xs ps 0 = clrV s f (t - f)) := Lib.hid ⟨by rw [Nat.sub_self]; rfl, rfl⟩
  simp only [Int.toNat_natCast] at HE2
  generalize hC : (fun A => clrV s f (A - f)) = C at *
  generalize hD : layL (clrV s f (t - f)) xs ps = D at *
  have HC0 : Hid (C f = s ∧ D 0 = C t) := Lib.hid ⟨by rw [← hC]; exact HF0.out.1, by rw [HF0.out.2, ← hC]⟩
  have HTK : Hid (∀ A, f ≤ A → A < t → ∀ lo hi p h w1, Arr w1 lo hi p (C A) h → Calls Try.prog 72 #[.pointer (some ⟨p, 0, Option.none⟩), .int .i64 A] w1 fun e w' => (∃ x y, e = .returned (.agg #[.int .i64 x, .int .i64 y])) ∧ Arr w' lo hi p (C (A + 1)) h ∧ Keeps lo hi w1.heap.size w1 w') := Lib.hid (by rw [← hC]; exact HTK.out)
  rw [HFV.out] at HE2
  have HPB : Hid (partB f t xs = true ↔ ∀ k, k < xs.length → prevV f xs k < xs.getD k 0 ∧ xs.getD k 0 < t) := Lib.hid partB_iff
  clear hC hD HFV HF0 HI hv hok hin h0 h1 h2 W R o hn1 htn
  have HX := Lib.hid hrx
  have HP := Lib.hid hrp
  clear hrx hrp
  unfold sval at *
  go_enter Try.func64, Try.ntmps64
  go_wp2_with fail
  refine (HC.out _ (HB.out _ _)).mono ?_
  rintro e w1 ⟨rfl, hb⟩
  have HB1 := Lib.hid ((HB.out _ _).trans (hb.mono (HB.out _ _).size))
  have HX1 := Lib.hid (show Below (w.heap.size + 1 + 1) _ w1 by simpa using hb)
  clear hb
  have HZ1 : Hid (w.heap.size + 2 ≤ w1.heap.size) := Lib.hid (by have := HX1.out.size; simpa using this)
  obtain ⟨⟨c0, c1, c2, c3, c4, c5⟩, d0, d1, d2, d3, d4, d5⟩ := box66 HX1.out
  have f0 := (box66_frozen HX1.out 0).2; have f1 := (box66_frozen HX1.out 1).2; have f2 := (box66_frozen HX1.out 2).2; have f3 := (box66_frozen HX1.out 3).2; have f4 := (box66_frozen HX1.out 4).2; have f5 := (box66_frozen HX1.out 5).2
  by_cases hlen : xs.length = ps.length
  case neg =>
    have hln : ((xs.length : Int) != (ps.length : Int)) = true := by rw [bne_iff_ne]; omega
    have HV := Lib.hid (HE1.out (.inl hlen))
    clear hlen
    go_wp2
    refine bodyPost_ret (v := .tuple #[.agg #[.int .i64 0, .slice Option.none 0 0, .slice Option.none 0 0, .slice Option.none 0 0, .slice Option.none 0 0, .int .u64 0], .int .i64 2]) (by simp [results, Try.results64, go_sem, *]) rfl ⟨noneH, by rw [HV.out]; dsimp only; rw [sval_none], by rw [HV.out]; exact noneS_own _ _ _, ?_⟩
    exact HSET.out w1 HB1.out _ _ _ _ _ _
  have HLEN := Lib.hid hlen
  have wf1 : IntKind.i64.wrap ((f : Int) - 1) = (f : Int) - 1 := by rw [IntKind.wrap_i64]; omega
  rw [← hlen]
  clear hlen lp
  go_wp2
  go_loop [13, 15, 38] (fun l _ i => ∃ k : Nat, k ≤ xs.length ∧ i = .int .i64 k ∧ l = .int .i64 (prevV f xs k) ∧ ∀ j, j < k → prevV f xs j < xs.getD j 0 ∧ xs.getD j 0 < t) (fun _ _ i => xs.length - (intOf i).toNat)
  case atStart => exact ⟨0, Nat.zero_le _, rfl, rfl, fun j hj => by omega⟩
  case round =>
    obtain ⟨k, hk, rfl, rfl, hlow⟩ := hrel
    have HL := Lib.hid hlow
    clear hlow wf1
    by_cases hlt : k < xs.length
    · obtain ⟨bx, ox, rfl, hcx⟩ := Rd.at HX.out HB1.out (Nat.le_refl _) hlt
      have HN : Hid (prevV f xs (k + 1) = xs.getD k 0) := Lib.hid rfl
      have HF : Hid (¬ (prevV f xs k < xs.getD k 0 ∧ xs.getD k 0 < t) → partB f t xs = false) := Lib.hid fun h => by
        rw [Bool.eq_false_iff]; intro hp; exact h (HPB.out.1 hp k hlt)
      have HG : Hid (prevV f xs k < xs.getD k 0 ∧ xs.getD k 0 < t → ∀ j, j < k + 1 → prevV f xs j < xs.getD j 0 ∧ xs.getD j 0 < t) := Lib.hid fun h j hj => by
        rcases Nat.lt_or_ge j k with h2 | h2
        · exact HL.out j h2
        · obtain rfl : j = k := by omega
          exact h
      generalize prevV f xs k = l0 at *
      generalize xs.getD k 0 = x at *
      by_cases h3 : x ≤ l0
      · have HV := Lib.hid (HE1.out (.inr (HF.out (by omega))))
        clear HF HG HN
        go_wp2
        refine bodyPost_ret (v := .tuple #[.agg #[.int .i64 0, .slice Option.none 0 0, .slice Option.none 0 0, .slice Option.none 0 0, .slice Option.none 0 0, .int .u64 0], .int .i64 2]) (by simp [results, Try.results64, go_sem, *]) rfl ⟨noneH, by rw [HV.out]; dsimp only; rw [sval_none], by rw [HV.out]; exact noneS_own _ _ _, ?_⟩
        exact HSET.out w1 HB1.out _ _ _ _ _ _

      · by_cases h4 : (t : Int) ≤ x
        · have HV := Lib.hid (HE1.out (.inr (HF.out (by omega))))
          clear HF HG HN
          go_wp2
          refine bodyPost_ret (v := .tuple #[.agg #[.int .i64 0, .slice Option.none 0 0, .slice Option.none 0 0, .slice Option.none 0 0, .slice Option.none 0 0, .int .u64 0], .int .i64 2]) (by simp [results, Try.results64, go_sem, *]) rfl ⟨noneH, by rw [HV.out]; dsimp only; rw [sval_none], by rw [HV.out]; exact noneS_own _ _ _, ?_⟩
          exact HSET.out w1 HB1.out _ _ _ _ _ _

        · have HG2 := Lib.hid (HG.out (by omega))
          clear HF HG
          have wk1 : IntKind.i64.wrap ((k : Int) + 1) = (k : Int) + 1 := by rw [IntKind.wrap_i64]; omega
          go_wp2
          go_round
          case rel => exact ⟨k + 1, by omega, by go_num, by rw [HN.out], HG2.out⟩
          case measure => simp [intOf]; omega
    · obtain rfl : k = xs.length := by omega
      have HPT : Hid (partB f t xs = true) := Lib.hid (HPB.out.2 HL.out)
      clear HPB HL hk hlt
      generalize prevV f xs xs.length = l0 at *
      clear d0 d1 d2 d3 d4 d5 f0 f1 f2 f3 f4 f5
      go_wp2_with fail
      refine (HT.out _ HB1.out).mono ?_
      rintro e w2 ⟨h2, rfl, hown, hb⟩
      have HB2 := Lib.hid (HB1.out.trans (hb.mono HB1.out.size))
      have HX2 := Lib.hid (HX1.out.trans (hb.mono (by have := HZ1.out; omega)))
      have hsz := hb.size
      have HA := Lib.hid (arr_new hown hsz 91)
      have HZ : Hid (w.heap.size + 2 ≤ w1.heap.size ∧ w1.heap.size ≤ w2.heap.size) := Lib.hid ⟨HZ1.out, hsz⟩
      clear hown hb hsz c0 c1 c2 c3 c4 c5 HZ1
      have HBA := Lib.hid (HB2.out.alloc HB2.out.size (.cells #[.int .i64 s.seg, .slice h2.aw s.ws.length h2.cw, .slice h2.ak s.ks.length h2.ck, .slice h2.av s.vs.length h2.cv, .slice h2.ac s.cs.length h2.cc, .int .u64 s.laid] 91))
      have HXA := Lib.hid (HX2.out.alloc (by have := HZ.out; omega) (.cells #[.int .i64 s.seg, .slice h2.aw s.ws.length h2.cw, .slice h2.ak s.ks.length h2.ck, .slice h2.av s.vs.length h2.cv, .slice h2.ac s.cs.length h2.cc, .int .u64 s.laid] 91))
      have HA := Lib.hid (show Arr (w2.alloc (.cells #[.int .i64 s.seg, .slice h2.aw s.ws.length h2.cw, .slice h2.ak s.ks.length h2.ck, .slice h2.av s.vs.length h2.cv, .slice h2.ac s.cs.length h2.cc, .int .u64 s.laid] 91)) w1.heap.size w2.heap.size w2.heap.size (C f) h2 by rw [HC0.out.1]; exact HA.out)
      have HZB : Hid (Box0 (w2.alloc (.cells #[.int .i64 s.seg, .slice h2.aw s.ws.length h2.cw, .slice h2.ak s.ks.length h2.ck, .slice h2.av s.vs.length h2.cv, .slice h2.ac s.cs.length h2.cc, .int .u64 s.laid] 91)) (w.heap.size + 1)) := Lib.hid ⟨(box66 HXA.out).2, fun j => (box66_frozen HXA.out j).2⟩
      have HZW : Hid (w2.heap.size < (w2.alloc (.cells #[.int .i64 s.seg, .slice h2.aw s.ws.length h2.cw, .slice h2.ak s.ks.length h2.ck, .slice h2.av s.vs.length h2.cv, .slice h2.ac s.cs.length h2.cc, .int .u64 s.laid] 91)).heap.size) := Lib.hid (by simp)
      clear HX2 HXA HB2
      go_wp2
      generalize w2.alloc (.cells #[.int .i64 s.seg, .slice h2.aw s.ws.length h2.cw, .slice h2.ak s.ks.length h2.ck, .slice h2.av s.vs.length h2.cv, .slice h2.ac s.cs.length h2.cc, .int .u64 s.laid] 91) = wz at *
      generalize w2.heap.size = p at *
      go_loopw [17] (fun i wr => ∃ A : Nat, f ≤ A ∧ A ≤ t ∧ i = .int .i64 A ∧ Arr wr w1.heap.size p p (C A) h2 ∧ Below w.heap.size w wr ∧ Box0 wr (w.heap.size + 1)) (fun i _ => t - (intOf i).toNat)
      case atStart => exact ⟨f, Nat.le_refl _, hft, rfl, HA.out, HBA.out, HZB.out⟩
      case round =>
        obtain ⟨A, hA1, hA2, rfl, hAr, hBl, hBx⟩ := hrel
        have HAr := Lib.hid hAr
        have HBl := Lib.hid hBl
        have HBx := Lib.hid hBx
        clear hAr hBl hBx
        by_cases hlt : A < t
        · have wk1 : IntKind.i64.wrap ((A : Int) + 1) = ((A + 1 : Nat) : Int) := by rw [IntKind.wrap_i64]; omega
          go_wp2_with fail
          refine (HTK.out A hA1 hlt _ _ _ _ _ HAr.out).mono ?_
          rintro e w4 ⟨⟨x, y, rfl⟩, hA4, hk4⟩
          have HA4 := Lib.hid hA4
          have HB4 : Hid (Below w.heap.size w w4) := Lib.hid (HBl.out.trans (hk4.below.mono (by have := HZ.out; omega)))
          have HX4 : Hid (Box0 w4 (w.heap.size + 1)) := Lib.hid (HBx.out.below hk4.below (by have := HZ.out; omega))
          clear hA4 hk4
          go_wp2
          go_round
          case rel => exact ⟨A + 1, by omega, by omega, by go_num, HA4.out, HB4.out, HX4.out⟩
          case measure => simp [intOf]; omega
        · obtain rfl : A = t := by omega
          have hd0 := HC0.out.2
          rw [← hd0] at HAr
          clear HA HBA HZB hd0 hA2 hlt
          go_wp2
          go_loopw [18, 19, 68] (fun _ _ i wr => ∃ k : Nat, k ≤ xs.length ∧ i = .int .i64 k ∧ Arr wr w1.heap.size p p (D k) h2 ∧ Below w.heap.size w wr ∧ Box0 wr (w.heap.size + 1)) (fun _ _ i _ => xs.length - (intOf i).toNat)
          case atStart => exact ⟨0, Nat.zero_le _, rfl, HAr.out, HBl.out, HBx.out⟩
          case round =>
            obtain ⟨k, hk, rfl, hAr, hBl, hBx⟩ := hrel
            clear HAr HBl HBx
            have HAr := Lib.hid hAr
            have HBl := Lib.hid hBl
            have HBx := Lib.hid hBx
            clear hAr hBl hBx
            by_cases hlt : k < xs.length
            · obtain ⟨bx, ox, rfl, hcx⟩ := Rd.at HX.out HBl.out (Nat.le_refl _) hlt
              have hlp : k < ps.length := by rw [← HLEN.out]; exact hlt
              obtain ⟨bp, op, rfl, hp1, hp2⟩ := Rd2.at HP.out HBl.out (Nat.le_refl _) hlp
              have HLY := Lib.hid (HLK.out HPT.out k hlt)
              have wk1 : IntKind.i64.wrap ((k : Int) + 1) = ((k + 1 : Nat) : Int) := by rw [IntKind.wrap_i64]; omega
              clear HLK HTK HC0 HE1 HE2
              generalize xs.getD k 0 = x at *
              generalize ps.getD k (0, 0) = pr at *
              obtain ⟨px, py⟩ := pr
              dsimp only at hp1 hp2
              go_wp2_with fail
              refine (HLY.out _ _ _ _ _ HAr.out).mono ?_
              rintro e w4 ⟨rfl, hA4, hk4⟩
              have HA4 := Lib.hid hA4
              have HB4 : Hid (Below w.heap.size w w4) := Lib.hid (HBl.out.trans (hk4.below.mono (by have := HZ.out; omega)))
              have HX4 : Hid (Box0 w4 (w.heap.size + 1)) := Lib.hid (HBx.out.below hk4.below (by have := HZ.out; omega))
              clear hA4 hk4
              go_wp2
              go_round
              case rel => exact ⟨k + 1, by omega, by go_num, HA4.out, HB4.out, HX4.out⟩
              case measure => simp [intOf]; omega
            · obtain rfl : k = xs.length := by omega
              have HV := Lib.hid (HE2.out HLEN.out HPT.out)
              clear HLK HTK HC0 HE1 HE2 hk hlt
              have hAr := HAr.out
              have b0 := hAr.b0; have b1 := hAr.b1; have b2 := hAr.b2; have b3 := hAr.b3; have b4 := hAr.b4; have b5 := hAr.b5
              have HO := Lib.hid hAr.own
              have hpne : p ≠ w.heap.size + 1 := by have := HZ.out; omega
              have HPW : Hid (p ≤ wr.heap.size) := Lib.hid (by have := hAr.pl; omega)
              obtain ⟨d0, d1, d2, d3, d4, d5⟩ := HBx.out.c
              have f0 := HBx.out.f 0; have f1 := HBx.out.f 1; have f2 := HBx.out.f 2; have f3 := HBx.out.f 3; have f4 := HBx.out.f 4; have f5 := HBx.out.f 5
              clear hAr HAr
              generalize D xs.length = L at *
              go_wp2
              refine bodyPost_ret (v := .tuple #[sval L h2, .int .i64 0]) (by simp [results, Try.results64, sval, go_sem, *]) rfl ⟨h2, by rw [HV.out], ?_, ?_⟩
              · rw [HV.out]
                have hlow : w.heap.size + 1 < w1.heap.size := by have := HZ.out; omega
                exact ((((((HO.out.set_low _ _ hlow).set_low _ _ hlow).set_low _ _ hlow).set_low _ _ hlow).set_low _ _ hlow).set_low _ _ hlow).mono (by have := HZ.out; omega) (by have := HPW.out; simp; omega)
              · exact HSET.out wr HBl.out _ _ _ _ _ _
end Go.Proofs.Ytiemfklonhlnnaa.Slo

namespace Go.Proofs.Ytiemfklonhlnnaa.Mix
open Go Go.RowKit

/-- One 'make([]T, n)': which operation, where its value goes, the slice's type, the element's type and kind, how many, and the operand. -/
structure Mk where
  i : Nat
  d : Tmp
  t : TypeId
  e : TypeId
  k : IntKind
  n : Nat
  x : Operand
def zerosK (k : IntKind) (n : Nat) : List Value := (List.replicate n (0 : Int)).map (Value.int k)
def upd (B : Nat → Option Nat) (i b : Nat) : Nat → Option Nat := fun j => if j = i then some b else B j
/-- What has been made: rows of their own, apart. -/
structure MadeF (M : List Mk) (w W : World) (B : Nat → Option Nat) : Prop where
  below : RowKit.Below w.heap.size w W
  own : ∀ m ∈ M, ∀ b, B m.i = some b → W.ownsRow w.heap.size m.e 1 (.slice (some ⟨b, 0, Option.none⟩) m.n m.n) m.n (zerosK m.k m.n)
  lt : ∀ m ∈ M, ∀ b, B m.i = some b → b < W.heap.size
  apart : ∀ m ∈ M, ∀ m' ∈ M, m.i ≠ m'.i → ∀ b, B m.i = some b → B m'.i ≠ some b
theorem made_list (z : Int) (k : IntKind) (n : Nat) : (madeCells (Value.int k z).cells n).toList = List.replicate n (Value.int k z) := by
  unfold madeCells
  apply List.ext_getElem
  · simp
  · intro i h1 h2
    simp [Value.cells, Nat.mod_one]
theorem made_row (w : World) (e : TypeId) (k : IntKind) (n : Nat) (h : n ≤ maxLen) : (w.alloc (.cells (madeCells #[Value.int k 0] n) e)).ownsRow w.heap.size e 1 (.slice (some ⟨w.heap.size, 0, Option.none⟩) n n) n (zerosK k n) := by
  refine ⟨by simp [zerosK], .inr ⟨w.heap.size, n, _, rfl, Nat.le_refl _, heap_alloc_new w _, Nat.le_refl _, h, by rw [size_madeCells]; simp, ?_⟩⟩
  have : (madeCells #[Value.int k 0] n).toList = List.replicate n (Value.int k 0) := made_list 0 k n
  rw [this, zerosK, List.map_replicate, Nat.mul_one, List.take_of_length_le (by simp)]

/-- In every order just those of 'todo' come up, till 'le' is reached. -/
def mkB (md : Region.Mode) (ops : Array Oper) (le : Array Bool) : Nat → List Nat → Array Bool → Bool
  | 0, _, listed => decide (listed = le)
  | f + 1, todo, listed => !(Region.ready md ops listed).isEmpty && (Region.ready md ops listed).all fun i => todo.contains i && mkB md ops le f (todo.erase i) (listed.setIfInBounds i true)

theorem wpAny_makes {P : Program} {md : Region.Mode} {l : List Oper} {Q : Exit → Act → World → Prop} (M : List Mk) (w : World) (acts : (Nat → Option Nat) → Act) (le : Array Bool) (fuel : Nat)
    (hop : ∀ m ∈ M, ∃ o, l.toArray[m.i]? = some o ∧ o.op = Op.makeSlice m.t m.x m.x ∧ o.dst = some m.d ∧ o.guard = Option.none)
    (hev : ∀ m ∈ M, ∀ B, (acts B).eval m.x = .int .i64 (m.n : Int))
    (hmk : ∀ m ∈ M, ∀ W, (Instr.makeSlice m.t (.int .i64 (m.n : Int)) (.int .i64 (m.n : Int))).run P W = .ok (.slice (some ⟨W.heap.size, 0, Option.none⟩) m.n m.n) (W.alloc (.cells (madeCells #[Value.int m.k 0] m.n) m.e)))
    (hput : ∀ m ∈ M, ∀ B b, (acts B).put (some m.d) (.slice (some ⟨b, 0, Option.none⟩) m.n m.n) = acts (upd B m.i b))
    (hn : ∀ m ∈ M, m.n ≤ maxLen) (hinj : ∀ m ∈ M, ∀ m' ∈ M, m.i = m'.i → m = m')
    (tail : ∀ W B, MadeF M w W B → (∀ m ∈ M, B m.i ≠ Option.none) → wpAny P md l.toArray Q fuel le (acts B) W) :
    ∀ (f : Nat) (todo : List Nat) (listed : Array Bool) (W : World) (B : Nat → Option Nat), mkB md l.toArray le f todo listed = true → todo.length = f → todo.Nodup → (∀ i ∈ todo, ∃ m ∈ M, m.i = i) → (∀ m ∈ M, m.i ∈ todo ↔ B m.i = Option.none) → MadeF M w W B →
      wpAny P md l.toArray Q (fuel + f) listed (acts B) W
  | 0, todo, listed, W, B, hB, hl, _, _, hBn, hF => by
    have e : listed = le := of_decide_eq_true hB
    subst e
    refine tail W B hF fun m hm h => ?_
    have := (hBn m hm).2 h
    rw [List.eq_nil_of_length_eq_zero hl] at this
    cases this
  | f + 1, todo, listed, W, B, hB, hl, hnd, hM, hBn, hF => by
    simp only [mkB, Bool.and_eq_true, Bool.not_eq_true', List.isEmpty_eq_false_iff] at hB
    show wpAny P md l.toArray Q ((fuel + f) + 1) listed (acts B) W
    refine ⟨fun h => absurd h hB.1, fun i hi => ?_⟩
    have h2 := List.all_eq_true.1 hB.2 i hi
    simp only [Bool.and_eq_true] at h2
    have hit : i ∈ todo := by simpa using h2.1
    obtain ⟨m, hm, rfl⟩ := hM i hit
    obtain ⟨o, ho, hop1, hd, hg⟩ := hop m hm
    unfold wpOp
    simp only [ho]
    rw [if_pos (by simp [Region.wanted, hg])]
    left
    unfold Oper.wp
    simp [execOp, hop1, hev m hm B, hmk m hm W, Result.andThen, Oper.upon_value]
    rw [hd, hput m hm B]
    have hb0 : RowKit.Below W.heap.size W (W.alloc (.cells (madeCells #[Value.int m.k 0] m.n) m.e)) := (RowKit.Below.refl _ W).alloc (Nat.le_refl _) _
    have hz := hF.below.size
    refine wpAny_makes M w acts le fuel hop hev hmk hput hn hinj tail f (todo.erase m.i) _ _ (upd B m.i W.heap.size) h2.2 (by rw [List.length_erase_of_mem hit, hl]; rfl) (hnd.erase _) (fun j hj => hM j (List.mem_of_mem_erase hj)) ?_ ?_
    · intro m' hm'
      rw [hnd.mem_erase_iff]
      unfold upd
      by_cases h : m'.i = m.i
      · rw [if_pos h]; simp [h]
      · rw [if_neg h]; simp [h, hBn m' hm']
    · refine ⟨hF.below.trans (hb0.mono hz), fun m' hm' b hb => ?_, fun m' hm' b hb => ?_, fun m1 hm1 m2 hm2 hne b hb => ?_⟩
      · unfold upd at hb
        by_cases h : m'.i = m.i
        · rw [if_pos h] at hb
          cases hb
          rw [hinj m' hm' m hm h]
          exact World.ownsRow.mono (made_row W m.e m.k m.n (hn m hm)) hz
        · rw [if_neg h] at hb
          exact owns_below (hF.own m' hm' b hb) hb0
      · unfold upd at hb
        by_cases h : m'.i = m.i
        · rw [if_pos h] at hb; cases hb; simp
        · rw [if_neg h] at hb
          have := hF.lt m' hm' b hb
          simp; omega
      · unfold upd at hb ⊢
        by_cases h : m1.i = m.i
        · rw [if_pos h] at hb
          cases hb
          rw [if_neg (fun e => hne (h.trans e.symm))]
          intro h3; have := hF.lt m2 hm2 _ h3; omega
        · rw [if_neg h] at hb
          by_cases h' : m2.i = m.i
          · rw [if_pos h']
            intro h3; cases h3
            have := hF.lt m1 hm1 _ hb; omega
          · rw [if_neg h']; exact hF.apart m1 hm1 m2 hm2 hne b hb
end Go.Proofs.Ytiemfklonhlnnaa.Mix

namespace Go.Proofs.Ytiemfklonhlnnaa.Slo
open Go.RowKit Go.Shelf Go.Sort Go.Proofs.Ytiemfklonhlnnaa Go.Proofs.Ytiemfklonhlnnaa.Occ Go.Proofs.Ytiemfklonhlnnaa.Frac
attribute [local go_sem] Oper.semAt_some

def emptyV (g n : Nat) : Sl := ⟨g, List.replicate ((n + 63) / 64) 0, List.replicate n 0, List.replicate n 0, List.replicate (n / g) 0, 0⟩
def slOf (b : Option Nat) (n : Nat) : Value := match b with
  | Option.none => undef
  | some b => .slice (some ⟨b, 0, Option.none⟩) n n

def mks (nw n nc : Nat) (i1 i2 i3 i4 d1 d2 d3 d4 x1 x2 x3 x4 : Nat) : List Mix.Mk := [⟨i1, d1, 24, 27, .u64, nw, .tmp x1⟩, ⟨i2, d2, 25, 2, .i64, n, .tmp x2⟩, ⟨i3, d3, 25, 2, .i64, n, .tmp x3⟩, ⟨i4, d4, 26, 3, .i64, nc, .tmp x4⟩]
/-- The four rows, made in whatever order. -/
theorem made_sown {w W : World} {B : Nat → Option Nat} {g n i1 i2 i3 i4 d1 d2 d3 d4 x1 x2 x3 x4 b1 b2 b3 b4 : Nat} (hF : Mix.MadeF (mks ((n + 63) / 64) n (n / g) i1 i2 i3 i4 d1 d2 d3 d4 x1 x2 x3 x4) w W B)
    (h1 : B i1 = some b1) (h2 : B i2 = some b2) (h3 : B i3 = some b3) (h4 : B i4 = some b4) (hi : [i1, i2, i3, i4].Nodup) :
    SOwn W w.heap.size W.heap.size (emptyV g n) ⟨some ⟨b1, 0, Option.none⟩, (n + 63) / 64, some ⟨b2, 0, Option.none⟩, n, some ⟨b3, 0, Option.none⟩, n, some ⟨b4, 0, Option.none⟩, n / g⟩ := by
  have m1 : (⟨i1, d1, 24, 27, .u64, (n + 63) / 64, .tmp x1⟩ : Mix.Mk) ∈ mks ((n + 63) / 64) n (n / g) i1 i2 i3 i4 d1 d2 d3 d4 x1 x2 x3 x4 := by simp [mks]
  have m2 : (⟨i2, d2, 25, 2, .i64, n, .tmp x2⟩ : Mix.Mk) ∈ mks ((n + 63) / 64) n (n / g) i1 i2 i3 i4 d1 d2 d3 d4 x1 x2 x3 x4 := by simp [mks]
  have m3 : (⟨i3, d3, 25, 2, .i64, n, .tmp x3⟩ : Mix.Mk) ∈ mks ((n + 63) / 64) n (n / g) i1 i2 i3 i4 d1 d2 d3 d4 x1 x2 x3 x4 := by simp [mks]
  have m4 : (⟨i4, d4, 26, 3, .i64, n / g, .tmp x4⟩ : Mix.Mk) ∈ mks ((n + 63) / 64) n (n / g) i1 i2 i3 i4 d1 d2 d3 d4 x1 x2 x3 x4 := by simp [mks]
  simp only [List.nodup_cons, List.mem_cons, List.not_mem_nil, or_false, not_or, List.nodup_nil, and_true] at hi
  obtain ⟨⟨n12, n13, n14⟩, ⟨n23, n24⟩, n34, -⟩ := hi
  have ap : ∀ {a b : Nat}, some a ≠ some b → Ap (some ⟨a, 0, Option.none⟩) (some ⟨b, 0, Option.none⟩) := fun {a b} h k e1 e2 => by
    simp only [bl, Option.map_some, Option.some.injEq] at e1 e2
    exact h (by rw [e1, e2])
  have lt : ∀ {b : Nat}, b < W.heap.size → ∀ k, bl (some ⟨b, 0, Option.none⟩) = some k → k < W.heap.size := fun {b} h k e => by
    simp only [bl, Option.map_some, Option.some.injEq] at e
    omega
  have q : ∀ {i j a b : Nat}, B j = some b → B j ≠ some a → some a ≠ some b := fun {i j a b} h hne e => hne (by rw [h, e])
  refine ⟨?_, ?_, ?_, ?_, lt (hF.lt _ m1 _ h1), lt (hF.lt _ m2 _ h2), lt (hF.lt _ m3 _ h3), lt (hF.lt _ m4 _ h4),
    ap (q (i := 0) h2 (hF.apart _ m1 _ m2 n12 _ h1)), ap (q (i := 0) h3 (hF.apart _ m1 _ m3 n13 _ h1)), ap (q (i := 0) h4 (hF.apart _ m1 _ m4 n14 _ h1)), ap (q (i := 0) h3 (hF.apart _ m2 _ m3 n23 _ h2)), ap (q (i := 0) h4 (hF.apart _ m2 _ m4 n24 _ h2)), ap (q (i := 0) h4 (hF.apart _ m3 _ m4 n34 _ h3))⟩
  · simpa [emptyV, Mix.zerosK, numsK] using hF.own _ m1 _ h1
  · simpa [emptyV, Mix.zerosK, numsK] using hF.own _ m2 _ h2
  · simpa [emptyV, Mix.zerosK, numsK] using hF.own _ m3 _ h3
  · simpa [emptyV, Mix.zerosK, numsK] using hF.own _ m4 _ h4

end Go.Proofs.Ytiemfklonhlnnaa.Slo

namespace Go.Proofs.Ytiemfklonhlnnaa.Slo
open Go.RowKit Go.Shelf Go.Sort Go.Proofs.Ytiemfklonhlnnaa Go.Proofs.Ytiemfklonhlnnaa.Occ Go.Proofs.Ytiemfklonhlnnaa.Frac
attribute [local go_sem] Oper.semAt_some

def newSV (g n : Int) : Sl × Int := if fitsB g n = true then (emptyV g.toNat n.toNat, 0) else (noneS, 2)

set_option maxRecDepth 100000 in
set_option maxHeartbeats 4000000 in
theorem New_any (g n : Int) (w : World) (wg : (Lit.int .i64 g).wf = true) (wn : (Lit.int .i64 n).wf = true) :
    Calls Try.prog 28 #[.int .i64 g, .int .i64 n] w fun e w' => AnsS (newSV g n) w e w' := by
  have HC := Lib.hid (fun w1 => fits_any g n w1 wg wn)
  cases hf : fitsB g n
  case false =>
    have HV : Hid (newSV g n = (noneS, 2)) := Lib.hid (by unfold newSV; rw [hf]; rfl)
    rw [hf] at HC
    clear wg wn hf
    go_enter Try.func28, Try.ntmps28
    go_wp2_with fail
    refine (HC.out _).mono ?_
    rintro e w1 ⟨rfl, rfl⟩
    go_wp2
    refine bodyPost_ret (v := .tuple #[.agg #[.int .i64 0, .slice Option.none 0 0, .slice Option.none 0 0, .slice Option.none 0 0, .slice Option.none 0 0, .int .u64 0], .int .i64 2]) (by simp [results, Try.results28, go_sem, *]) rfl ⟨noneH, by rw [HV.out]; dsimp only; rw [sval_none], by rw [HV.out]; exact noneS_own _ _ _, ?_⟩
    exact (RowKit.Below.refl _ w).alloc (Nat.le_refl _) _
  case true =>
    have HV : Hid (newSV g n = (emptyV g.toNat n.toNat, 0)) := Lib.hid (by unfold newSV; rw [hf]; rfl)
    rw [hf] at HC
    obtain ⟨h1, h2, -, h3, h4, -, -⟩ := fitsB_iff.1 hf
    obtain ⟨g, rfl⟩ := Int.eq_ofNat_of_zero_le (by omega : 0 ≤ g)
    obtain ⟨n, rfl⟩ := Int.eq_ofNat_of_zero_le (by omega : 0 ≤ n)
    rw [Int.toNat_natCast, Int.toNat_natCast] at HV
    have hg : 1 ≤ g := by omega
    have hn : n ≤ 65536 := by omega
    clear wg wn hf h1 h2 h3 h4
    have e1 : IntKind.i64.wrap ((n : Int) + 63) = ((n + 63 : Nat) : Int) := by rw [IntKind.wrap_i64]; omega
    have e2 : Int.tdiv ((n + 63 : Nat) : Int) 64 = (((n + 63) / 64 : Nat) : Int) := by rw [Int.tdiv_eq_ediv_of_nonneg (by omega)]; simp
    have e3 : IntKind.i64.wrap ((((n + 63) / 64 : Nat)) : Int) = (((n + 63) / 64 : Nat) : Int) := by rw [IntKind.wrap_i64]; omega
    have e4 : Int.tdiv (n : Int) (g : Int) = ((n / g : Nat) : Int) := by rw [Int.tdiv_eq_ediv_of_nonneg (by omega)]; simp
    have hq : n / g ≤ n := Nat.div_le_self n g
    have e5 : IntKind.i64.wrap ((n / g : Nat) : Int) = ((n / g : Nat) : Int) := by
      generalize n / g = jj at *
      rw [IntKind.wrap_i64]; omega
    have g0 : ((g : Int) == 0) = false := by rw [beq_eq_false_iff_ne]; omega
    have g1 : (g : Int) ≠ 0 := by omega
    have g2 : g ≠ 0 := by omega
    have hr63 : (n + 63) / 64 ≤ 65536 := by omega
    generalize hnw : (n + 63) / 64 = nw at *
    generalize hnc : n / g = nc at *
    have HNW := Lib.hid hnw; have HNC := Lib.hid hnc
    clear hnw hnc
    generalize hsm : n + 63 = sm at *
    have HSM := Lib.hid hsm
    clear hsm
    go_enter Try.func28, Try.ntmps28
    go_wp2_with fail
    refine (HC.out _).mono ?_
    rintro e w1 ⟨rfl, rfl⟩
    go_wp2_with fail
    generalize hw0 : World.alloc w _ = w0
    have HW0 := Lib.hid hw0
    clear hw0
    refine Mix.wp_region_plan (fun w' => True) [4, 6, 8, 12, 13, 14, 15] [.free [true, true, true, true, false, true, false, true, false, true, true, true]]
      #[true, true, true, true, false, true, false, true, false, true, true, true, false, false, false, false] 7 mixed' (by kernel_rfl) (by kernel_rfl) (by kernel_rfl) (fun _ _ _ _ _ h => h) trivial ?_
    simp only [Mix.wpPlan, Mix.maskL]
    repeat (go_big_quiet_step (fail))
    refine wpQuiet_nil ?_
    refine Mix.wpAny_makes (l := [_, _, _, _, _, _, _, _, _, _, _, _, _, _, _, _]) (mks nw n nc 4 6 8 12 15 17 19 23 14 16 18 22) w0.drew
      (fun B => { tmps := #[.int .i64 g, .int .i64 n, undef, undef, .pointer (some ⟨w.heap.size, 0, Option.none⟩), .int .i64 0, .int .i64 g, .int .i64 n, .bool true, .bool false, undef, .int .i64 g, .int .i64 n, .int .i64 sm, .int .i64 nw, slOf (B 4) nw, .int .i64 n, slOf (B 6) n, .int .i64 n, slOf (B 8) n, .int .i64 n, .int .i64 g, .int .i64 nc, slOf (B 12) nc, undef], defers := [] })
      #[true, true, true, true, true, true, true, true, true, true, true, true, true, false, false, false] 3 ?hop ?hev ?hmk ?hput ?hn ?hinj ?tail 4 [4, 6, 8, 12] _ w0.drew (fun _ => Option.none) (by kernel_rfl) rfl (by decide) ?hM ?hBn ?hF
    case hop => intro m hm; simp [mks] at hm; rcases hm with rfl | rfl | rfl | rfl <;> exact ⟨_, rfl, rfl, rfl, rfl⟩
    case hev => intro m hm B; simp [mks] at hm; rcases hm with rfl | rfl | rfl | rfl <;> rfl
    case hmk =>
      intro m hm W; simp [mks] at hm
      rcases hm with rfl | rfl | rfl | rfl
      · exact run_make_row' 24 27 (.int .u64 0) 8 (by kernel_rfl) (by kernel_rfl) rfl .i64 .i64 nw (by omega) (by omega) W
      · exact run_make_row' 25 2 (.int .i64 0) 8 (by kernel_rfl) (by kernel_rfl) rfl .i64 .i64 n (by omega) (by omega) W
      · exact run_make_row' 25 2 (.int .i64 0) 8 (by kernel_rfl) (by kernel_rfl) rfl .i64 .i64 n (by omega) (by omega) W
      · exact run_make_row' 26 3 (.int .i64 0) 8 (by kernel_rfl) (by kernel_rfl) rfl .i64 .i64 nc (by omega) (by omega) W
    case hput => intro m hm B b; simp [mks] at hm; rcases hm with rfl | rfl | rfl | rfl <;> rfl
    case hn => intro m hm; simp [mks] at hm; unfold maxLen; rcases hm with rfl | rfl | rfl | rfl <;> simp <;> omega
    case hinj => intro m hm m' hm' h; simp [mks] at hm hm'; rcases hm with rfl | rfl | rfl | rfl <;> rcases hm' with rfl | rfl | rfl | rfl <;> first | rfl | (simp at h)
    case hM => intro i hi; simp at hi; simp [mks]; omega
    case hBn => intro m hm; simp [mks] at hm; rcases hm with rfl | rfl | rfl | rfl <;> simp
    case hF => exact ⟨RowKit.Below.refl _ _, (by intro m hm b hb; cases hb), (by intro m hm b hb; cases hb), (by intro m hm m' hm' _ b hb; cases hb)⟩
    case tail =>
      intro W B hF hB
      obtain ⟨b1, h1⟩ := Option.ne_none_iff_exists'.1 (hB ⟨4, 15, 24, 27, .u64, nw, .tmp 14⟩ (by simp [mks]))
      obtain ⟨b2, h2⟩ := Option.ne_none_iff_exists'.1 (hB ⟨6, 17, 25, 2, .i64, n, .tmp 16⟩ (by simp [mks]))
      obtain ⟨b3, h3⟩ := Option.ne_none_iff_exists'.1 (hB ⟨8, 19, 25, 2, .i64, n, .tmp 18⟩ (by simp [mks]))
      obtain ⟨b4, h4⟩ := Option.ne_none_iff_exists'.1 (hB ⟨12, 23, 26, 3, .i64, nc, .tmp 22⟩ (by simp [mks]))
      dsimp only at h1 h2 h3 h4
      have hF' := hF
      rw [← HNC.out, ← HNW.out, ← HSM.out] at hF'
      have HO := Lib.hid (made_sown hF' h1 h2 h3 h4 (by decide))
      have hb := hF.below
      have HX := Lib.hid ((RowKit.Below.refl (w.heap.size + 1) w0).drew.trans (hb.mono (by rw [← HW0.out]; simp)))
      rw [← HW0.out] at HX hb
      have HB : Hid (RowKit.Below w.heap.size w W) := Lib.hid (((RowKit.Below.refl _ w).alloc (Nat.le_refl _) _).drew.trans (hb.mono (by simp)))
      have hsz := hb.size
      have hz : w0.drew.heap.size = w.heap.size + 1 := by rw [← HW0.out]; simp
      rw [hz] at HO
      simp only [h1, h2, h3, h4, slOf]
      obtain ⟨c0, c1, c2, c3, c4, c5⟩ := box6 HX.out
      have f0 := box_frozen HX.out 0; have f1 := box_frozen HX.out 1; have f2 := box_frozen HX.out 2; have f3 := box_frozen HX.out 3; have f4 := box_frozen HX.out 4; have f5 := box_frozen HX.out 5
      rw [HSM.out, HNW.out, HNC.out] at HO
      have HEV : Hid (emptyV g n = ⟨g, List.replicate nw 0, List.replicate n 0, List.replicate n 0, List.replicate nc 0, 0⟩) := Lib.hid (by unfold emptyV; rw [HSM.out, HNW.out, HNC.out])
      clear hF hF' hB h1 h2 h3 h4 hb hsz hz HX e1 e2 e3 e4 e5 g0 g1 g2 hq hr63
      refine Mix.wpAny_tail [false, false, false, false, false, false, false, false, false, false, false, false, false, true, true, true] (Array.replicate 16 true) (by kernel_rfl) (by kernel_rfl) ?_
      simp only [Mix.maskL]
      go_wp2
      refine bodyPost_ret (v := .tuple #[.agg #[.int .i64 g, .slice (some ⟨b1, 0, Option.none⟩) nw nw, .slice (some ⟨b2, 0, Option.none⟩) n n, .slice (some ⟨b3, 0, Option.none⟩) n n, .slice (some ⟨b4, 0, Option.none⟩) nc nc, .int .u64 0], .int .i64 0]) (by simp [results, Try.results28, go_sem, *]) rfl ⟨⟨some ⟨b1, 0, Option.none⟩, nw, some ⟨b2, 0, Option.none⟩, n, some ⟨b3, 0, Option.none⟩, n, some ⟨b4, 0, Option.none⟩, nc⟩, by rw [HV.out, HEV.out]; simp [sval], ?_, ?_⟩
      · rw [HV.out]
        have hlow : w.heap.size < w.heap.size + 1 := by omega
        exact ((((((HO.out.set_low _ _ hlow).set_low _ _ hlow).set_low _ _ hlow).set_low _ _ hlow).set_low _ _ hlow).set_low _ _ hlow).mono (by omega) (by simp)
      · exact (((((HB.out.setCell (by simp) _).setCell (by simp) _).setCell (by simp) _).setCell (by simp) _).setCell (by simp) _).setCell (by simp) _

end Go.Proofs.Ytiemfklonhlnnaa.Slo

namespace Go.Proofs.Ytiemfklonhlnnaa.Slo
open Go.RowKit Go.Shelf Go.Sort Go.Proofs.Ytiemfklonhlnnaa Go.Proofs.Ytiemfklonhlnnaa.Occ Go.Proofs.Ytiemfklonhlnnaa.Frac
attribute [local go_sem] Oper.semAt_some

/-- A slice without an address has no room. -/
structure HNo (h : Hd) : Prop where
  w : h.aw = Option.none → h.cw = 0
  k : h.ak = Option.none → h.ck = 0
  v : h.av = Option.none → h.cv = 0
  c : h.ac = Option.none → h.cc = 0
theorem own_no {w : World} {lo n m c : Nat} {e : TypeId} {a : Option Addr} {xs : List Value} (h : w.ownsRow lo e 1 (.slice a n c) m xs) : a = Option.none → c = 0 := by
  rintro rfl
  rcases h.2 with ⟨h1, h2⟩ | ⟨g, cap, cur, h1, _⟩
  · simp only [Value.slice.injEq] at h1; exact h1.2.2
  · cases h1
theorem SOwn.no {w : World} {lo hi : Nat} {s : Sl} {h : Hd} (o : SOwn w lo hi s h) : HNo h := ⟨own_no o.ow, own_no o.ok, own_no o.ov, own_no o.oc⟩

/-- A struct of six in its own block. -/
structure BoxC (W : World) (b : Nat) (v0 v1 v2 v3 v4 v5 : Value) : Prop where
  c0 : W.cell? ⟨b, 0, Option.none⟩ = some v0
  c1 : W.cell? ⟨b, 1, Option.none⟩ = some v1
  c2 : W.cell? ⟨b, 2, Option.none⟩ = some v2
  c3 : W.cell? ⟨b, 3, Option.none⟩ = some v3
  c4 : W.cell? ⟨b, 4, Option.none⟩ = some v4
  c5 : W.cell? ⟨b, 5, Option.none⟩ = some v5
  f : ∀ j, W.frozen? ⟨b, j, Option.none⟩ = false
theorem BoxC.below {W W' : World} {b m : Nat} {v0 v1 v2 v3 v4 v5 : Value} (h : BoxC W b v0 v1 v2 v3 v4 v5) (hb : RowKit.Below m W W') (hm : b < m) : BoxC W' b v0 v1 v2 v3 v4 v5 :=
  ⟨(hb.cell (p := ⟨b, 0, Option.none⟩) hm).trans h.c0, (hb.cell (p := ⟨b, 1, Option.none⟩) hm).trans h.c1, (hb.cell (p := ⟨b, 2, Option.none⟩) hm).trans h.c2, (hb.cell (p := ⟨b, 3, Option.none⟩) hm).trans h.c3, (hb.cell (p := ⟨b, 4, Option.none⟩) hm).trans h.c4, (hb.cell (p := ⟨b, 5, Option.none⟩) hm).trans h.c5, fun j => (hb.frozen (p := ⟨b, j, Option.none⟩) hm).trans (h.f j)⟩
theorem BoxC.other {W : World} {b : Nat} {v0 v1 v2 v3 v4 v5 : Value} (h : BoxC W b v0 v1 v2 v3 v4 v5) (p : Addr) (u : Value) (hp : p.block ≠ b) : BoxC (W.setCell p u) b v0 v1 v2 v3 v4 v5 :=
  have n : ∀ j, p ≠ ⟨b, j, Option.none⟩ := fun j e => hp (by rw [e])
  ⟨(World.cell?_setCell_other _ _ _ _ (n 0)).trans h.c0, (World.cell?_setCell_other _ _ _ _ (n 1)).trans h.c1, (World.cell?_setCell_other _ _ _ _ (n 2)).trans h.c2, (World.cell?_setCell_other _ _ _ _ (n 3)).trans h.c3, (World.cell?_setCell_other _ _ _ _ (n 4)).trans h.c4, (World.cell?_setCell_other _ _ _ _ (n 5)).trans h.c5, fun j => by rw [World.frozen?_setCell]; exact h.f j⟩
theorem BoxC.set0 {W : World} {b : Nat} {v0 v1 v2 v3 v4 v5 : Value} (h : BoxC W b v0 v1 v2 v3 v4 v5) (u : Value) : BoxC (W.setCell ⟨b, 0, Option.none⟩ u) b u v1 v2 v3 v4 v5 :=
  ⟨World.cell?_setCell_same _ _ _ h.c0, (World.cell?_setCell_other _ _ _ _ (by simp)).trans h.c1, (World.cell?_setCell_other _ _ _ _ (by simp)).trans h.c2, (World.cell?_setCell_other _ _ _ _ (by simp)).trans h.c3, (World.cell?_setCell_other _ _ _ _ (by simp)).trans h.c4, (World.cell?_setCell_other _ _ _ _ (by simp)).trans h.c5, fun j => by rw [World.frozen?_setCell]; exact h.f j⟩
theorem BoxC.set1 {W : World} {b : Nat} {v0 v1 v2 v3 v4 v5 : Value} (h : BoxC W b v0 v1 v2 v3 v4 v5) (u : Value) : BoxC (W.setCell ⟨b, 1, Option.none⟩ u) b v0 u v2 v3 v4 v5 :=
  ⟨(World.cell?_setCell_other _ _ _ _ (by simp)).trans h.c0, World.cell?_setCell_same _ _ _ h.c1, (World.cell?_setCell_other _ _ _ _ (by simp)).trans h.c2, (World.cell?_setCell_other _ _ _ _ (by simp)).trans h.c3, (World.cell?_setCell_other _ _ _ _ (by simp)).trans h.c4, (World.cell?_setCell_other _ _ _ _ (by simp)).trans h.c5, fun j => by rw [World.frozen?_setCell]; exact h.f j⟩
theorem BoxC.set2 {W : World} {b : Nat} {v0 v1 v2 v3 v4 v5 : Value} (h : BoxC W b v0 v1 v2 v3 v4 v5) (u : Value) : BoxC (W.setCell ⟨b, 2, Option.none⟩ u) b v0 v1 u v3 v4 v5 :=
  ⟨(World.cell?_setCell_other _ _ _ _ (by simp)).trans h.c0, (World.cell?_setCell_other _ _ _ _ (by simp)).trans h.c1, World.cell?_setCell_same _ _ _ h.c2, (World.cell?_setCell_other _ _ _ _ (by simp)).trans h.c3, (World.cell?_setCell_other _ _ _ _ (by simp)).trans h.c4, (World.cell?_setCell_other _ _ _ _ (by simp)).trans h.c5, fun j => by rw [World.frozen?_setCell]; exact h.f j⟩
theorem BoxC.set3 {W : World} {b : Nat} {v0 v1 v2 v3 v4 v5 : Value} (h : BoxC W b v0 v1 v2 v3 v4 v5) (u : Value) : BoxC (W.setCell ⟨b, 3, Option.none⟩ u) b v0 v1 v2 u v4 v5 :=
  ⟨(World.cell?_setCell_other _ _ _ _ (by simp)).trans h.c0, (World.cell?_setCell_other _ _ _ _ (by simp)).trans h.c1, (World.cell?_setCell_other _ _ _ _ (by simp)).trans h.c2, World.cell?_setCell_same _ _ _ h.c3, (World.cell?_setCell_other _ _ _ _ (by simp)).trans h.c4, (World.cell?_setCell_other _ _ _ _ (by simp)).trans h.c5, fun j => by rw [World.frozen?_setCell]; exact h.f j⟩
theorem BoxC.set4 {W : World} {b : Nat} {v0 v1 v2 v3 v4 v5 : Value} (h : BoxC W b v0 v1 v2 v3 v4 v5) (u : Value) : BoxC (W.setCell ⟨b, 4, Option.none⟩ u) b v0 v1 v2 v3 u v5 :=
  ⟨(World.cell?_setCell_other _ _ _ _ (by simp)).trans h.c0, (World.cell?_setCell_other _ _ _ _ (by simp)).trans h.c1, (World.cell?_setCell_other _ _ _ _ (by simp)).trans h.c2, (World.cell?_setCell_other _ _ _ _ (by simp)).trans h.c3, World.cell?_setCell_same _ _ _ h.c4, (World.cell?_setCell_other _ _ _ _ (by simp)).trans h.c5, fun j => by rw [World.frozen?_setCell]; exact h.f j⟩
theorem BoxC.set5 {W : World} {b : Nat} {v0 v1 v2 v3 v4 v5 : Value} (h : BoxC W b v0 v1 v2 v3 v4 v5) (u : Value) : BoxC (W.setCell ⟨b, 5, Option.none⟩ u) b v0 v1 v2 v3 v4 u :=
  ⟨(World.cell?_setCell_other _ _ _ _ (by simp)).trans h.c0, (World.cell?_setCell_other _ _ _ _ (by simp)).trans h.c1, (World.cell?_setCell_other _ _ _ _ (by simp)).trans h.c2, (World.cell?_setCell_other _ _ _ _ (by simp)).trans h.c3, (World.cell?_setCell_other _ _ _ _ (by simp)).trans h.c4, World.cell?_setCell_same _ _ _ h.c5, fun j => by rw [World.frozen?_setCell]; exact h.f j⟩
theorem BoxC.new (w : World) (v0 v1 v2 v3 v4 v5 : Value) (t : TypeId) : BoxC (w.alloc (.cells #[v0, v1, v2, v3, v4, v5] t)) w.heap.size v0 v1 v2 v3 v4 v5 := by
  obtain ⟨c0, c1, c2, c3, c4, c5⟩ := box6 (w := w) (RowKit.Below.refl _ (w.alloc (.cells #[v0, v1, v2, v3, v4, v5] t)))
  exact ⟨c0, c1, c2, c3, c4, c5, fun j => frozen_new _ _ _ _⟩

end Go.Proofs.Ytiemfklonhlnnaa.Slo

namespace Go.Proofs.Ytiemfklonhlnnaa.Slo
open Go.RowKit Go.Shelf Go.Proofs.Ytiemfklonhlnnaa Go.Proofs.Ytiemfklonhlnnaa.Occ Go.Proofs.Ytiemfklonhlnnaa.Frac

structure Brr (w : World) (lo p : Nat) (s : Sl) (h : Hd) : Prop where
  own : SOwn w lo w.heap.size s h
  low : p < lo
  hl : lo ≤ w.heap.size
  box : BoxC w p (.int .i64 s.seg) (.slice h.aw s.ws.length h.cw) (.slice h.ak s.ks.length h.ck) (.slice h.av s.vs.length h.cv) (.slice h.ac s.cs.length h.cc) (.int .u64 s.laid)
theorem Brr.below {w w' : World} {lo p : Nat} {s : Sl} {h : Hd} (B : Brr w lo p s h) (hb : Below w.heap.size w w') : Brr w' lo p s h :=
  ⟨(B.own.below hb).mono (Nat.le_refl _) hb.size, B.low, Nat.le_trans B.hl hb.size, B.box.below hb (Nat.lt_of_lt_of_le B.low B.hl)⟩
/-- A store into another block ahead of the rows. -/
theorem Brr.other {w : World} {lo p : Nat} {s : Sl} {h : Hd} (B : Brr w lo p s h) (q : Addr) (u : Value) (h1 : q.block ≠ p) (h2 : q.block < lo) : Brr (w.setCell q u) lo p s h :=
  ⟨(B.own.set_low q u h2).mono (Nat.le_refl _) (by simp), B.low, by simpa using B.hl, B.box.other q u h1⟩
theorem Brr.set_w {w : World} {lo p : Nat} {s : Sl} {h : Hd} (B : Brr w lo p s h) {g j : Nat} (x : Int) (hg : h.aw = some ⟨g, 0, Option.none⟩) : Brr (w.setCell ⟨g, j, Option.none⟩ (.int .u64 x)) lo p { s with ws := s.ws.set j x } h := by
  have o := B.own
  have hn : ∀ a, Ap h.aw a → bl a ≠ some g := fun a ha => ha g (by rw [hg]; rfl)
  have hlo := (own_lt o.ow g (by rw [hg]; rfl)).1
  have ow := o.ow
  rw [hg] at ow
  have bx := B.box.other ⟨g, j, Option.none⟩ (.int .u64 x) (by show g ≠ p; have := B.low; omega)
  refine ⟨⟨?_, own_other o.ok _ _ (hn _ o.wk), own_other o.ov _ _ (hn _ o.wv), own_other o.oc _ _ (hn _ o.wc), (by simpa using o.hw), (by simpa using o.hk), (by simpa using o.hv), (by simpa using o.hc), o.wk, o.wv, o.wc, o.kv, o.kc, o.vc⟩, B.low, by simpa using B.hl, ?_⟩
  · show World.ownsRow _ _ _ _ (.slice h.aw (s.ws.set j x).length h.cw) (s.ws.set j x).length (numsK .u64 (s.ws.set j x))
    rw [hg, List.length_set, numsK_set]; exact (ow.stored j _).1
  · simpa using bx
theorem Brr.set_k {w : World} {lo p : Nat} {s : Sl} {h : Hd} (B : Brr w lo p s h) {g j : Nat} (x : Int) (hg : h.ak = some ⟨g, 0, Option.none⟩) : Brr (w.setCell ⟨g, j, Option.none⟩ (.int .i64 x)) lo p { s with ks := s.ks.set j x } h := by
  have o := B.own
  have hn : ∀ a, Ap h.ak a → bl a ≠ some g := fun a ha => ha g (by rw [hg]; rfl)
  have hlo := (own_lt o.ok g (by rw [hg]; rfl)).1
  have ow := o.ok
  rw [hg] at ow
  have bx := B.box.other ⟨g, j, Option.none⟩ (.int .i64 x) (by show g ≠ p; have := B.low; omega)
  refine ⟨⟨own_other o.ow _ _ (hn _ o.wk.symm), ?_, own_other o.ov _ _ (hn _ o.kv), own_other o.oc _ _ (hn _ o.kc), (by simpa using o.hw), (by simpa using o.hk), (by simpa using o.hv), (by simpa using o.hc), o.wk, o.wv, o.wc, o.kv, o.kc, o.vc⟩, B.low, by simpa using B.hl, ?_⟩
  · show World.ownsRow _ _ _ _ (.slice h.ak (s.ks.set j x).length h.ck) (s.ks.set j x).length (numsK .i64 (s.ks.set j x))
    rw [hg, List.length_set, numsK_set]; exact (ow.stored j _).1
  · simpa using bx
theorem Brr.set_v {w : World} {lo p : Nat} {s : Sl} {h : Hd} (B : Brr w lo p s h) {g j : Nat} (x : Int) (hg : h.av = some ⟨g, 0, Option.none⟩) : Brr (w.setCell ⟨g, j, Option.none⟩ (.int .i64 x)) lo p { s with vs := s.vs.set j x } h := by
  have o := B.own
  have hn : ∀ a, Ap h.av a → bl a ≠ some g := fun a ha => ha g (by rw [hg]; rfl)
  have hlo := (own_lt o.ov g (by rw [hg]; rfl)).1
  have ow := o.ov
  rw [hg] at ow
  have bx := B.box.other ⟨g, j, Option.none⟩ (.int .i64 x) (by show g ≠ p; have := B.low; omega)
  refine ⟨⟨own_other o.ow _ _ (hn _ o.wv.symm), own_other o.ok _ _ (hn _ o.kv.symm), ?_, own_other o.oc _ _ (hn _ o.vc), (by simpa using o.hw), (by simpa using o.hk), (by simpa using o.hv), (by simpa using o.hc), o.wk, o.wv, o.wc, o.kv, o.kc, o.vc⟩, B.low, by simpa using B.hl, ?_⟩
  · show World.ownsRow _ _ _ _ (.slice h.av (s.vs.set j x).length h.cv) (s.vs.set j x).length (numsK .i64 (s.vs.set j x))
    rw [hg, List.length_set, numsK_set]; exact (ow.stored j _).1
  · simpa using bx
theorem Brr.set_c {w : World} {lo p : Nat} {s : Sl} {h : Hd} (B : Brr w lo p s h) {g j : Nat} (x : Int) (hg : h.ac = some ⟨g, 0, Option.none⟩) : Brr (w.setCell ⟨g, j, Option.none⟩ (.int .i64 x)) lo p { s with cs := s.cs.set j x } h := by
  have o := B.own
  have hn : ∀ a, Ap h.ac a → bl a ≠ some g := fun a ha => ha g (by rw [hg]; rfl)
  have hlo := (own_lt o.oc g (by rw [hg]; rfl)).1
  have ow := o.oc
  rw [hg] at ow
  have bx := B.box.other ⟨g, j, Option.none⟩ (.int .i64 x) (by show g ≠ p; have := B.low; omega)
  refine ⟨⟨own_other o.ow _ _ (hn _ o.wc.symm), own_other o.ok _ _ (hn _ o.kc.symm), own_other o.ov _ _ (hn _ o.vc.symm), ?_, (by simpa using o.hw), (by simpa using o.hk), (by simpa using o.hv), (by simpa using o.hc), o.wk, o.wv, o.wc, o.kv, o.kc, o.vc⟩, B.low, by simpa using B.hl, ?_⟩
  · show World.ownsRow _ _ _ _ (.slice h.ac (s.cs.set j x).length h.cc) (s.cs.set j x).length (numsK .i64 (s.cs.set j x))
    rw [hg, List.length_set, numsK_set]; exact (ow.stored j _).1
  · simpa using bx
theorem Brr.set_laid {w : World} {lo p : Nat} {s : Sl} {h : Hd} (B : Brr w lo p s h) (x : Int) : Brr (w.setCell ⟨p, 5, Option.none⟩ (.int .u64 x)) lo p { s with laid := x } h := by
  have o := (B.own.set_low ⟨p, 5, Option.none⟩ (.int .u64 x) B.low).mono (Nat.le_refl _) (show w.heap.size ≤ (w.setCell ⟨p, 5, Option.none⟩ (.int .u64 x)).heap.size by simp)
  exact ⟨⟨o.ow, o.ok, o.ov, o.oc, o.hw, o.hk, o.hv, o.hc, o.wk, o.wv, o.wc, o.kv, o.kc, o.vc⟩, B.low, by simpa using B.hl, B.box.set5 _⟩
/-- New words. -/
theorem Brr.put_w {w w' : World} {lo p : Nat} {s : Sl} {h : Hd} (B : Brr w lo p s h) {a : Option Addr} {c : Nat} {ws : List Int} (hb : Below w.heap.size w w') (hl : ws.length = s.ws.length) (hw : w'.ownsRow w.heap.size 27 1 (.slice a ws.length c) ws.length (numsK .u64 ws)) :
    Brr (w'.setCell ⟨p, 1, Option.none⟩ (.slice a ws.length c)) lo p { s with ws := ws } { h with aw := a, cw := c } := by
  have o := B.own.below hb
  have lt := own_lt hw
  have l := B.hl
  have m : ∀ {b n : Nat} {e : TypeId} {v : Value} {xs : List Value}, lo ≤ b → w'.ownsRow b e 1 v n xs → (w'.setCell ⟨p, 1, Option.none⟩ (.slice a ws.length c)).ownsRow lo e 1 v n xs := fun {b n e v xs} hb2 h => World.ownsRow.mono (own_set h ⟨p, 1, Option.none⟩ _ (by have := B.low; show p < b; omega)) hb2
  have z := hb.size
  have f : ∀ {x : Option Addr}, (∀ k, bl x = some k → k < w.heap.size) → Ap a x := fun {x} hx k h1 h2 => by have := lt k h1; have := hx k h2; omega
  refine ⟨⟨m l hw, m (Nat.le_refl _) o.ok, m (Nat.le_refl _) o.ov, m (Nat.le_refl _) o.oc, fun k hk => by have := lt k hk; simp; omega, fun k hk => by have := o.hk k hk; simp; omega, fun k hk => by have := o.hv k hk; simp; omega, fun k hk => by have := o.hc k hk; simp; omega, f o.hk, f o.hv, f o.hc, o.kv, o.kc, o.vc⟩, B.low, by simp; omega, ?_⟩
  exact (B.box.below hb (by have := B.low; omega)).set1 _
end Go.Proofs.Ytiemfklonhlnnaa.Slo

namespace Go.Proofs.Ytiemfklonhlnnaa.Slo
open Go.RowKit Go.Shelf Go.Proofs.Ytiemfklonhlnnaa Go.Proofs.Ytiemfklonhlnnaa.Occ Go.Proofs.Ytiemfklonhlnnaa.Frac
attribute [local go_sem] Oper.semAt_some

theorem own_open {w : World} {lo j c : Nat} {e : TypeId} {k : IntKind} {a : Option Addr} {zs : List Int} (h : w.ownsRow lo e 1 (.slice a zs.length c) zs.length (numsK k zs)) (hj : j < zs.length) :
    ∃ g, a = some ⟨g, 0, Option.none⟩ ∧ w.cell? ⟨g, j, Option.none⟩ = some (.int k (zs.getD j 0)) ∧ w.frozen? ⟨g, j, Option.none⟩ = false ∧ lo ≤ g := by
  obtain ⟨g, c1, e1, l1, _⟩ := owns_form h (by omega)
  simp only [Value.slice.injEq] at e1
  have h2 := h
  rw [e1.1] at h2
  exact ⟨g, e1.1, by rw [h2.cellAt j (by omega), numsK_at hj], h2.frozenAt j, l1⟩

end Go.Proofs.Ytiemfklonhlnnaa.Slo
