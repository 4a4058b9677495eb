/- Contracts of package slots: the document's Fill. What came in: a pair; how long answers are. -/
import Derived.Test.YtfdkaahkhgljdaaMao
set_option linter.unusedSimpArgs false
set_option linter.unusedVariables false
namespace Go.Proofs.Ytfdkaahkhgljdaa.Slo
open Go.RowKit Go.Shelf Go.Sort Go.Proofs.Ytfdkaahkhgljdaa Go.Proofs.Ytfdkaahkhgljdaa.Occ Go.Proofs.Ytfdkaahkhgljdaa.Frac
attribute [local go_sem] Oper.semAt_some

/-- A part that may be filled, as the document tells it. -/
theorem partB_ends {f t : Int} {xs : List Int} : partB f t xs = true ↔ risesB xs = true ∧ (0 < xs.length → f ≤ xs.getD 0 0 ∧ xs.getD (xs.length - 1) 0 < t) := by
  constructor
  · intro h
    have hr := rises_of h
    refine ⟨risesB_iff.2 fun i hi => hr i (i + 1) (by omega) hi, fun hl => ⟨partB_ge h 0 hl, (partB_iff.1 h (xs.length - 1) (by omega)).2⟩⟩
  · rintro ⟨h1, h2⟩
    have hr : ∀ j k, j < k → k < xs.length → xs.getD j 0 < xs.getD k 0 := by
      intro j k hjk hk
      induction k with
      | zero => omega
      | succ k ih =>
        have h3 := risesB_iff.1 h1 k hk
        rcases Nat.lt_or_ge j k with h | h
        · have := ih h (by omega); omega
        · obtain rfl : j = k := by omega
          exact h3
    refine partB_iff.2 fun k hk => ?_
    obtain ⟨h3, h4⟩ := h2 (by omega)
    constructor
    · unfold prevV
      by_cases e : k = 0
      · subst e; rw [if_pos rfl]; omega
      · rw [if_neg e]; exact hr (k - 1) k (by omega) hk
    · by_cases e : k = xs.length - 1
      · rw [e]; exact h4
      · have := hr k (xs.length - 1) (by omega) (by omega); omega

set_option maxRecDepth 100000 in
set_option maxHeartbeats 8000000 in
theorem refFill_any (s : Sl) (h : Hd) (f t : Int) (ax : Option Addr) (cx : Nat) (xs : List Int) (al : Option Addr) (cl : Nat) (ps : List (Int × Int)) (w : World) (W : s.Wf) (R : SRd w s h) (N : HNo h)
    (hrx : Rd .i64 w ax xs) (hrp : Rd2 w al ps) (lx : xs.length ≤ 1000000) (lp : ps.length ≤ 1000000) :
    Calls Try.prog 13 #[sval s h, .int .i64 f, .int .i64 t, .slice ax xs.length cx, .slice al ps.length cl] w fun e w' => AnsS (fillSV s f t xs ps) w e w' := by
  have HM := Lib.hid (sMay_any s h (twoW w s h (.cells #[.int .i64 0, .slice Option.none 0 0, .slice Option.none 0 0, .slice Option.none 0 0, .slice Option.none 0 0, .int .u64 0] 27)) W (R.mono (twoW_below w s h _) (Nat.le_refl _)))
  have HB0 := Lib.hid (twoW_below w s h (.cells #[.int .i64 0, .slice Option.none 0 0, .slice Option.none 0 0, .slice Option.none 0 0, .slice Option.none 0 0, .int .u64 0] 27))
  have HX0 := Lib.hid (twoW_box w s h (.cells #[.int .i64 0, .slice Option.none 0 0, .slice Option.none 0 0, .slice Option.none 0 0, .slice Option.none 0 0, .int .u64 0] 27))
  have HZ0 := Lib.hid (twoW_zero w s h)
  have HS0 := Lib.hid (twoW_size w s h (.cells #[.int .i64 0, .slice Option.none 0 0, .slice Option.none 0 0, .slice Option.none 0 0, .slice Option.none 0 0, .int .u64 0] 27))
  have HPT := Lib.hid (fun w1 => refPart_any (s.ks.length : Int) f t w1)
  have HRI := Lib.hid (fun w1 (hb : Below w.heap.size w w1) => rises_any ax cx xs w1 (hrx.mono hb (Nat.le_refl _)) (by omega))
  cases hok : okS s
  case false =>
    have HV : Hid (fillSV s f t xs ps = (noneS, 8)) := Lib.hid (by unfold fillSV; rw [askS_none hok]; rfl)
    rw [hok] at HM
    clear hok W R N hrx hrp HPT HRI lx lp

    generalize hL : fillSV s f t xs ps = LV at *
    clear hL
    unfold sval at *
    go_enter Try.func13, Try.ntmps13
    go_wp2_with fail
    rw [twoW_fold]
    refine HM.out.mono ?_
    rintro e w1 ⟨rfl, hb⟩
    have HB1 : Hid (Below w.heap.size w w1) := Lib.hid (HB0.out.trans (hb.mono HB0.out.size))
    have HX1 := Lib.hid (HX0.out.below hb (by have := HS0.out; omega))
    have HD1 := Lib.hid (HZ0.out.below hb (by have := HS0.out; omega))
    have HL1 : Hid (w.heap.size + 2 ≤ w1.heap.size) := Lib.hid (by have := hb.size; have := HS0.out; omega)
    clear hb HB0 HX0 HZ0 HM HS0
    generalize twoW w s h (.cells #[.int .i64 0, .slice Option.none 0 0, .slice Option.none 0 0, .slice Option.none 0 0, .slice Option.none 0 0, .int .u64 0] 27) = w0 at *
    have d0 := HD1.out.c0; have d1 := HD1.out.c1; have d2 := HD1.out.c2; have d3 := HD1.out.c3; have d4 := HD1.out.c4; have d5 := HD1.out.c5
    have f0 := HD1.out.f 0; have f1 := HD1.out.f 1; have f2 := HD1.out.f 2; have f3 := HD1.out.f 3; have f4 := HD1.out.f 4; have f5 := HD1.out.f 5
    go_wp2
    rw [stZ_fold]
    have q0 := (stS_box (s := noneS) (h := noneH) HD1.out).c0; have q1 := (stS_box (s := noneS) (h := noneH) HD1.out).c1; have q2 := (stS_box (s := noneS) (h := noneH) HD1.out).c2; have q3 := (stS_box (s := noneS) (h := noneH) HD1.out).c3; have q4 := (stS_box (s := noneS) (h := noneH) HD1.out).c4; have q5 := (stS_box (s := noneS) (h := noneH) HD1.out).c5
    refine bodyPost_ret (v := .tuple #[sval noneS noneH, .int .i64 8]) (by simp [results, Try.results13, sval, go_sem, q0, q1, q2, q3, q4, q5]) rfl ⟨noneH, by rw [HV.out], by rw [HV.out]; exact noneS_own _ _ _, stS_below HB1.out (by omega)⟩
  case true =>
    rw [hok] at HM
    cases hin : inB (s.ks.length : Int) f t
    case false =>
      have HV : Hid (fillSV s f t xs ps = (noneS, 2)) := Lib.hid (by unfold fillSV; rw [hin, askS_out hok]; rfl)
      rw [hin] at HPT
      clear hok hin W R N hrx hrp HRI lx lp

      generalize hL : fillSV s f t xs ps = LV at *
      clear hL
      unfold sval at *
      go_enter Try.func13, Try.ntmps13
      go_wp2_with fail
      rw [twoW_fold]
      refine HM.out.mono ?_
      rintro e w1 ⟨rfl, hb⟩
      have HB1 : Hid (Below w.heap.size w w1) := Lib.hid (HB0.out.trans (hb.mono HB0.out.size))
      have HX1 := Lib.hid (HX0.out.below hb (by have := HS0.out; omega))
      have HD1 := Lib.hid (HZ0.out.below hb (by have := HS0.out; omega))
      have HL1 : Hid (w.heap.size + 2 ≤ w1.heap.size) := Lib.hid (by have := hb.size; have := HS0.out; omega)
      clear hb HB0 HX0 HZ0 HM HS0
      generalize twoW w s h (.cells #[.int .i64 0, .slice Option.none 0 0, .slice Option.none 0 0, .slice Option.none 0 0, .slice Option.none 0 0, .int .u64 0] 27) = w0 at *
      have c2 := HX1.out.c2
      go_wp2_with fail
      refine (HPT.out _).mono ?_
      rintro e w1x ⟨rfl, rfl⟩
      have d0 := HD1.out.c0; have d1 := HD1.out.c1; have d2 := HD1.out.c2; have d3 := HD1.out.c3; have d4 := HD1.out.c4; have d5 := HD1.out.c5
      have f0 := HD1.out.f 0; have f1 := HD1.out.f 1; have f2 := HD1.out.f 2; have f3 := HD1.out.f 3; have f4 := HD1.out.f 4; have f5 := HD1.out.f 5
      go_wp2
      rw [stZ_fold]
      have q0 := (stS_box (s := noneS) (h := noneH) HD1.out).c0; have q1 := (stS_box (s := noneS) (h := noneH) HD1.out).c1; have q2 := (stS_box (s := noneS) (h := noneH) HD1.out).c2; have q3 := (stS_box (s := noneS) (h := noneH) HD1.out).c3; have q4 := (stS_box (s := noneS) (h := noneH) HD1.out).c4; have q5 := (stS_box (s := noneS) (h := noneH) HD1.out).c5
      refine bodyPost_ret (v := .tuple #[sval noneS noneH, .int .i64 2]) (by simp [results, Try.results13, sval, go_sem, q0, q1, q2, q3, q4, q5]) rfl ⟨noneH, by rw [HV.out], by rw [HV.out]; exact noneS_own _ _ _, stS_below HB1.out (by omega)⟩
    case true =>
      rw [hin] at HPT
      by_cases hlen : xs.length = ps.length
      case neg =>
        have HV : Hid (fillSV s f t xs ps = (noneS, 2)) := Lib.hid (by unfold fillSV; rw [hin, askS_in hok, if_neg (by simp), if_pos (.inl hlen)])
        have hln : ((xs.length : Int) != (ps.length : Int)) = true := by rw [bne_iff_ne]; omega
        clear hok hin W R N hrx hrp HRI lx lp hlen

        generalize hL : fillSV s f t xs ps = LV at *
        clear hL
        unfold sval at *
        go_enter Try.func13, Try.ntmps13
        go_wp2_with fail
        rw [twoW_fold]
        refine HM.out.mono ?_
        rintro e w1 ⟨rfl, hb⟩
        have HB1 : Hid (Below w.heap.size w w1) := Lib.hid (HB0.out.trans (hb.mono HB0.out.size))
        have HX1 := Lib.hid (HX0.out.below hb (by have := HS0.out; omega))
        have HD1 := Lib.hid (HZ0.out.below hb (by have := HS0.out; omega))
        have HL1 : Hid (w.heap.size + 2 ≤ w1.heap.size) := Lib.hid (by have := hb.size; have := HS0.out; omega)
        clear hb HB0 HX0 HZ0 HM HS0
        generalize twoW w s h (.cells #[.int .i64 0, .slice Option.none 0 0, .slice Option.none 0 0, .slice Option.none 0 0, .slice Option.none 0 0, .int .u64 0] 27) = w0 at *
        have c2 := HX1.out.c2
        go_wp2_with fail
        refine (HPT.out _).mono ?_
        rintro e w1x ⟨rfl, rfl⟩
        have d0 := HD1.out.c0; have d1 := HD1.out.c1; have d2 := HD1.out.c2; have d3 := HD1.out.c3; have d4 := HD1.out.c4; have d5 := HD1.out.c5
        have f0 := HD1.out.f 0; have f1 := HD1.out.f 1; have f2 := HD1.out.f 2; have f3 := HD1.out.f 3; have f4 := HD1.out.f 4; have f5 := HD1.out.f 5
        go_wp2
        rw [stZ_fold]
        have q0 := (stS_box (s := noneS) (h := noneH) HD1.out).c0; have q1 := (stS_box (s := noneS) (h := noneH) HD1.out).c1; have q2 := (stS_box (s := noneS) (h := noneH) HD1.out).c2; have q3 := (stS_box (s := noneS) (h := noneH) HD1.out).c3; have q4 := (stS_box (s := noneS) (h := noneH) HD1.out).c4; have q5 := (stS_box (s := noneS) (h := noneH) HD1.out).c5
        refine bodyPost_ret (v := .tuple #[sval noneS noneH, .int .i64 2]) (by simp [results, Try.results13, sval, go_sem, q0, q1, q2, q3, q4, q5]) rfl ⟨noneH, by rw [HV.out], by rw [HV.out]; exact noneS_own _ _ _, stS_below HB1.out (by omega)⟩
      case pos =>
        have hln : ((xs.length : Int) != (ps.length : Int)) = false := by rw [bne_eq_false_iff_eq]; omega
        cases hri : risesB xs
        case false =>
          have HV : Hid (fillSV s f t xs ps = (noneS, 2)) := Lib.hid (by
            unfold fillSV; rw [hin, askS_in hok, if_neg (by simp), if_pos]; right
            rw [Bool.eq_false_iff]; intro g; have := (partB_ends.1 g).1; rw [hri] at this; cases this)
          rw [hri] at HRI
          have HPL := Lib.hid hlen
          clear hok hin W R N hrx hrp lx lp hri hlen

          generalize hL : fillSV s f t xs ps = LV at *
          clear hL
          unfold sval at *
          go_enter Try.func13, Try.ntmps13
          go_wp2_with fail
          rw [twoW_fold]
          refine HM.out.mono ?_
          rintro e w1 ⟨rfl, hb⟩
          have HB1 : Hid (Below w.heap.size w w1) := Lib.hid (HB0.out.trans (hb.mono HB0.out.size))
          have HX1 := Lib.hid (HX0.out.below hb (by have := HS0.out; omega))
          have HD1 := Lib.hid (HZ0.out.below hb (by have := HS0.out; omega))
          have HL1 : Hid (w.heap.size + 2 ≤ w1.heap.size) := Lib.hid (by have := hb.size; have := HS0.out; omega)
          clear hb HB0 HX0 HZ0 HM HS0
          generalize twoW w s h (.cells #[.int .i64 0, .slice Option.none 0 0, .slice Option.none 0 0, .slice Option.none 0 0, .slice Option.none 0 0, .int .u64 0] 27) = w0 at *
          have c2 := HX1.out.c2
          go_wp2_with fail
          refine (HPT.out _).mono ?_
          rintro e w1x ⟨rfl, rfl⟩
          go_wp2_with fail
          refine (HRI.out _ HB1.out).mono ?_
          rintro e w2 ⟨rfl, hb⟩
          have HB2 : Hid (Below w.heap.size w w2) := Lib.hid (HB1.out.trans (hb.mono HB1.out.size))
          have HX2 := Lib.hid (HX1.out.below hb (by have := HL1.out; omega))
          have HD2 := Lib.hid (HD1.out.below hb (by have := HL1.out; omega))
          have HL2 : Hid (w.heap.size + 2 ≤ w2.heap.size) := Lib.hid (by have := hb.size; have := HL1.out; omega)
          clear hb HX1 HD1 HL1 HB1
          clear c2
          have d0 := HD2.out.c0; have d1 := HD2.out.c1; have d2 := HD2.out.c2; have d3 := HD2.out.c3; have d4 := HD2.out.c4; have d5 := HD2.out.c5
          have f0 := HD2.out.f 0; have f1 := HD2.out.f 1; have f2 := HD2.out.f 2; have f3 := HD2.out.f 3; have f4 := HD2.out.f 4; have f5 := HD2.out.f 5
          go_wp2
          rw [stZ_fold]
          have q0 := (stS_box (s := noneS) (h := noneH) HD2.out).c0; have q1 := (stS_box (s := noneS) (h := noneH) HD2.out).c1; have q2 := (stS_box (s := noneS) (h := noneH) HD2.out).c2; have q3 := (stS_box (s := noneS) (h := noneH) HD2.out).c3; have q4 := (stS_box (s := noneS) (h := noneH) HD2.out).c4; have q5 := (stS_box (s := noneS) (h := noneH) HD2.out).c5
          refine bodyPost_ret (v := .tuple #[sval noneS noneH, .int .i64 2]) (by simp [results, Try.results13, sval, go_sem, q0, q1, q2, q3, q4, q5]) rfl ⟨noneH, by rw [HV.out], by rw [HV.out]; exact noneS_own _ _ _, stS_below HB2.out (by omega)⟩
        case true =>
          rw [hri] at HRI
          by_cases hpos : 0 < xs.length
          case neg =>
            have e1 : xs = [] := List.eq_nil_of_length_eq_zero (by omega)
            have e2 : ps = [] := List.eq_nil_of_length_eq_zero (by omega)

            have hp : partB f t xs = true := partB_ends.2 ⟨hri, fun h => absurd h hpos⟩
            have HV : Hid (fillSV s f t xs ps = (fillV s f.toNat t.toNat xs ps, 0)) := Lib.hid (by unfold fillSV; rw [hin, askS_in hok, if_neg (by simp), if_neg (by rw [hp]; simpa using hlen)])
            obtain ⟨g, q, o⟩ := okS_iff.1 hok
            obtain ⟨h0, h1, h2⟩ := inB_iff.1 hin
            obtain ⟨f, rfl⟩ := Int.eq_ofNat_of_zero_le h0
            obtain ⟨t, rfl⟩ := Int.eq_ofNat_of_zero_le (show 0 ≤ t by omega)
            simp only [Int.toNat_natCast] at HV
            have HFI := Lib.hid (fun w1 (hb : Below w.heap.size w w1) => refFilled_any s h g q f t ax cx xs al cl ps w1 W (R.mono hb (Nat.le_refl _)) N o (by omega) (by omega) (hrx.mono hb (Nat.le_refl _)) (hrp.mono hb (Nat.le_refl _)) hlen lp hp)

            subst e1
            subst e2
            clear hok hin W R N hrx hrp lx lp hri hlen hpos hp o h0 h1 h2
            generalize hL : fillSV s f t [] [] = LV at *
            clear hL
            generalize fillV s f t [] [] = V at *
            unfold sval at *
            go_enter Try.func13, Try.ntmps13
            go_wp2_with fail
            rw [twoW_fold]
            refine HM.out.mono ?_
            rintro e w1 ⟨rfl, hb⟩
            have HB1 : Hid (Below w.heap.size w w1) := Lib.hid (HB0.out.trans (hb.mono HB0.out.size))
            have HX1 := Lib.hid (HX0.out.below hb (by have := HS0.out; omega))
            have HD1 := Lib.hid (HZ0.out.below hb (by have := HS0.out; omega))
            have HL1 : Hid (w.heap.size + 2 ≤ w1.heap.size) := Lib.hid (by have := hb.size; have := HS0.out; omega)
            clear hb HB0 HX0 HZ0 HM HS0
            generalize twoW w s h (.cells #[.int .i64 0, .slice Option.none 0 0, .slice Option.none 0 0, .slice Option.none 0 0, .slice Option.none 0 0, .int .u64 0] 27) = w0 at *
            have c2 := HX1.out.c2
            go_wp2_with fail
            refine (HPT.out _).mono ?_
            rintro e w1x ⟨rfl, rfl⟩
            go_wp2_with fail
            refine (HRI.out _ HB1.out).mono ?_
            rintro e w2 ⟨rfl, hb⟩
            have HB2 : Hid (Below w.heap.size w w2) := Lib.hid (HB1.out.trans (hb.mono HB1.out.size))
            have HX2 := Lib.hid (HX1.out.below hb (by have := HL1.out; omega))
            have HD2 := Lib.hid (HD1.out.below hb (by have := HL1.out; omega))
            have HL2 : Hid (w.heap.size + 2 ≤ w2.heap.size) := Lib.hid (by have := hb.size; have := HL1.out; omega)
            clear hb HX1 HD1 HL1 HB1
            clear c2
            have c0 := HX2.out.c0; have c1 := HX2.out.c1; have c2 := HX2.out.c2; have c3 := HX2.out.c3; have c4 := HX2.out.c4; have c5 := HX2.out.c5
            go_wp2_with fail
            refine (HFI.out _ HB2.out).mono ?_
            rintro e w3 ⟨h3, rfl, ho, hb⟩
            have HB3 : Hid (Below w.heap.size w w3) := Lib.hid (HB2.out.trans (hb.mono HB2.out.size))
            have HD3 := Lib.hid (HD2.out.below hb (by have := HL2.out; omega))
            have HO3 := Lib.hid ho
            clear hb ho c0 c1 c2 c3 c4 c5 HFI HX2 HD2 HB2
            have d0 := HD3.out.c0; have d1 := HD3.out.c1; have d2 := HD3.out.c2; have d3 := HD3.out.c3; have d4 := HD3.out.c4; have d5 := HD3.out.c5
            have f0 := HD3.out.f 0; have f1 := HD3.out.f 1; have f2 := HD3.out.f 2; have f3 := HD3.out.f 3; have f4 := HD3.out.f 4; have f5 := HD3.out.f 5
            go_wp2
            rw [stS_fold]
            have q0 := (stS_box (s := V) (h := h3) HD3.out).c0; have q1 := (stS_box (s := V) (h := h3) HD3.out).c1; have q2 := (stS_box (s := V) (h := h3) HD3.out).c2; have q3 := (stS_box (s := V) (h := h3) HD3.out).c3; have q4 := (stS_box (s := V) (h := h3) HD3.out).c4; have q5 := (stS_box (s := V) (h := h3) HD3.out).c5
            refine bodyPost_ret (v := .tuple #[sval V h3, .int .i64 0]) (by simp [results, Try.results13, sval, go_sem, q0, q1, q2, q3, q4, q5]) rfl ⟨h3, by rw [HV.out], ?_, ?_⟩
            · rw [HV.out]
              exact (stS_own HO3.out (by have := HL2.out; omega)).mono (by have := HL2.out; omega) (by rw [stS_size]; exact Nat.le_refl _)
            · exact stS_below HB3.out (by omega)
          case pos =>
            have hpos1 : (0 : Int) < (xs.length : Int) := by omega
            have hne : xs ≠ [] := fun e => by rw [e] at hpos; simp at hpos
            have wl : IntKind.i64.wrap ((xs.length : Int) - 1) = ((xs.length - 1 : Nat) : Int) := by rw [IntKind.wrap_i64]; omega
            have hlast : xs.length - 1 < xs.length := by omega
            have HCX : Hid (∃ bx ox, ax = some ⟨bx, ox, Option.none⟩ ∧ ∀ w1, Below w.heap.size w w1 → w1.cell? ⟨bx, ox, Option.none⟩ = some (.int .i64 (xs.getD 0 0)) ∧ w1.cell? ⟨bx, ox + (xs.length - 1), Option.none⟩ = some (.int .i64 (xs.getD (xs.length - 1) 0))) := Lib.hid (by
              obtain ⟨bx, ox, rfl, -⟩ := Rd.at hrx (Below.refl w.heap.size w) (Nat.le_refl _) hpos
              exact ⟨bx, ox, rfl, fun w1 hb => ⟨by have := Rd.cellAt hrx hb (Nat.le_refl _) hpos; rwa [Nat.add_zero] at this, Rd.cellAt hrx hb (Nat.le_refl _) hlast⟩⟩)
            by_cases hx0 : xs.getD 0 0 < f
            case pos =>
              have HV : Hid (fillSV s f t xs ps = (noneS, 2)) := Lib.hid (by
                unfold fillSV; rw [hin, askS_in hok, if_neg (by simp), if_pos]; right
                rw [Bool.eq_false_iff]; intro g; have := ((partB_ends.1 g).2 hpos).1; omega)
              clear hok hin W R N hrx hrp lx lp hri hlen

              obtain ⟨bx, ox, rfl, hcx⟩ := HCX.out
              have HCX := Lib.hid hcx
              clear hcx

              generalize hL : fillSV s f t xs ps = LV at *
              clear hL

              generalize xs.getD 0 0 = x0 at *
              generalize xs.getD (xs.length - 1) 0 = x1 at *
              generalize xs.length - 1 = m at *
              unfold sval at *
              go_enter Try.func13, Try.ntmps13
              go_wp2_with fail
              rw [twoW_fold]
              refine HM.out.mono ?_
              rintro e w1 ⟨rfl, hb⟩
              have HB1 : Hid (Below w.heap.size w w1) := Lib.hid (HB0.out.trans (hb.mono HB0.out.size))
              have HX1 := Lib.hid (HX0.out.below hb (by have := HS0.out; omega))
              have HD1 := Lib.hid (HZ0.out.below hb (by have := HS0.out; omega))
              have HL1 : Hid (w.heap.size + 2 ≤ w1.heap.size) := Lib.hid (by have := hb.size; have := HS0.out; omega)
              clear hb HB0 HX0 HZ0 HM HS0
              generalize twoW w s h (.cells #[.int .i64 0, .slice Option.none 0 0, .slice Option.none 0 0, .slice Option.none 0 0, .slice Option.none 0 0, .int .u64 0] 27) = w0 at *
              have c2 := HX1.out.c2
              go_wp2_with fail
              refine (HPT.out _).mono ?_
              rintro e w1x ⟨rfl, rfl⟩
              go_wp2_with fail
              refine (HRI.out _ HB1.out).mono ?_
              rintro e w2 ⟨rfl, hb⟩
              have HB2 : Hid (Below w.heap.size w w2) := Lib.hid (HB1.out.trans (hb.mono HB1.out.size))
              have HX2 := Lib.hid (HX1.out.below hb (by have := HL1.out; omega))
              have HD2 := Lib.hid (HD1.out.below hb (by have := HL1.out; omega))
              have HL2 : Hid (w.heap.size + 2 ≤ w2.heap.size) := Lib.hid (by have := hb.size; have := HL1.out; omega)
              clear hb HX1 HD1 HL1 HB1
              clear c2
              obtain ⟨hc0, hcl⟩ := HCX.out _ HB2.out
              have d0 := HD2.out.c0; have d1 := HD2.out.c1; have d2 := HD2.out.c2; have d3 := HD2.out.c3; have d4 := HD2.out.c4; have d5 := HD2.out.c5
              have f0 := HD2.out.f 0; have f1 := HD2.out.f 1; have f2 := HD2.out.f 2; have f3 := HD2.out.f 3; have f4 := HD2.out.f 4; have f5 := HD2.out.f 5
              go_wp2
              rw [stZ_fold]
              have q0 := (stS_box (s := noneS) (h := noneH) HD2.out).c0; have q1 := (stS_box (s := noneS) (h := noneH) HD2.out).c1; have q2 := (stS_box (s := noneS) (h := noneH) HD2.out).c2; have q3 := (stS_box (s := noneS) (h := noneH) HD2.out).c3; have q4 := (stS_box (s := noneS) (h := noneH) HD2.out).c4; have q5 := (stS_box (s := noneS) (h := noneH) HD2.out).c5
              refine bodyPost_ret (v := .tuple #[sval noneS noneH, .int .i64 2]) (by simp [results, Try.results13, sval, go_sem, q0, q1, q2, q3, q4, q5]) rfl ⟨noneH, by rw [HV.out], by rw [HV.out]; exact noneS_own _ _ _, stS_below HB2.out (by omega)⟩
            case neg =>
              by_cases hx1 : t ≤ xs.getD (xs.length - 1) 0
              case pos =>
                have HV : Hid (fillSV s f t xs ps = (noneS, 2)) := Lib.hid (by
                  unfold fillSV; rw [hin, askS_in hok, if_neg (by simp), if_pos]; right
                  rw [Bool.eq_false_iff]; intro g; have := ((partB_ends.1 g).2 hpos).2; omega)
                clear hok hin W R N hrx hrp lx lp hri hlen

                obtain ⟨bx, ox, rfl, hcx⟩ := HCX.out
                have HCX := Lib.hid hcx
                clear hcx

                generalize hL : fillSV s f t xs ps = LV at *
                clear hL

                generalize xs.getD 0 0 = x0 at *
                generalize xs.getD (xs.length - 1) 0 = x1 at *
                generalize xs.length - 1 = m at *
                unfold sval at *
                go_enter Try.func13, Try.ntmps13
                go_wp2_with fail
                rw [twoW_fold]
                refine HM.out.mono ?_
                rintro e w1 ⟨rfl, hb⟩
                have HB1 : Hid (Below w.heap.size w w1) := Lib.hid (HB0.out.trans (hb.mono HB0.out.size))
                have HX1 := Lib.hid (HX0.out.below hb (by have := HS0.out; omega))
                have HD1 := Lib.hid (HZ0.out.below hb (by have := HS0.out; omega))
                have HL1 : Hid (w.heap.size + 2 ≤ w1.heap.size) := Lib.hid (by have := hb.size; have := HS0.out; omega)
                clear hb HB0 HX0 HZ0 HM HS0
                generalize twoW w s h (.cells #[.int .i64 0, .slice Option.none 0 0, .slice Option.none 0 0, .slice Option.none 0 0, .slice Option.none 0 0, .int .u64 0] 27) = w0 at *
                have c2 := HX1.out.c2
                go_wp2_with fail
                refine (HPT.out _).mono ?_
                rintro e w1x ⟨rfl, rfl⟩
                go_wp2_with fail
                refine (HRI.out _ HB1.out).mono ?_
                rintro e w2 ⟨rfl, hb⟩
                have HB2 : Hid (Below w.heap.size w w2) := Lib.hid (HB1.out.trans (hb.mono HB1.out.size))
                have HX2 := Lib.hid (HX1.out.below hb (by have := HL1.out; omega))
                have HD2 := Lib.hid (HD1.out.below hb (by have := HL1.out; omega))
                have HL2 : Hid (w.heap.size + 2 ≤ w2.heap.size) := Lib.hid (by have := hb.size; have := HL1.out; omega)
                clear hb HX1 HD1 HL1 HB1
                clear c2
                obtain ⟨hc0, hcl⟩ := HCX.out _ HB2.out
                have d0 := HD2.out.c0; have d1 := HD2.out.c1; have d2 := HD2.out.c2; have d3 := HD2.out.c3; have d4 := HD2.out.c4; have d5 := HD2.out.c5
                have f0 := HD2.out.f 0; have f1 := HD2.out.f 1; have f2 := HD2.out.f 2; have f3 := HD2.out.f 3; have f4 := HD2.out.f 4; have f5 := HD2.out.f 5
                go_wp2
                rw [stZ_fold]
                have q0 := (stS_box (s := noneS) (h := noneH) HD2.out).c0; have q1 := (stS_box (s := noneS) (h := noneH) HD2.out).c1; have q2 := (stS_box (s := noneS) (h := noneH) HD2.out).c2; have q3 := (stS_box (s := noneS) (h := noneH) HD2.out).c3; have q4 := (stS_box (s := noneS) (h := noneH) HD2.out).c4; have q5 := (stS_box (s := noneS) (h := noneH) HD2.out).c5
                refine bodyPost_ret (v := .tuple #[sval noneS noneH, .int .i64 2]) (by simp [results, Try.results13, sval, go_sem, q0, q1, q2, q3, q4, q5]) rfl ⟨noneH, by rw [HV.out], by rw [HV.out]; exact noneS_own _ _ _, stS_below HB2.out (by omega)⟩
              case neg =>
                have hp : partB f t xs = true := partB_ends.2 ⟨hri, fun _ => ⟨by omega, by omega⟩⟩
                have HV : Hid (fillSV s f t xs ps = (fillV s f.toNat t.toNat xs ps, 0)) := Lib.hid (by unfold fillSV; rw [hin, askS_in hok, if_neg (by simp), if_neg (by rw [hp]; simpa using hlen)])
                obtain ⟨g, q, o⟩ := okS_iff.1 hok
                obtain ⟨h0, h1, h2⟩ := inB_iff.1 hin
                obtain ⟨f, rfl⟩ := Int.eq_ofNat_of_zero_le h0
                obtain ⟨t, rfl⟩ := Int.eq_ofNat_of_zero_le (show 0 ≤ t by omega)
                simp only [Int.toNat_natCast] at HV
                have HFI := Lib.hid (fun w1 (hb : Below w.heap.size w w1) => refFilled_any s h g q f t ax cx xs al cl ps w1 W (R.mono hb (Nat.le_refl _)) N o (by omega) (by omega) (hrx.mono hb (Nat.le_refl _)) (hrp.mono hb (Nat.le_refl _)) hlen lp hp)

                obtain ⟨bx, ox, rfl, hcx⟩ := HCX.out
                have HCX := Lib.hid hcx
                clear hcx

                clear hok hin W R N hrx hrp lx lp hri hlen hp o h0 h1 h2

                generalize hL : fillSV s f t xs ps = LV at *
                clear hL

                generalize fillV s f t xs ps = V at *
                generalize xs.getD 0 0 = x0 at *
                generalize xs.getD (xs.length - 1) 0 = x1 at *
                generalize xs.length - 1 = m at *
                unfold sval at *
                go_enter Try.func13, Try.ntmps13
                go_wp2_with fail
                rw [twoW_fold]
                refine HM.out.mono ?_
                rintro e w1 ⟨rfl, hb⟩
                have HB1 : Hid (Below w.heap.size w w1) := Lib.hid (HB0.out.trans (hb.mono HB0.out.size))
                have HX1 := Lib.hid (HX0.out.below hb (by have := HS0.out; omega))
                have HD1 := Lib.hid (HZ0.out.below hb (by have := HS0.out; omega))
                have HL1 : Hid (w.heap.size + 2 ≤ w1.heap.size) := Lib.hid (by have := hb.size; have := HS0.out; omega)
                clear hb HB0 HX0 HZ0 HM HS0
                generalize twoW w s h (.cells #[.int .i64 0, .slice Option.none 0 0, .slice Option.none 0 0, .slice Option.none 0 0, .slice Option.none 0 0, .int .u64 0] 27) = w0 at *
                have c2 := HX1.out.c2
                go_wp2_with fail
                refine (HPT.out _).mono ?_
                rintro e w1x ⟨rfl, rfl⟩
                go_wp2_with fail
                refine (HRI.out _ HB1.out).mono ?_
                rintro e w2 ⟨rfl, hb⟩
                have HB2 : Hid (Below w.heap.size w w2) := Lib.hid (HB1.out.trans (hb.mono HB1.out.size))
                have HX2 := Lib.hid (HX1.out.below hb (by have := HL1.out; omega))
                have HD2 := Lib.hid (HD1.out.below hb (by have := HL1.out; omega))
                have HL2 : Hid (w.heap.size + 2 ≤ w2.heap.size) := Lib.hid (by have := hb.size; have := HL1.out; omega)
                clear hb HX1 HD1 HL1 HB1
                clear c2
                obtain ⟨hc0, hcl⟩ := HCX.out _ HB2.out
                have c0 := HX2.out.c0; have c1 := HX2.out.c1; have c2 := HX2.out.c2; have c3 := HX2.out.c3; have c4 := HX2.out.c4; have c5 := HX2.out.c5
                go_wp2_with fail
                refine (HFI.out _ HB2.out).mono ?_
                rintro e w3 ⟨h3, rfl, ho, hb⟩
                have HB3 : Hid (Below w.heap.size w w3) := Lib.hid (HB2.out.trans (hb.mono HB2.out.size))
                have HD3 := Lib.hid (HD2.out.below hb (by have := HL2.out; omega))
                have HO3 := Lib.hid ho
                clear hb ho hc0 hcl c0 c1 c2 c3 c4 c5 HFI HX2 HD2 HB2
                have d0 := HD3.out.c0; have d1 := HD3.out.c1; have d2 := HD3.out.c2; have d3 := HD3.out.c3; have d4 := HD3.out.c4; have d5 := HD3.out.c5
                have f0 := HD3.out.f 0; have f1 := HD3.out.f 1; have f2 := HD3.out.f 2; have f3 := HD3.out.f 3; have f4 := HD3.out.f 4; have f5 := HD3.out.f 5
                go_wp2
                rw [stS_fold]
                have q0 := (stS_box (s := V) (h := h3) HD3.out).c0; have q1 := (stS_box (s := V) (h := h3) HD3.out).c1; have q2 := (stS_box (s := V) (h := h3) HD3.out).c2; have q3 := (stS_box (s := V) (h := h3) HD3.out).c3; have q4 := (stS_box (s := V) (h := h3) HD3.out).c4; have q5 := (stS_box (s := V) (h := h3) HD3.out).c5
                refine bodyPost_ret (v := .tuple #[sval V h3, .int .i64 0]) (by simp [results, Try.results13, sval, go_sem, q0, q1, q2, q3, q4, q5]) rfl ⟨h3, by rw [HV.out], ?_, ?_⟩
                · rw [HV.out]
                  exact (stS_own HO3.out (by have := HL2.out; omega)).mono (by have := HL2.out; omega) (by rw [stS_size]; exact Nat.le_refl _)
                · exact stS_below HB3.out (by omega)
end Go.Proofs.Ytfdkaahkhgljdaa.Slo

namespace Go.Proofs.Ytfdkaahkhgljdaa.Slo
open Go.RowKit Go.Shelf Go.Sort Go.Proofs.Ytfdkaahkhgljdaa Go.Proofs.Ytfdkaahkhgljdaa.Occ Go.Proofs.Ytfdkaahkhgljdaa.Frac

/-- A pair as it comes in. -/
structure Pr where
  k : Int
  v : Int
def Pr.val (p : Pr) : Value := .agg #[.int .i64 p.k, .int .i64 p.v]
structure Pr.Ok (p : Pr) : Prop where
  wk : (Lit.int .i64 p.k).wf = true
  wv : (Lit.int .i64 p.v).wf = true
/-- The two boxes. -/
def inP (w : World) (s : Sl) (h : Hd) (a b : Int) : World := allocP (allocS w s h) a b
theorem inP_below (w : World) (s : Sl) (h : Hd) (a b : Int) : Below w.heap.size w (inP w s h a b) :=
  (allocS_below w s h).trans ((allocP_below _ a b).mono (by rw [allocS_size]; omega))
theorem inP_bs (w : World) (s : Sl) (h : Hd) (a b : Int) : BS (inP w s h a b) w.heap.size s h := (allocS_bs w s h).next (allocP_below _ a b)
theorem inP_bp (w : World) (s : Sl) (h : Hd) (a b : Int) : BP (inP w s h a b) (w.heap.size + 1) a b := by
  have := allocP_bp (allocS w s h) a b
  rwa [allocS_size] at this
/-- No longer than another. -/
structure LenLe (x s : Sl) : Prop where
  w : x.ws.length ≤ s.ws.length
  k : x.ks.length ≤ s.ks.length
  v : x.vs.length ≤ s.vs.length
  c : x.cs.length ≤ s.cs.length
theorem LenLe.refl (s : Sl) : LenLe s s := ⟨Nat.le_refl _, Nat.le_refl _, Nat.le_refl _, Nat.le_refl _⟩
theorem LenLe.trans {a b c : Sl} (h : LenLe a b) (k : LenLe b c) : LenLe a c := ⟨Nat.le_trans h.w k.w, Nat.le_trans h.k k.k, Nat.le_trans h.v k.v, Nat.le_trans h.c k.c⟩
theorem lenLe_none (s : Sl) : LenLe noneS s := ⟨Nat.zero_le _, Nat.zero_le _, Nat.zero_le _, Nat.zero_le _⟩
theorem lenLe_take (s : Sl) (a : Nat) : LenLe (takeV s a) s := by
  refine ⟨?_, ?_, ?_, ?_⟩ <;> unfold takeV <;> dsimp only
  · rw [putV_length]; exact Nat.le_refl _
  · rw [List.length_set]; exact Nat.le_refl _
  · rw [List.length_set]; exact Nat.le_refl _
  · split
    · rw [List.length_set]; exact Nat.le_refl _
    · exact Nat.le_refl _
theorem lenLe_set (s : Sl) (a : Nat) (x y : Int) : LenLe (setV s a x y) s := by
  refine ⟨?_, ?_, ?_, ?_⟩ <;> unfold setV <;> dsimp only
  · rw [putV_length]; exact Nat.le_refl _
  · rw [List.length_set]; exact Nat.le_refl _
  · rw [List.length_set]; exact Nat.le_refl _
  · rw [List.length_set]; exact Nat.le_refl _
theorem lenLe_lay (s : Sl) (a : Nat) (x y : Int) : LenLe (layV s a x y) s := (lenLe_set _ a x y).trans (lenLe_take s a)
theorem lenLe_clr (s : Sl) (f : Nat) : ∀ k, LenLe (clrV s f k) s
  | 0 => LenLe.refl s
  | k + 1 => (lenLe_take _ _).trans (lenLe_clr s f k)
theorem lenLe_layL (s : Sl) (xs : List Int) (ps : List (Int × Int)) : ∀ k, LenLe (layL s xs ps k) s
  | 0 => LenLe.refl s
  | k + 1 => (lenLe_lay _ _ _ _).trans (lenLe_layL s xs ps k)
theorem lenLe_fill (s : Sl) (f t : Nat) (xs : List Int) (ps : List (Int × Int)) : LenLe (fillV s f t xs ps) s := (lenLe_layL _ xs ps _).trans (lenLe_clr s f _)
theorem lenLe_laySV (s : Sl) (a x y : Int) : LenLe (laySV s a x y).1 s := by
  unfold laySV; split
  · exact lenLe_lay _ _ _ _
  · exact lenLe_none s
theorem lenLe_clearSV (s : Sl) (a : Int) : LenLe (clearSV s a).1 s := by
  unfold clearSV; split <;> first | exact lenLe_take _ _ | exact lenLe_none s
theorem lenLe_moveSV (s : Sl) (a b : Int) : LenLe (moveSV s a b).1 s := by
  unfold moveSV; split
  · exact lenLe_none s
  · split
    · exact lenLe_none s
    · split
      · exact lenLe_none s
      · exact (lenLe_lay _ _ _ _).trans (lenLe_take _ _)
theorem lenLe_fillSV (s : Sl) (f t : Int) (xs : List Int) (ps : List (Int × Int)) : LenLe (fillSV s f t xs ps).1 s := by
  unfold fillSV; split
  · exact lenLe_none s
  · split
    · exact lenLe_none s
    · exact lenLe_fill _ _ _ _ _
/-- Whether two of one number are the same: they are. -/
theorem same_refl (s : Sl) (h1 h2 : Hd) (w1 : World) (R1 : SRd w1 s h1) (R2 : SRd w1 s h2) (l : s.ws.length ≤ 1000000000 ∧ s.ks.length ≤ 1000000000 ∧ s.vs.length ≤ 1000000000 ∧ s.cs.length ≤ 1000000000) :
    Calls Try.prog 14 #[sval s h1, sval s h2] w1 fun e w' => e = .returned (.bool true) ∧ Below w1.heap.size w1 w' := by
  have h := sRefSame_any s s h1 h2 w1 R1 R2 l ⟨by omega, by omega, by omega, by omega⟩
  rwa [sameB_refl] at h
end Go.Proofs.Ytfdkaahkhgljdaa.Slo
