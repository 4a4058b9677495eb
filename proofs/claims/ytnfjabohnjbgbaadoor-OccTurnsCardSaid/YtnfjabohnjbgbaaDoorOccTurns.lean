/- The law OccTurns: a walk. -/
import Derived.Test.YtnfjabohnjbgbaaDoorOccLaws3
import Derived.Test.YtnfjabohnjbgbaaDoorSpoil
namespace Go.Proofs.YtnfjabohnjbgbaaDoor.Occ
open Go.RowKit Go.Shelf Go.Proofs.YtnfjabohnjbgbaaDoor

set_option maxRecDepth 100000 in
set_option maxHeartbeats 8000000 in
theorem occTurns (a : Option Addr) (len cap : Nat) (zs0 : List Int) (n x : Int) (b : Option Addr) (lb cb : Nat) (ys0 : List Int) (w : World) (wz : Opn.IsRow .u64 w a len cap zs0) (wn : (Lit.int .i64 n).wf = true) (wx : (Lit.int .i64 x).wf = true) (wy : Opn.IsRow .u64 w b lb cb ys0) (hT : Tab w) :
    Calls Tryd.prog 4 #[.slice a len cap, .int .i64 n, .int .i64 x, .slice b lb cb] w fun e w' => e = .returned (.bool true) ∧ Below w.heap.size w w' := by
  obtain ⟨i0, hi, hz0, hz1, hz2⟩ := info_parts infoW
  obtain ⟨zs, rfl, hr, hu, hn, hc, hb⟩ := argW_of wz
  obtain ⟨ys, rfl, hr', hu', hn', hc', hb'⟩ := argW_of wy
  clear wz wn wx wy
  by_cases hl : 20 < zs.length
  · clear hr hu hT hr' hu'
    go_enter Tryd.func4, Tryd.ntmps4
    go_wp2
    go_ret
    exact ⟨rfl, Below.refl _ _⟩
  by_cases hl' : 20 < ys.length
  · clear hr hu hT hr' hu'
    go_enter Tryd.func4, Tryd.ntmps4
    go_wp2
    go_ret
    exact ⟨rfl, Below.refl _ _⟩
  have HU := Lib.hid hu
  have HT := Lib.hid hT
  have HRY := Lib.hid hr'
  clear hu hT hr' hu'
  go_enter Tryd.func4, Tryd.ntmps4
  go_wp2_with (at_builtin; refine wpList_append_copy (k := .u64) rfl _ _ 22 42 rfl i0 8 Tryd.underlying22 hi hz0 hz1 hz2 a cap zs rfl rfl hr hn (by unfold maxLen; omega) (by omega) ?_)
  intro v1 w1 hv hb1
  obtain ⟨a1, c1, rfl, _, ho1⟩ := Rd.of_owns hv
  have H1 : Hid (SL w [(a1, zs), (a, zs), (b, ys)] w1) := Lib.hid ⟨hb1, by
    intro p hp
    simp only [List.mem_cons, List.not_mem_nil, or_false] at hp
    rcases hp with rfl | rfl | rfl
    · exact ho1
    · exact hr.mono hb1 (Nat.le_refl _)
    · exact HRY.out.mono hb1 (Nat.le_refl _), HT.out.mono hb1⟩
  clear hv hb1 hr ho1
  have HZ1 := Lib.hid (Nat.le_refl w1.heap.size)
  go_wp2_with fail
  refine (Has_any a1 c1 zs n x w1 HU.out H1.out.at0 (by omega)).mono ?_
  rintro e w' ⟨rfl, rfl⟩
  go_wp2_with fail
  refine (refHas_any a cap zs n x w1 HU.out H1.out.at1 (by omega)).mono ?_
  rintro e w' ⟨rfl, rfl⟩
  generalize hasV zs n x = V1 at *
  go_wp2_with fail
  refine (With_any a1 c1 zs n x true w1 HU.out H1.out.at0 (by omega)).mono ?_
  rintro e w2 ⟨vX, rfl, hv, hb⟩
  have H2 := Lib.hid (H1.out.next hb)
  have HZ2 := Lib.hid (Nat.le_trans HZ1.out hb.size)
  have HX := Lib.hid hv
  have HX2 := Lib.hid hv
  have HB := Lib.hid hb
  have BX := Lib.hid (And.intro (Nat.le_refl w1.heap.size) hb.size)
  clear hv
  clear hb
  go_wp2_with fail
  refine (refWith_any a cap zs n x true w2 HU.out H2.out.at1 hn (by omega)).mono ?_
  rintro e w3 ⟨vY, rfl, hv, hb⟩
  have H3 := Lib.hid (H2.out.next hb)
  have HZ3 := Lib.hid (Nat.le_trans HZ2.out hb.size)
  have HB := Lib.hid (bstep HB.out hb)
  have HX := Lib.hid (owns_below HX.out hb)
  have HZ23 := Lib.hid hb.size
  have HY := Lib.hid hv
  have BY := Lib.hid (And.intro (Nat.le_refl w2.heap.size) hb.size)
  clear hv
  clear hb
  go_wp2_with fail
  refine (With_any a1 c1 zs n x false w3 HU.out H3.out.at0 (by omega)).mono ?_
  rintro e w4 ⟨vC, rfl, hv, hb⟩
  have H4 := Lib.hid (H3.out.next hb)
  have HZ4 := Lib.hid (Nat.le_trans HZ3.out hb.size)
  have HB := Lib.hid (bstep HB.out hb)
  have HX := Lib.hid (owns_below HX.out hb)
  have HY := Lib.hid (owns_below HY.out hb)
  have HC := Lib.hid hv
  have BC := Lib.hid (And.intro (Nat.le_refl w3.heap.size) hb.size)
  clear hv
  clear hb
  go_wp2_with fail
  refine (refWith_any a cap zs n x false w4 HU.out H4.out.at1 hn (by omega)).mono ?_
  rintro e w5 ⟨vD, rfl, hv, hb⟩
  have H5 := Lib.hid (H4.out.next hb)
  have HZ5 := Lib.hid (Nat.le_trans HZ4.out hb.size)
  have HB := Lib.hid (bstep HB.out hb)
  have HX := Lib.hid (owns_below HX.out hb)
  have HY := Lib.hid (owns_below HY.out hb)
  have HC := Lib.hid (owns_below HC.out hb)
  have HD := Lib.hid hv
  have BD := Lib.hid (And.intro (Nat.le_refl w4.heap.size) hb.size)
  clear hv
  clear hb
  go_wp2_with fail
  refine (Next_any a1 c1 zs n x w5 H5.out.t HU.out H5.out.at0 (by omega)).mono ?_
  rintro e w6 ⟨rfl, hb⟩
  have H6 := Lib.hid (H5.out.next hb)
  have HZ6 := Lib.hid (Nat.le_trans HZ5.out hb.size)
  have HB := Lib.hid (bstep HB.out hb)
  have HX := Lib.hid (owns_below HX.out hb)
  have HY := Lib.hid (owns_below HY.out hb)
  have HC := Lib.hid (owns_below HC.out hb)
  have HD := Lib.hid (owns_below HD.out hb)
  clear hb
  go_wp2_with fail
  refine (refNext_any a cap zs n x w6 HU.out H6.out.at1 (by omega)).mono ?_
  rintro e w7 ⟨rfl, hb⟩
  have H7 := Lib.hid (H6.out.next hb)
  have HZ7 := Lib.hid (Nat.le_trans HZ6.out hb.size)
  have HB := Lib.hid (bstep HB.out hb)
  have HX := Lib.hid (owns_below HX.out hb)
  have HY := Lib.hid (owns_below HY.out hb)
  have HC := Lib.hid (owns_below HC.out hb)
  have HD := Lib.hid (owns_below HD.out hb)
  clear hb
  generalize nextV zs n x = V2 at *
  go_wp2_with fail
  refine (Last_any a1 c1 zs n x w7 HU.out H7.out.at0 (by omega)).mono ?_
  rintro e w8 ⟨rfl, hb⟩
  have H8 := Lib.hid (H7.out.next hb)
  have HZ8 := Lib.hid (Nat.le_trans HZ7.out hb.size)
  have HB := Lib.hid (bstep HB.out hb)
  have HX := Lib.hid (owns_below HX.out hb)
  have HY := Lib.hid (owns_below HY.out hb)
  have HC := Lib.hid (owns_below HC.out hb)
  have HD := Lib.hid (owns_below HD.out hb)
  clear hb
  go_wp2_with fail
  refine (refLast_any a cap zs n x w8 HU.out H8.out.at1 (by omega)).mono ?_
  rintro e w9 ⟨rfl, hb⟩
  have H9 := Lib.hid (H8.out.next hb)
  have HZ9 := Lib.hid (Nat.le_trans HZ8.out hb.size)
  have HB := Lib.hid (bstep HB.out hb)
  have HX := Lib.hid (owns_below HX.out hb)
  have HY := Lib.hid (owns_below HY.out hb)
  have HC := Lib.hid (owns_below HC.out hb)
  have HD := Lib.hid (owns_below HD.out hb)
  clear hb
  generalize lastV zs n x = V3 at *
  generalize withV zs n x true = X at *
  generalize withV zs n x false = C at *
  obtain ⟨X, x2⟩ := X
  obtain ⟨C, c2⟩ := C
  dsimp only at *
  obtain ⟨ax, cx, rfl, _, rx, mX1, _, mX2⟩ := owns_arg (k := .u64) HX.out
  have lX : X.length ≤ 9223372036854775807 := by unfold maxLen at mX2; omega
  obtain ⟨ay, cy, rfl, _, ry, _⟩ := owns_arg (k := .u64) HY.out
  obtain ⟨ac, cc, rfl, _, rc, mC1, _, mC2⟩ := owns_arg (k := .u64) HC.out
  have lC : C.length ≤ 9223372036854775807 := by unfold maxLen at mC2; omega
  obtain ⟨ad, cd, rfl, _, rd, _⟩ := owns_arg (k := .u64) HD.out
  have RXY := Lib.hid (And.intro rx ry)
  clear rx ry rc rd
  go_wp2_with fail
  refine (sameWords_any ax ay cx cy X X w9 RXY.out.1 RXY.out.2 (by omega) (by omega)).mono ?_
  rintro e w10 ⟨rfl, hb⟩
  have H10 := Lib.hid (H9.out.next hb)
  have HZ10 := Lib.hid (Nat.le_trans HZ9.out hb.size)
  have HB := Lib.hid (bstep HB.out hb)
  have HX := Lib.hid (owns_below HX.out hb)
  have HY := Lib.hid (owns_below HY.out hb)
  have HC := Lib.hid (owns_below HC.out hb)
  have HD := Lib.hid (owns_below HD.out hb)
  clear hb
  obtain ⟨_, _, e1, _, rc, _⟩ := owns_arg (k := .u64) HC.out
  cases e1
  obtain ⟨_, _, e1, _, rd, _⟩ := owns_arg (k := .u64) HD.out
  cases e1
  have RCD := Lib.hid (And.intro rc rd)
  clear rc rd
  go_wp2_with fail
  refine (sameWords_any ac ad cc cd C C w10 RCD.out.1 RCD.out.2 (by omega) (by omega)).mono ?_
  rintro e w11 ⟨rfl, hb⟩
  have H11 := Lib.hid (H10.out.next hb)
  have HZ11 := Lib.hid (Nat.le_trans HZ10.out hb.size)
  have HB := Lib.hid (bstep HB.out hb)
  have HX := Lib.hid (owns_below HX.out hb)
  have HY := Lib.hid (owns_below HY.out hb)
  have HC := Lib.hid (owns_below HC.out hb)
  have HD := Lib.hid (owns_below HD.out hb)
  clear hb
  go_wp2_with fail
  have HSX : Hid (SpoiltK .u64 42 w11 w1.heap.size ax X.length cx w11) := Lib.hid (SpoiltK.start HX.out)
  go_loopw [31] (fun i wr => ∃ k : Nat, k ≤ X.length ∧ i = .int .i64 k ∧ SpoiltK .u64 42 w11 w1.heap.size ax X.length cx wr) (fun i _ => X.length - (intOf i).toNat)
  case atStart => exact ⟨0, Nat.zero_le _, rfl, HSX.out⟩
  case round =>
    obtain ⟨k, hk, rfl, ⟨cs, hcl, hown, hgr⟩⟩ := hrel
    clear HSX
    by_cases hlt : k < X.length
    · obtain ⟨g, c, e, hg0, _⟩ := owns_form hown (by omega)
      cases e
      have hcell := hown.cellAt k (by omega)
      have hfr := hown.frozenAt k
      rw [numsK_get (by omega)] at hcell
      generalize cs.getD k 0 = z at *
      have HO := Lib.hid (fun u => hown.stored k (.int .u64 u))
      have HT : Hid (∀ u, SpoiltK .u64 42 w11 w1.heap.size (some ⟨g, 0, Option.none⟩) X.length cx (wr.setCell ⟨g, k, Option.none⟩ (.int .u64 u))) := Lib.hid fun u =>
        ⟨cs.set k u, by rw [List.length_set]; exact hcl, by rw [numsK_set]; exact (HO.out u).1, World.grownBy.trans hgr (HO.out u).2⟩
      clear hown hgr HO
      go_wp2
      go_roundw
      case rel => exact ⟨k + 1, by omega, by go_num, HT.out _⟩
      case measure => simp [intOf]; omega
    · have HT1 : Hid (SpoiltK .u64 42 w11 w1.heap.size ax X.length cx wr) := Lib.hid ⟨cs, hcl, hown, hgr⟩
      obtain rfl : k = X.length := by omega
      clear hown hgr hcl hk hlt
      obtain ⟨wx, rfl⟩ : ∃ wx : World, wx = wr := ⟨_, rfl⟩
      have HSC : Hid (SpoiltK .u64 42 wx w3.heap.size ac C.length cc wx) := Lib.hid (by
        obtain ⟨cs, _, hown, hgr⟩ := HT1.out
        exact SpoiltK.start (HC.out.kept hgr (owns_apart HX2.out HC.out HZ23.out)))
      go_wp2_with fail
      go_loopw [32] (fun i wr => ∃ k : Nat, k ≤ C.length ∧ i = .int .i64 k ∧ SpoiltK .u64 42 wx w3.heap.size ac C.length cc wr) (fun i _ => C.length - (intOf i).toNat)
      case atStart => exact ⟨0, Nat.zero_le _, rfl, HSC.out⟩
      case round =>
        obtain ⟨k, hk, rfl, ⟨cs, hcl, hown, hgr⟩⟩ := hrel
        clear HSC
        by_cases hlt : k < C.length
        · obtain ⟨g, c, e, hg0, _⟩ := owns_form hown (by omega)
          cases e
          have hcell := hown.cellAt k (by omega)
          have hfr := hown.frozenAt k
          rw [numsK_get (by omega)] at hcell
          generalize cs.getD k 0 = z at *
          have HO := Lib.hid (fun u => hown.stored k (.int .u64 u))
          have HT : Hid (∀ u, SpoiltK .u64 42 wx w3.heap.size (some ⟨g, 0, Option.none⟩) C.length cc (wr.setCell ⟨g, k, Option.none⟩ (.int .u64 u))) := Lib.hid fun u =>
            ⟨cs.set k u, by rw [List.length_set]; exact hcl, by rw [numsK_set]; exact (HO.out u).1, World.grownBy.trans hgr (HO.out u).2⟩
          clear hown hgr HO
          go_wp2
          go_roundw
          case rel => exact ⟨k + 1, by omega, by go_num, HT.out _⟩
          case measure => simp [intOf]; omega
        · have HT2 : Hid (SpoiltK .u64 42 wx w3.heap.size ac C.length cc wr) := Lib.hid ⟨cs, hcl, hown, hgr⟩
          obtain rfl : k = C.length := by omega
          clear hown hgr hcl hk hlt
          obtain ⟨wz, rfl⟩ : ∃ wz : World, wz = wr := ⟨_, rfl⟩
          have HBZ : Hid (Below w1.heap.size w1 wz) := Lib.hid (by
            obtain ⟨_, _, o1, g1⟩ := HT1.out
            obtain ⟨_, _, o2, g2⟩ := HT2.out
            have b1 := HB.out.grown g1 HB.out.size (fun k hk => (o1.lt k hk).1)
            exact b1.grown g2 b1.size (fun k hk => Nat.le_trans HZ3.out (o2.lt k hk).1))
          have HF := Lib.hid (H1.out.next HBZ.out)
          go_wp2_with fail
          refine (Same_any a1 b c1 cb zs ys wz HF.out.at0 HF.out.at2 (by omega) (by omega)).mono ?_
          rintro e wf1 ⟨rfl, hb⟩
          have HF1 := Lib.hid (HF.out.next hb)
          clear hb
          go_wp2_with fail
          refine (sameWords_any a b cap cb zs ys wf1 HF1.out.at1 HF1.out.at2 (by omega) (by omega)).mono ?_
          rintro e wf2 ⟨rfl, hb⟩
          have HF2 := Lib.hid (HF1.out.next hb)
          clear hb
          generalize decide (zs = ys) = dd at *
          go_wp2_with fail
          refine (sameWords_any a1 a c1 cap zs zs wf2 HF2.out.at0 HF2.out.at1 (by omega) (by omega)).mono ?_
          rintro e wf3 ⟨rfl, hb⟩
          have HF3 := Lib.hid (HF2.out.next hb)
          clear hb
          go_wp2
          go_ret
          exact ⟨by simp, HF3.out.b⟩

end Go.Proofs.YtnfjabohnjbgbaaDoor.Occ
