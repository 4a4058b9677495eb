/- Contracts of package occ: With. -/
import Derived.Test.YtnfjabohnjbgbaaDoorOcc5
namespace Go.Proofs.YtnfjabohnjbgbaaDoor.Occ
open Go.RowKit Go.Shelf Go.Proofs.YtnfjabohnjbgbaaDoor

theorem bits_andNot_u64_nat (a b : Nat) (ha : a < 18446744073709551616) (hb : b < 18446744073709551616) : bits .andNot .u64 (a : Int) (b : Int) = ((a &&& (18446744073709551615 - b) : Nat) : Int) := by
  have hx : a &&& (18446744073709551615 - b) < 18446744073709551616 := Nat.lt_of_le_of_lt Nat.and_le_left ha
  have e1 : (BitVec.ofInt 64 (a : Int)).toNat = a := by rw [BitVec.ofInt_natCast, BitVec.toNat_ofNat]; exact Nat.mod_eq_of_lt (by omega)
  have e2 : (BitVec.ofInt 64 (b : Int)).toNat = b := by rw [BitVec.ofInt_natCast, BitVec.toNat_ofNat]; exact Nat.mod_eq_of_lt (by omega)
  show IntKind.u64.wrap ((BitVec.ofInt 64 (a : Int) &&& ~~~ BitVec.ofInt 64 (b : Int)).toNat : Int) = _
  rw [BitVec.toNat_and, BitVec.toNat_not, e1, e2, show 2 ^ 64 - 1 - b = 18446744073709551615 - b from rfl, IntKind.wrap_u64]
  omega

set_option maxRecDepth 100000 in
set_option maxHeartbeats 2000000 in
theorem with_ok (b off ca : Nat) (ws : List Int) (m s : Nat) (is : Bool) (w : World) (hu : U64 ws) (hr : Rd .u64 w (some ⟨b, off, Option.none⟩) ws) (hl : ws.length ≤ 100000) (hv : askV ws m (atB m s) = 0) :
    Calls Tryd.prog 19 #[.slice (some ⟨b, off, Option.none⟩) ws.length ca, .int .i64 m, .int .i64 s, .bool is] w fun e w' => AnsW (putV ws s is, 0) w e w' := by
  obtain ⟨hc, hb⟩ := askV_ok hv
  obtain ⟨m', hm', hm, hlen, _⟩ := chkV_ok hc
  obtain rfl : m = m' := Int.ofNat_inj.1 hm'
  obtain ⟨h0, h1⟩ := atB_iff.1 hb
  have HA := Lib.hid (asked_any (some ⟨b, off, Option.none⟩) ca ws m true w hu hr hl)
  rw [hb] at hv
  rw [hv] at HA
  have HC := Lib.hid (clone_any b off ca ws w hr hl)
  have hq : s / 64 < ws.length := by omega
  have hk : s % 64 < 64 := Nat.mod_lt _ (by decide)
  have hx := wd_of hu (s / 64)
  have hcl := clr_lt (wd ws (s / 64)) (s % 64)
  have h2k : 2 ^ (s % 64) < 18446744073709551616 := Nat.pow_lt_pow_right (n := 64) (by decide) hk
  have e1 : bits .andNot .u64 ((wd ws (s / 64) : Nat) : Int) ((2 : Int) ^ (s % 64)) = ((clr (wd ws (s / 64)) (s % 64) : Nat) : Int) := by
    have := bits_andNot_u64_nat (wd ws (s / 64)) (2 ^ (s % 64)) hx h2k
    rw [← show clr (wd ws (s / 64)) (s % 64) = wd ws (s / 64) &&& (18446744073709551615 - 2 ^ (s % 64)) from rfl] at this
    rw [← this]; congr 1
  have e2 : bits .or .u64 ((clr (wd ws (s / 64)) (s % 64) : Nat) : Int) ((2 : Int) ^ (s % 64)) = ((turn (wd ws (s / 64)) (s % 64) true : Nat) : Int) := by
    have := bits_or_u64_nat (clr (wd ws (s / 64)) (s % 64)) (2 ^ (s % 64)) (by omega) h2k
    rw [turn_on _ _ hx hk, ← this]; congr 1
  have e3 := turn_off (wd ws (s / 64)) (s % 64) hx hk
  have e4 : IntKind.u64.wrap ((2 : Int) ^ (s % 64)) = (2 : Int) ^ (s % 64) := by
    rw [show (2 : Int) ^ (s % 64) = ((2 ^ (s % 64) : Nat) : Int) by simp]
    generalize 2 ^ (s % 64) = pp at *
    rw [IntKind.wrap_u64]; omega
  have hd : (s : Int) / 64 = ((s / 64 : Nat) : Int) := rfl
  have hmm : (s : Int) % 64 = ((s % 64 : Nat) : Int) := rfl
  have hcell0 := cells_get ws (s / 64) hq
  rw [wd_int hu] at hcell0
  have HP : Hid (∀ y : Nat, cells (ws.set (s / 64) (y : Int)) = (cells ws).set (s / 64) (.int .u64 (y : Int))) := Lib.hid (fun y => cells_set ws _ _)
  have HV : Hid (putV ws s is = ws.set (s / 64) ((turn (wd ws (s / 64)) (s % 64) is : Nat) : Int)) := Lib.hid rfl
  clear hu hr hc hb hlen hv hm'
  generalize wd ws (s / 64) = x at *
  generalize s / 64 = j at *
  generalize s % 64 = k at *
  generalize hcc : clr x k = y at *
  generalize htt : turn x k true = z at *
  go_enter Tryd.func19, Tryd.ntmps19
  go_wp2_with fail
  refine HA.out.mono ?_
  rintro e w' ⟨rfl, rfl⟩
  go_wp2_with fail
  refine HC.out.mono ?_
  rintro e w1 ⟨v, rfl, hown, hb1⟩
  obtain ⟨g, c, rfl, hg0, hg1⟩ := owns_form hown (by omega)
  have hcell := hown.cellAt j (by omega)
  rw [hcell0] at hcell
  have hfr := hown.frozenAt j
  obtain ⟨ho2, hgr⟩ := hown.stored j (.int .u64 (y : Int))
  have HO := Lib.hid ho2
  have HB := Lib.hid (hb1.grown hgr hb1.size (by intro k hk; cases hk; exact hg0))
  clear hown ho2 hgr hb1
  go_wp2_with fail
  go_region
  have HO2 : Hid ((w1.setCell ⟨g, j, Option.none⟩ (.int .u64 (y : Int))).drew.ownsRow w.heap.size 42 1 (.slice (some ⟨g, 0, Option.none⟩) ws.length c) ws.length (cells (ws.set j (y : Int)))) := Lib.hid (by rw [HP.out]; exact HO.out)
  have HB2 : Hid (Below w.heap.size w (w1.setCell ⟨g, j, Option.none⟩ (.int .u64 (y : Int))).drew) := Lib.hid HB.out.drew
  generalize (w1.setCell ⟨g, j, Option.none⟩ (.int .u64 (y : Int))).drew = w2 at *
  clear HO HB hcell hfr
  cases is
  · rw [e3] at HV
    go_wp2
    go_ret2
    refine ⟨_, rfl, ?_, HB2.out⟩
    rw [HV.out, List.length_set]
    exact HO2.out
  · rw [htt] at HV
    have hcell2 := HO2.out.cellAt j (by omega)
    rw [cells_get _ j (by rw [List.length_set]; exact hq), show (ws.set j (y : Int)).getD j 0 = (y : Int) by simp [List.getD_eq_getElem?_getD, hq]] at hcell2
    have hfr2 := HO2.out.frozenAt j
    obtain ⟨ho3, hgr3⟩ := HO2.out.stored j (.int .u64 (z : Int))
    rw [← cells_set, List.set_set] at ho3
    have HO3 := Lib.hid ho3
    have HB3 := Lib.hid (HB2.out.grown hgr3 HB2.out.size (by intro k hk; cases hk; exact hg0))
    clear ho3 hgr3
    go_wp2_with fail
    go_region
    go_wp2
    go_ret2
    refine ⟨_, rfl, ?_, HB3.out.drew⟩
    rw [HV.out, List.length_set]
    exact HO3.out

set_option maxRecDepth 100000 in
set_option maxHeartbeats 2000000 in
theorem With_any (a : Option Addr) (ca : Nat) (ws : List Int) (n s : Int) (is : Bool) (w : World) (hu : U64 ws) (hr : Rd .u64 w a ws) (hl : ws.length ≤ 100000) :
    Calls Tryd.prog 19 #[.slice a ws.length ca, .int .i64 n, .int .i64 s, .bool is] w fun e w' => AnsW (withV ws n s is) w e w' := by
  by_cases hv : askV ws n (atB n s) = 0
  · obtain ⟨hc, hb⟩ := askV_ok hv
    obtain ⟨m, rfl, hm, hlen, _⟩ := chkV_ok hc
    obtain ⟨h0, h1⟩ := atB_iff.1 hb
    obtain ⟨s, rfl⟩ := Int.eq_ofNat_of_zero_le h0
    obtain ⟨b, o, rfl, _⟩ := Rd.word hu hr (s / 64) (by omega)
    have := with_ok b o ca ws m s is w hu hr hl hv
    rwa [← show withV ws (m : Int) (s : Int) is = (putV ws s is, 0) from if_pos hv] at this
  · rw [show withV ws n s is = ([], askV ws n (atB n s)) from if_neg hv]
    have HA1 := Lib.hid (asked_any a ca ws n (atB n s) w hu hr hl)
    generalize hc : askV ws n (atB n s) = c at *
    clear hu hr hc
    by_cases h0 : 0 ≤ s
    · by_cases h1 : s < n
      · rw [atB_iff.2 ⟨h0, h1⟩] at HA1
        go_enter Tryd.func19, Tryd.ntmps19
        go_wp2_with fail
        refine HA1.out.mono ?_
        rintro e w' ⟨rfl, rfl⟩
        go_wp2
        go_ret2
        exact ⟨_, rfl, World.ownsRow_nil _ _ _ _, Below.refl _ _⟩
      · rw [show atB n s = false by rw [Bool.eq_false_iff]; exact fun g => h1 (atB_iff.1 g).2] at HA1
        go_enter Tryd.func19, Tryd.ntmps19
        go_wp2_with fail
        refine HA1.out.mono ?_
        rintro e w' ⟨rfl, rfl⟩
        go_wp2
        go_ret2
        exact ⟨_, rfl, World.ownsRow_nil _ _ _ _, Below.refl _ _⟩
    · rw [show atB n s = false by rw [Bool.eq_false_iff]; exact fun g => h0 (atB_iff.1 g).1] at HA1
      go_enter Tryd.func19, Tryd.ntmps19
      go_wp2_with fail
      refine HA1.out.mono ?_
      rintro e w' ⟨rfl, rfl⟩
      go_wp2
      go_ret2
      exact ⟨_, rfl, World.ownsRow_nil _ _ _ _, Below.refl _ _⟩

end Go.Proofs.YtnfjabohnjbgbaaDoor.Occ
