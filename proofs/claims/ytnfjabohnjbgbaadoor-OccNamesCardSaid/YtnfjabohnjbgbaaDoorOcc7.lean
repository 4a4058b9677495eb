/- Contracts of the document's answer: Put, With. -/
import Derived.Test.YtnfjabohnjbgbaaDoorOcc6
namespace Go.Proofs.YtnfjabohnjbgbaaDoor.Occ
open Go.RowKit Go.Shelf Go.Proofs.YtnfjabohnjbgbaaDoor

theorem putV_same {ws : List Int} (hu : U64 ws) {s : Nat} {b : Bool} (h : occB ws s = b) (hs : s < 64 * ws.length) : putV ws s b = ws := by
  unfold occB at h
  unfold putV turn
  rw [if_pos h, ← wd_int hu]
  apply List.ext_getElem
  · rw [List.length_set]
  · intro i h1 h2
    rw [List.getElem_set]
    by_cases hi : s / 64 = i
    · subst hi; simp [List.getD_eq_getElem?_getD, h2]
    · simp [hi]
theorem putV_other {ws : List Int} {s : Nat} {b : Bool} (h : occB ws s ≠ b) : putV ws s b = ws.set (s / 64) ((if b = true then wd ws (s / 64) + 2 ^ (s % 64) else wd ws (s / 64) - 2 ^ (s % 64) : Nat) : Int) := by
  unfold occB at h
  unfold putV turn
  rw [if_neg h]
theorem bit_le (x k : Nat) (h : x.testBit k = true) : 2 ^ k ≤ x := Nat.ge_two_pow_of_testBit h

set_option maxRecDepth 100000 in
set_option maxHeartbeats 2000000 in
theorem Put_ok (a : Option Addr) (ca : Nat) (ws : List Int) (s : Nat) (is : Bool) (w : World) (hu : U64 ws) (hr : Rd .u64 w a ws) (hn : a = Option.none → ca = 0) (hl : ws.length ≤ 100000) (hs : s < 64 * ws.length) :
    Calls Tryd.prog 36 #[.slice a ws.length ca, .int .i64 s, .bool is] w fun e w' => ∃ v, e = .returned v ∧ w'.ownsRow w.heap.size 42 1 v ws.length (cells (putV ws s is)) ∧ Below w.heap.size w w' := by
  obtain ⟨i0, hi, hz0, hz1, hz2⟩ := info_parts infoW
  have HIS := Lib.hid (fun w1 hr1 => Is_any a ca ws s w1 hu hr1 hl hs)
  have HSAME : Hid (occB ws s = is → putV ws s is = ws) := Lib.hid (fun h => putV_same hu h hs)
  have HOTH : Hid (occB ws s ≠ is → putV ws s is = ws.set (s / 64) ((if is = true then wd ws (s / 64) + 2 ^ (s % 64) else wd ws (s / 64) - 2 ^ (s % 64) : Nat) : Int)) := Lib.hid putV_other
  have hx := wd_of hu (s / 64)
  have HT : Hid (is = true → occB ws s = false → wd ws (s / 64) + 2 ^ (s % 64) < 2 ^ 64) := Lib.hid (fun _ h => by
    have h1 := turn_lt (wd ws (s / 64)) (s % 64) true hx (Nat.mod_lt _ (by decide))
    unfold turn at h1
    unfold occB at h
    rw [h] at h1
    simpa using h1)
  have HF : Hid (occB ws s = true → 2 ^ (s % 64) ≤ wd ws (s / 64)) := Lib.hid (fun h => bit_le _ _ h)
  have HP : Hid (∀ y : Int, cells (ws.set (s / 64) y) = (cells ws).set (s / 64) (.int .u64 y)) := Lib.hid (fun y => cells_set ws _ _)
  have hcell0 := cells_get ws (s / 64) (by omega)
  rw [wd_int hu] at hcell0
  have hq : s / 64 < ws.length := by omega
  have hk : s % 64 < 64 := Nat.mod_lt _ (by decide)
  have hd : (s : Int) / 64 = ((s / 64 : Nat) : Int) := rfl
  have hmm : (s : Int) % 64 = ((s % 64 : Nat) : Int) := rfl
  clear hu
  generalize wd ws (s / 64) = x at *
  generalize s / 64 = j at *
  generalize s % 64 = k at *
  generalize hoc : occB ws s = o at *
  go_enter Tryd.func36, Tryd.ntmps36
  go_wp2_with (at_builtin; refine wpList_append_copy (k := .u64) rfl _ _ 22 42 rfl i0 8 Tryd.underlying22 hi hz0 hz1 hz2 a ca ws rfl rfl hr hn (by unfold maxLen; omega) (by omega) ?_)
  intro v w1 hv hb
  have HO : Hid (w1.ownsRow w.heap.size 42 1 v ws.length (cells ws)) := Lib.hid hv
  obtain ⟨g, c, rfl, hg0, hg1⟩ := owns_form hv (by omega)
  have HB := Lib.hid hb
  have HI := Lib.hid (HIS.out w1 (hr.mono hb (Nat.le_refl _)))
  clear hv hb hr HIS
  by_cases ho : o = is
  · have HE := Lib.hid (HSAME.out ho)
    subst ho
    go_wp2_with fail
    refine HI.out.mono ?_
    rintro e w' ⟨rfl, rfl⟩
    go_wp2
    go_ret
    exact ⟨_, rfl, by rw [HE.out]; exact HO.out, HB.out⟩
  · have HE := Lib.hid (HOTH.out ho)
    have hcell := HO.out.cellAt j (by omega)
    rw [hcell0] at hcell
    have hfr := HO.out.frozenAt j
    have HST := Lib.hid (fun y : Int => HO.out.stored j (.int .u64 y))
    have hne : (o == is) = false := by rw [beq_eq_false_iff_ne]; exact ho
    clear HSAME HOTH hcell0
    go_wp2_with fail
    refine HI.out.mono ?_
    rintro e w' ⟨rfl, rfl⟩
    go_wp2
    go_loop [8, 9] (fun y i => ∃ n : Nat, n ≤ k ∧ i = .int .i64 n ∧ y = .int .u64 ((2 ^ n : Nat) : Int)) (fun _ i => k - (intOf i).toNat)
    case atStart => exact ⟨0, Nat.zero_le _, rfl, rfl⟩
    case round =>
      obtain ⟨n, hnk, rfl, rfl⟩ := hrel
      by_cases hlt : n < k
      · have hp : 2 * 2 ^ n < 18446744073709551616 := by
          have : 2 ^ (n + 1) < 2 ^ 64 := Nat.pow_lt_pow_right (by decide) (by omega)
          rw [Nat.pow_succ] at this; omega
        have HW := Lib.hid (show 2 * 2 ^ n = 2 ^ (n + 1) by rw [Nat.pow_succ]; omega)
        generalize (2 ^ n : Nat) = pw at *
        go_wp2
        go_round
        case rel => exact ⟨n + 1, by omega, by go_num, by rw [← HW.out]; go_num⟩
        case measure => simp [intOf]; omega
      · obtain rfl : n = k := by omega
        have hp : 2 ^ n < 18446744073709551616 := Nat.pow_lt_pow_right (n := 64) (by decide) hk
        cases is
        · have ho2 : o = true := by cases o <;> simp_all
          have hge := HF.out ho2
          have HE2 : Hid (putV ws s false = ws.set j (((x - 2 ^ n : Nat) : Int))) := Lib.hid HE.out
          generalize (2 ^ n : Nat) = pw at *
          have hsub : (x : Int) - (pw : Int) = ((x - pw : Nat) : Int) := by omega
          have HH := Lib.hid hsub
          clear HT HF
          go_wp2
          go_ret
          refine ⟨_, rfl, ?_, ?_⟩
          · rw [HE2.out, HP.out, ← HH.out]; exact (HST.out _).1
          · exact HB.out.grown (HST.out _).2 HB.out.size (by intro k hk; cases hk; exact hg0)
        · have ho2 : o = false := by cases o <;> simp_all
          have hge := HT.out rfl ho2
          have HE2 : Hid (putV ws s true = ws.set j (((x + 2 ^ n : Nat) : Int))) := Lib.hid HE.out
          generalize (2 ^ n : Nat) = pw at *
          have HH : Hid ((x : Int) + (pw : Int) = ((x + pw : Nat) : Int)) := Lib.hid (by omega)
          have hge2 : x + pw < 18446744073709551616 := hge
          clear HT HF hge
          go_wp2
          go_ret
          refine ⟨_, rfl, ?_, ?_⟩
          · rw [HE2.out, HP.out, ← HH.out]; exact (HST.out _).1
          · exact HB.out.grown (HST.out _).2 HB.out.size (by intro k hk; cases hk; exact hg0)

set_option maxRecDepth 100000 in
set_option maxHeartbeats 1000000 in
theorem refWith_any (a : Option Addr) (ca : Nat) (ws : List Int) (n s : Int) (is : Bool) (w : World) (hu : U64 ws) (hr : Rd .u64 w a ws) (hn : a = Option.none → ca = 0) (hl : ws.length ≤ 100000) :
    Calls Tryd.prog 20 #[.slice a ws.length ca, .int .i64 n, .int .i64 s, .bool is] w fun e w' => AnsW (withV ws n s is) w e w' := by
  have HH := Lib.hid (refHas_any a ca ws n s w hu hr hl)
  by_cases hv : askV ws n (atB n s) = 0
  · obtain ⟨hc, hb⟩ := askV_ok hv
    obtain ⟨m, rfl, hm, hlen, _⟩ := chkV_ok hc
    obtain ⟨h0, h1⟩ := atB_iff.1 hb
    obtain ⟨s, rfl⟩ := Int.eq_ofNat_of_zero_le h0
    have HP := Lib.hid (Put_ok a ca ws s is w hu hr hn hl (by omega))
    have HV := Lib.hid (show withV ws (m : Int) (s : Int) is = (putV ws s is, 0) from if_pos hv)
    have HL := Lib.hid (putV_length ws s is)
    rw [show hasV ws (m : Int) (s : Int) = (occB ws s, 0) from if_pos hv] at HH
    clear hu hr hv hc hb hlen h1
    rw [HV.out]
    go_enter Tryd.func20, Tryd.ntmps20
    go_wp2_with fail
    refine HH.out.mono ?_
    rintro e w' ⟨rfl, rfl⟩
    go_wp2_with fail
    refine HP.out.mono ?_
    rintro e w' ⟨v, rfl, hown, hb⟩
    have HO := Lib.hid hown
    have HB := Lib.hid hb
    clear hown hb
    go_wp2
    go_ret2
    refine ⟨_, rfl, ?_, HB.out⟩
    rw [HL.out]
    exact HO.out
  · have HV := Lib.hid (show withV ws n s is = ([], askV ws n (atB n s)) from if_neg hv)
    rw [show hasV ws n s = (false, askV ws n (atB n s)) from if_neg hv] at HH
    rw [HV.out]
    generalize askV ws n (atB n s) = c at *
    clear hu hr
    go_enter Tryd.func20, Tryd.ntmps20
    go_wp2_with fail
    refine HH.out.mono ?_
    rintro e w' ⟨rfl, rfl⟩
    go_wp2
    go_ret2
    exact ⟨_, rfl, World.ownsRow_nil _ _ _ _, Below.refl _ _⟩

end Go.Proofs.YtnfjabohnjbgbaaDoor.Occ
