/- The laws of occ that do not ask the document: walks. -/
import Derived.Test.YtnfjabohnjbgbaaDoorOccLaws2
namespace Go.Proofs.YtnfjabohnjbgbaaDoor.Occ
open Go.RowKit Go.Shelf Go.Proofs.YtnfjabohnjbgbaaDoor

set_option maxRecDepth 100000 in
set_option maxHeartbeats 4000000 in
theorem occThere (a : Option Addr) (len cap : Nat) (zs0 : List Int) (n k : Int) (w : World) (wz : Opn.IsRow .u64 w a len cap zs0) (wn : (Lit.int .i64 n).wf = true) (wk : (Lit.int .i64 k).wf = true) (hT : Tab w) :
    Calls Tryd.prog 6 #[.slice a len cap, .int .i64 n, .int .i64 k] w fun e w' => e = .returned (.bool true) ∧ Below w.heap.size w w' := by
  obtain ⟨zs, rfl, hr, hu, hn, hc, hb⟩ := argW_of wz
  have HU := Lib.hid hu
  have HK := Lib.hid (bd64 wk).2
  have HL := Lib.hid (alive_any w hT)
  have H1 : Hid (S2 w a a zs w) := Lib.hid ⟨Below.refl _ _, hr, hr, hT⟩
  clear wz wn wk hu hr hT
  by_cases hl : 20 < zs.length
  · go_enter Tryd.func6, Tryd.ntmps6
    go_wp2_with fail
    refine HL.out.mono ?_
    rintro e w2 ⟨rfl, hb⟩
    have H2 := Lib.hid (H1.out.next hb)
    clear hb
    go_wp2
    go_ret
    exact ⟨rfl, H2.out.b⟩
  by_cases hck : ¬ chkV zs n = 0
  · go_enter Tryd.func6, Tryd.ntmps6
    go_wp2_with fail
    refine HL.out.mono ?_
    rintro e w2 ⟨rfl, hb⟩
    have H2 := Lib.hid (H1.out.next hb)
    clear hb
    go_wp2_with fail
    refine (Check_any a cap zs n w2 HU.out H2.out.r (by omega)).mono ?_
    rintro e w' ⟨rfl, rfl⟩
    generalize chkV zs n = c at *
    go_wp2
    go_ret
    exact ⟨rfl, H2.out.b⟩
  have hck := Classical.not_not.1 hck
  obtain ⟨m, rfl, hm, -, -⟩ := chkV_ok hck
  have cnt : ∀ f t : Nat, f ≤ t → t ≤ m → Hid (cntV zs (m : Int) (f : Int) (t : Int) = (((occs zs f (t - f)).length : Int), 0)) := fun f t h1 h2 => Lib.hid (by
    unfold cntV; rw [if_pos (ask_ok hck (inB_iff.2 ⟨by omega, by omega, by omega⟩)), Int.toNat_natCast, show ((t : Int) - (f : Int)).toNat = t - f by omega])
  have e1 := cnt 0 m (by omega) (by omega)
  rw [Int.natCast_zero, Nat.sub_zero] at e1
  have hLl := occs_length zs 0 m
  have e2 : Hid (nthV zs (m : Int) k = if 0 ≤ k ∧ k < ((occs zs 0 m).length : Int) then ((((occs zs 0 m).getD k.toNat 0 : Nat) : Int), 0) else (0, 6)) := Lib.hid (by unfold nthV; rw [if_pos hck, Int.toNat_natCast])
  by_cases hin : ¬ (0 ≤ k ∧ k < ((occs zs 0 m).length : Int))
  · rw [if_neg hin] at e2
    clear cnt
    generalize (occs zs 0 m).length = L at *
    by_cases hk0 : k < 0
    · clear hin
      go_enter Tryd.func6, Tryd.ntmps6
      go_wp2_with fail
      refine HL.out.mono ?_
      rintro e w2 ⟨rfl, hb⟩
      have H2 := Lib.hid (H1.out.next hb)
      clear hb
      go_wp2_with fail
      refine (Check_any a cap zs (m : Int) w2 HU.out H2.out.r (by omega)).mono ?_
      rintro e w' ⟨rfl, rfl⟩
      rw [hck]
      go_wp2_with fail
      refine (Count_any a cap zs (m : Int) 0 (m : Int) w2 HU.out H2.out.r (by omega)).mono ?_
      rintro e w3 ⟨rfl, hb⟩
      have H3 := Lib.hid (H2.out.next hb)
      clear hb
      rw [e1.out]
      go_wp2_with fail
      refine (Nth_any a cap zs (m : Int) k w3 H3.out.t HU.out H3.out.r (by omega) HK.out).mono ?_
      rintro e w4 ⟨rfl, hb⟩
      have H4 := Lib.hid (H3.out.next hb)
      clear hb
      rw [e2.out]
      go_wp2
      go_ret
      exact ⟨rfl, H4.out.b⟩
    · have hk1 : (L : Int) ≤ k := by omega
      clear hin
      go_enter Tryd.func6, Tryd.ntmps6
      go_wp2_with fail
      refine HL.out.mono ?_
      rintro e w2 ⟨rfl, hb⟩
      have H2 := Lib.hid (H1.out.next hb)
      clear hb
      go_wp2_with fail
      refine (Check_any a cap zs (m : Int) w2 HU.out H2.out.r (by omega)).mono ?_
      rintro e w' ⟨rfl, rfl⟩
      rw [hck]
      go_wp2_with fail
      refine (Count_any a cap zs (m : Int) 0 (m : Int) w2 HU.out H2.out.r (by omega)).mono ?_
      rintro e w3 ⟨rfl, hb⟩
      have H3 := Lib.hid (H2.out.next hb)
      clear hb
      rw [e1.out]
      go_wp2_with fail
      refine (Nth_any a cap zs (m : Int) k w3 H3.out.t HU.out H3.out.r (by omega) HK.out).mono ?_
      rintro e w4 ⟨rfl, hb⟩
      have H4 := Lib.hid (H3.out.next hb)
      clear hb
      rw [e2.out]
      go_wp2
      go_ret
      exact ⟨rfl, H4.out.b⟩
  have hin := Classical.not_not.1 hin
  obtain ⟨k, rfl⟩ := Int.eq_ofNat_of_zero_le hin.1
  rw [if_pos hin, Int.toNat_natCast] at e2
  obtain ⟨s, hs, hsm, hso, hsk, ⟨r, hsr⟩, hsl⟩ := occs_at (ws := zs) (m := m) (k := k) (by omega)
  rw [hs] at e2
  have e3 := cnt 0 s (by omega) (by omega)
  rw [Int.natCast_zero, Nat.sub_zero, hsk] at e3
  have e4 : Hid (hasV zs (m : Int) (s : Int) = (true, 0)) := Lib.hid (by
    unfold hasV; rw [if_pos (ask_ok hck (atB_iff.2 ⟨by omega, by omega⟩)), Int.toNat_natCast, hso])
  have e5 : Hid (nextV zs (m : Int) (s : Int) = ((s : Int), 0)) := Lib.hid (by
    unfold nextV; rw [if_pos (ask_ok hck (upB_iff.2 ⟨by omega, by omega⟩)), Int.toNat_natCast, show ((m : Int) - (s : Int)).toNat = m - s by omega, hsr, firstV_cons])
  have e6 : Hid (lastV zs (m : Int) ((s : Int) + 1) = ((s : Int), 0)) := Lib.hid (by
    unfold lastV; rw [if_pos (ask_ok hck (upB_iff.2 ⟨by omega, by omega⟩)), show ((s : Int) + 1).toNat = s + 1 by omega, hsl, endV_snoc])
  have hs2 : (s : Int) < (m : Int) := by omega
  clear cnt hs hso hsk hsr hsl hin
  generalize (occs zs 0 m).length = L at *
  go_enter Tryd.func6, Tryd.ntmps6
  go_wp2_with fail
  refine HL.out.mono ?_
  rintro e w2 ⟨rfl, hb⟩
  have H2 := Lib.hid (H1.out.next hb)
  clear hb
  go_wp2_with fail
  refine (Check_any a cap zs (m : Int) w2 HU.out H2.out.r (by omega)).mono ?_
  rintro e w' ⟨rfl, rfl⟩
  rw [hck]
  go_wp2_with fail
  refine (Count_any a cap zs (m : Int) 0 (m : Int) w2 HU.out H2.out.r (by omega)).mono ?_
  rintro e w3 ⟨rfl, hb⟩
  have H3 := Lib.hid (H2.out.next hb)
  clear hb
  rw [e1.out]
  go_wp2_with fail
  refine (Nth_any a cap zs (m : Int) k w3 H3.out.t HU.out H3.out.r (by omega) HK.out).mono ?_
  rintro e w4 ⟨rfl, hb⟩
  have H4 := Lib.hid (H3.out.next hb)
  clear hb
  rw [e2.out]
  go_wp2_with fail
  refine (Count_any a cap zs (m : Int) 0 (s : Int) w4 HU.out H4.out.r (by omega)).mono ?_
  rintro e w5 ⟨rfl, hb⟩
  have H5 := Lib.hid (H4.out.next hb)
  clear hb
  rw [e3.out]
  go_wp2_with fail
  refine (Has_any a cap zs (m : Int) (s : Int) w5 HU.out H5.out.r (by omega)).mono ?_
  rintro e w' ⟨rfl, rfl⟩
  rw [e4.out]
  go_wp2_with fail
  refine (Next_any a cap zs (m : Int) (s : Int) w5 H5.out.t HU.out H5.out.r (by omega)).mono ?_
  rintro e w6 ⟨rfl, hb⟩
  have H6 := Lib.hid (H5.out.next hb)
  clear hb
  rw [e5.out]
  go_wp2_with fail
  refine (Last_any a cap zs (m : Int) ((s : Int) + 1) w6 HU.out H6.out.r (by omega)).mono ?_
  rintro e w7 ⟨rfl, hb⟩
  have H7 := Lib.hid (H6.out.next hb)
  clear hb
  rw [e6.out]
  go_wp2_with fail
  refine (at_any _ _ _ _).mono ?_
  rintro e w' ⟨rfl, rfl⟩
  simp only [decide_true, Bool.and_self]
  go_wp2_with fail
  refine (at_any _ _ _ _).mono ?_
  rintro e w' ⟨rfl, rfl⟩
  simp only [decide_true, Bool.and_self]
  go_wp2_with fail
  refine (at_any _ _ _ _).mono ?_
  rintro e w' ⟨rfl, rfl⟩
  simp only [decide_true, Bool.and_self]
  go_wp2
  go_ret
  exact ⟨rfl, H7.out.b⟩

/-- Several lists of words can be read; the table lies. -/
structure SL (w : World) (l : List (Option Addr × List Int)) (W : World) : Prop where
  b : Below w.heap.size w W
  r : ∀ p, p ∈ l → Rd .u64 W p.1 p.2
  t : Tab W
theorem SL.next {w W W' : World} {l : List (Option Addr × List Int)} (h : SL w l W) (hb : Below W.heap.size W W') : SL w l W' :=
  ⟨bstep h.b hb, fun p hp => (h.r p hp).mono hb (Nat.le_refl _), h.t.mono hb⟩
theorem SL.more {w W W' : World} {l : List (Option Addr × List Int)} (h : SL w l W) (hb : Below W.heap.size W W') {a : Option Addr} {zs : List Int} (hr : Rd .u64 W' a zs) : SL w ((a, zs) :: l) W' :=
  ⟨bstep h.b hb, fun p hp => by
    rcases List.mem_cons.1 hp with rfl | hp
    · exact hr
    · exact (h.r p hp).mono hb (Nat.le_refl _), h.t.mono hb⟩
theorem SL.at0 {w W : World} {p : Option Addr × List Int} {l : List (Option Addr × List Int)} (h : SL w (p :: l) W) : Rd .u64 W p.1 p.2 := h.r p (by simp)
theorem SL.at1 {w W : World} {p q : Option Addr × List Int} {l : List (Option Addr × List Int)} (h : SL w (p :: q :: l) W) : Rd .u64 W q.1 q.2 := h.r q (by simp)
theorem SL.at2 {w W : World} {p q s : Option Addr × List Int} {l : List (Option Addr × List Int)} (h : SL w (p :: q :: s :: l) W) : Rd .u64 W s.1 s.2 := h.r s (by simp)
theorem SL.at3 {w W : World} {p q s u : Option Addr × List Int} {l : List (Option Addr × List Int)} (h : SL w (p :: q :: s :: u :: l) W) : Rd .u64 W u.1 u.2 := h.r u (by simp)
/-- Words that have been answered, as an argument. -/
theorem ansW_arg {V : List Int × Int} {w : World} {e : Ending} {w' : World} (h : AnsW V w e w') : ∃ a c, e = .returned (.tuple #[.slice a V.1.length c, .int .i64 V.2]) ∧ Rd .u64 w' a V.1 ∧ Below w.heap.size w w' := by
  obtain ⟨v, rfl, hown, hb⟩ := h
  obtain ⟨a, c, rfl, _, hr, _⟩ := owns_arg (k := .u64) hown
  exact ⟨a, c, rfl, hr, hb⟩
theorem chk_put {ws : List Int} (hu : U64 ws) {m s : Nat} {b : Bool} (h : chkV ws (m : Int) = 0) (hs : s < m) : chkV (putV ws s b) (m : Int) = 0 := by
  obtain ⟨m', hm', hm, hlen, hz⟩ := chkV_ok h
  obtain rfl : m = m' := Int.ofNat_inj.1 hm'
  rw [chkV_in hm, if_pos]
  rw [mayB_iff, putV_length]
  refine ⟨hlen, fun t h1 h2 => ?_⟩
  rw [putV_occ hu s b (by omega), if_neg (by omega)]
  exact hz t h1 h2
theorem chk_nil {n : Int} (h : chkV [] n = 0) : n = 0 := by
  obtain ⟨m, rfl, hm, hlen, _⟩ := chkV_ok h
  simp at hlen; omega
theorem ask_nil (n s : Int) : askV [] n (atB n s) ≠ 0 := by
  intro h
  obtain ⟨h1, h2⟩ := askV_ok h
  have := chk_nil h1
  have := atB_iff.1 h2
  omega

set_option maxRecDepth 100000 in
set_option maxHeartbeats 4000000 in
theorem occTurned (a : Option Addr) (len cap : Nat) (zs0 : List Int) (n x y : Int) (w : World) (wz : Opn.IsRow .u64 w a len cap zs0) (wn : (Lit.int .i64 n).wf = true) (wx : (Lit.int .i64 x).wf = true) (wy : (Lit.int .i64 y).wf = true) (hT : Tab w) :
    Calls Tryd.prog 8 #[.slice a len cap, .int .i64 n, .int .i64 x, .int .i64 y] w fun e w' => e = .returned (.bool true) ∧ Below w.heap.size w w' := by
  obtain ⟨zs, rfl, hr, hu, hn, hc, hb⟩ := argW_of wz
  have HU := Lib.hid hu
  have HL := Lib.hid (alive_any w hT)
  have H1 : Hid (SL w [(a, zs)] w) := Lib.hid ⟨Below.refl _ _, by intro p hp; simp at hp; subst hp; exact hr, hT⟩
  clear wz wn wx wy hr hT
  by_cases hl : 20 < zs.length
  · clear hu
    go_enter Tryd.func8, Tryd.ntmps8
    go_wp2_with fail
    refine HL.out.mono ?_
    rintro e w2 ⟨rfl, hb⟩
    have H2 := Lib.hid (H1.out.next hb)
    clear hb
    go_wp2
    go_ret
    exact ⟨rfl, H2.out.b⟩
  by_cases hv : ¬ askV zs n (atB n x) = 0
  · have e1 : Hid (withV zs n x true = ([], askV zs n (atB n x))) := Lib.hid (if_neg hv)
    have e2 : Hid (withV [] n x false = ([], askV [] n (atB n x))) := Lib.hid (if_neg (ask_nil n x))
    have h2 := ask_nil n x
    generalize askV zs n (atB n x) = q1 at *
    generalize askV [] n (atB n x) = q2 at *
    have hv2 : (q1 != 0) = true := by rw [bne_iff_ne]; exact hv
    clear hu
    go_enter Tryd.func8, Tryd.ntmps8
    go_wp2_with fail
    refine HL.out.mono ?_
    rintro e w2 ⟨rfl, hb⟩
    have H2 := Lib.hid (H1.out.next hb)
    clear hb
    go_wp2_with fail
    refine (With_any a cap zs n x true w2 HU.out H2.out.at0 (by omega)).mono ?_
    intro e w3 hw
    rw [e1.out] at hw
    obtain ⟨a3, c3, rfl, hr, hb⟩ := ansW_arg hw
    have H3 := Lib.hid (H2.out.more hb hr)
    clear hw hb hr
    dsimp only
    go_wp2_with fail
    refine (With_any a3 c3 [] n x false w3 (by intro z hz; simp at hz) H3.out.at0 (by decide)).mono ?_
    intro e w4 hw
    rw [e2.out] at hw
    obtain ⟨a4, c4, rfl, hr, hb⟩ := ansW_arg hw
    have H4 := Lib.hid (H3.out.more hb hr)
    clear hw hb hr
    dsimp only
    go_wp2
    go_ret
    exact ⟨rfl, H4.out.b⟩
  have hv := Classical.not_not.1 hv
  obtain ⟨hck, hat⟩ := askV_ok hv
  obtain ⟨m, rfl, hm, hlen, _⟩ := chkV_ok hck
  obtain ⟨h0, h1⟩ := atB_iff.1 hat
  obtain ⟨s, rfl⟩ := Int.eq_ofNat_of_zero_le h0
  have hs64 : s < 64 * zs.length := by omega
  have e1 : Hid (withV zs (m : Int) (s : Int) true = (putV zs s true, 0)) := Lib.hid (if_pos hv)
  have uP := putV_u64 hu s true
  have lP := putV_length zs s true
  have oP := putV_occ hu s true hs64
  have kP := chk_put (b := true) hu hck (show s < m by omega)
  generalize hP : putV zs s true = P at *
  have e2 : Hid (withV P (m : Int) (s : Int) false = (putV P s false, 0)) := Lib.hid (if_pos (ask_ok kP hat))
  have uQ := putV_u64 uP s false
  have lQ := putV_length P s false
  have oQ := putV_occ uP s false (by omega)
  have kQ := chk_put (b := false) uP kP (show s < m by omega)
  generalize hQ : putV P s false = Q at *
  have hasok : ∀ (X : List Int) (t : Nat), chkV X (m : Int) = 0 → t < m → hasV X (m : Int) (t : Int) = (occB X t, 0) := fun X t h h2 => by
    unfold hasV; rw [if_pos (ask_ok h (atB_iff.2 ⟨by omega, by omega⟩)), Int.toNat_natCast]
  have hasno : ∀ (X : List Int), chkV X (m : Int) = 0 → ¬ (0 ≤ y ∧ y < (m : Int)) → hasV X (m : Int) y = (false, 2) := fun X h h2 => by
    unfold hasV; rw [ask_bad h (fun g => h2 (atB_iff.1 g))]; rfl
  have e3 : Hid (hasV P (m : Int) (s : Int) = (true, 0)) := Lib.hid (by rw [hasok P s kP (by omega), oP, if_pos rfl])
  have e4 : Hid (hasV Q (m : Int) (s : Int) = (false, 0)) := Lib.hid (by rw [hasok Q s kQ (by omega), oQ, if_pos rfl])
  have e5 : Hid (withV P (m : Int) (s : Int) true = (P, 0)) := Lib.hid (by
    rw [show withV P (m : Int) (s : Int) true = (putV P s true, 0) from if_pos (ask_ok kP hat), putV_same uP (by rw [oP, if_pos rfl]) (by omega)])
  have UP := Lib.hid uP
  have UQ := Lib.hid uQ
  have hlP : P.length ≤ 20 := by omega
  have hlQ : Q.length ≤ 20 := by omega
  have key : ∃ (p q r : Bool) (c : Int), Hid (hasV zs (m : Int) y = (p, c)) ∧ Hid (hasV P (m : Int) y = (q, c)) ∧ Hid (hasV Q (m : Int) y = (r, c)) ∧ ((s : Int) = y ∨ ((s : Int) ≠ y ∧ q = p ∧ r = p)) := by
    by_cases hy : 0 ≤ y ∧ y < (m : Int)
    · obtain ⟨u, rfl⟩ := Int.eq_ofNat_of_zero_le hy.1
      refine ⟨_, _, _, 0, Lib.hid (hasok zs u hck (by omega)), Lib.hid (hasok P u kP (by omega)), Lib.hid (hasok Q u kQ (by omega)), ?_⟩
      by_cases hsu : s = u
      · exact .inl (by rw [hsu])
      · refine .inr ⟨by omega, ?_, ?_⟩
        · rw [oP, if_neg (fun g => hsu g.symm)]
        · rw [oQ, if_neg (fun g => hsu g.symm), oP, if_neg (fun g => hsu g.symm)]
    · exact ⟨false, false, false, 2, Lib.hid (hasno zs hck hy), Lib.hid (hasno P kP hy), Lib.hid (hasno Q kQ hy), .inr ⟨by omega, rfl, rfl⟩⟩
  obtain ⟨p, q, r, c, e6, e7, e8, hor⟩ := key
  clear hu uP uQ oP oQ kP kQ hck hat hv hlen hs64 hP hQ hasok hasno h0 lP lQ
  rcases hor with rfl | ⟨hne, rfl, rfl⟩
  · go_enter Tryd.func8, Tryd.ntmps8
    go_wp2_with fail
    refine HL.out.mono ?_
    rintro e w2 ⟨rfl, hb⟩
    have H2 := Lib.hid (H1.out.next hb)
    clear hb
    go_wp2_with fail
    refine (With_any a cap zs (m : Int) (s : Int) true w2 HU.out H2.out.at0 (by omega)).mono ?_
    intro e w3 hw
    rw [e1.out] at hw
    obtain ⟨a3, c3, rfl, hr, hb⟩ := ansW_arg hw
    have H3 := Lib.hid (H2.out.more hb hr)
    clear hw hb hr
    dsimp only
    go_wp2_with fail
    refine (With_any a3 c3 P (m : Int) (s : Int) false w3 UP.out H3.out.at0 (by omega)).mono ?_
    intro e w4 hw
    rw [e2.out] at hw
    obtain ⟨a4, c4, rfl, hr, hb⟩ := ansW_arg hw
    have H4 := Lib.hid (H3.out.more hb hr)
    clear hw hb hr
    dsimp only
    go_wp2_with fail
    refine (Has_any a3 c3 P (m : Int) (s : Int) w4 UP.out H4.out.at1 (by omega)).mono ?_
    rintro e w' ⟨rfl, rfl⟩
    rw [e3.out]
    go_wp2_with fail
    refine (Has_any a4 c4 Q (m : Int) (s : Int) w4 UQ.out H4.out.at0 (by omega)).mono ?_
    rintro e w' ⟨rfl, rfl⟩
    rw [e4.out]
    go_wp2_with fail
    refine (With_any a3 c3 P (m : Int) (s : Int) true w4 UP.out H4.out.at1 (by omega)).mono ?_
    intro e w5 hw
    rw [e5.out] at hw
    obtain ⟨a5, c5, rfl, hr, hb⟩ := ansW_arg hw
    have H5 := Lib.hid (H4.out.more hb hr)
    clear hw hb hr
    dsimp only
    go_wp2_with fail
    refine (Same_any a5 a3 c5 c3 P P w5 H5.out.at0 H5.out.at2 (by omega) (by omega)).mono ?_
    rintro e w6 ⟨rfl, hb⟩
    have H6 := Lib.hid (H5.out.next hb)
    clear hb
    simp only [decide_true]
    go_wp2_with fail
    refine (Has_any a cap zs (m : Int) (s : Int) w6 HU.out H6.out.at3 (by omega)).mono ?_
    rintro e w' ⟨rfl, rfl⟩
    rw [e6.out]
    go_wp2_with fail
    refine (Has_any a3 c3 P (m : Int) (s : Int) w6 UP.out H6.out.at2 (by omega)).mono ?_
    rintro e w' ⟨rfl, rfl⟩
    rw [e7.out]
    go_wp2_with fail
    refine (Has_any a4 c4 Q (m : Int) (s : Int) w6 UQ.out H6.out.at1 (by omega)).mono ?_
    rintro e w' ⟨rfl, rfl⟩
    rw [e8.out]
    go_wp2
    go_ret
    exact ⟨by simp, H6.out.b⟩
  · have hne2 : ((s : Int) == y) = false := by rw [beq_eq_false_iff_ne]; exact hne
    clear hne
    go_enter Tryd.func8, Tryd.ntmps8
    go_wp2_with fail
    refine HL.out.mono ?_
    rintro e w2 ⟨rfl, hb⟩
    have H2 := Lib.hid (H1.out.next hb)
    clear hb
    go_wp2_with fail
    refine (With_any a cap zs (m : Int) (s : Int) true w2 HU.out H2.out.at0 (by omega)).mono ?_
    intro e w3 hw
    rw [e1.out] at hw
    obtain ⟨a3, c3, rfl, hr, hb⟩ := ansW_arg hw
    have H3 := Lib.hid (H2.out.more hb hr)
    clear hw hb hr
    dsimp only
    go_wp2_with fail
    refine (With_any a3 c3 P (m : Int) (s : Int) false w3 UP.out H3.out.at0 (by omega)).mono ?_
    intro e w4 hw
    rw [e2.out] at hw
    obtain ⟨a4, c4, rfl, hr, hb⟩ := ansW_arg hw
    have H4 := Lib.hid (H3.out.more hb hr)
    clear hw hb hr
    dsimp only
    go_wp2_with fail
    refine (Has_any a3 c3 P (m : Int) (s : Int) w4 UP.out H4.out.at1 (by omega)).mono ?_
    rintro e w' ⟨rfl, rfl⟩
    rw [e3.out]
    go_wp2_with fail
    refine (Has_any a4 c4 Q (m : Int) (s : Int) w4 UQ.out H4.out.at0 (by omega)).mono ?_
    rintro e w' ⟨rfl, rfl⟩
    rw [e4.out]
    go_wp2_with fail
    refine (With_any a3 c3 P (m : Int) (s : Int) true w4 UP.out H4.out.at1 (by omega)).mono ?_
    intro e w5 hw
    rw [e5.out] at hw
    obtain ⟨a5, c5, rfl, hr, hb⟩ := ansW_arg hw
    have H5 := Lib.hid (H4.out.more hb hr)
    clear hw hb hr
    dsimp only
    go_wp2_with fail
    refine (Same_any a5 a3 c5 c3 P P w5 H5.out.at0 H5.out.at2 (by omega) (by omega)).mono ?_
    rintro e w6 ⟨rfl, hb⟩
    have H6 := Lib.hid (H5.out.next hb)
    clear hb
    simp only [decide_true]
    go_wp2_with fail
    refine (Has_any a cap zs (m : Int) y w6 HU.out H6.out.at3 (by omega)).mono ?_
    rintro e w' ⟨rfl, rfl⟩
    rw [e6.out]
    go_wp2_with fail
    refine (Has_any a3 c3 P (m : Int) y w6 UP.out H6.out.at2 (by omega)).mono ?_
    rintro e w' ⟨rfl, rfl⟩
    rw [e7.out]
    go_wp2_with fail
    refine (Has_any a4 c4 Q (m : Int) y w6 UQ.out H6.out.at1 (by omega)).mono ?_
    rintro e w' ⟨rfl, rfl⟩
    rw [e8.out]
    go_wp2
    go_ret
    exact ⟨by simp, H6.out.b⟩

end Go.Proofs.YtnfjabohnjbgbaaDoor.Occ
