/- The laws of occ that do not ask the document: walks. -/
import Derived.Test.YtnfjabohnjbgbaaDoorOccLaws
namespace Go.Proofs.YtnfjabohnjbgbaaDoor.Occ
open Go.RowKit Go.Shelf Go.Proofs.YtnfjabohnjbgbaaDoor

theorem rd_news {k : IntKind} {w : World} {news : Array Value} {e : TypeId} {zs : List Int} (h : news.toList = zs.map (Value.int k)) : Rd k (w.alloc (.cells news e)) (some ⟨w.heap.size, 0, Option.none⟩) zs := by
  refine .inr ⟨_, _, rfl, by simp, fun i hi => ?_⟩
  have := new_cells w e news i (.int k (zs.getD i 0)) (by rw [h]; simp [List.getD_eq_getElem?_getD, hi])
  rwa [Addr.add_lit] at this
theorem below_news (w : World) (o : Obj) : Below w.heap.size w (w.alloc o) := (Below.refl _ w).alloc (Nat.le_refl _) _

set_option maxRecDepth 100000 in
set_option maxHeartbeats 1000000 in
theorem at_any (n e m : Int) (w : World) : Calls Tryd.prog 26 #[.int .i64 n, .int .i64 e, .int .i64 m] w fun r w' => r = .returned (.bool (decide (e = 0) && decide (n = m))) ∧ w = w' := by
  by_cases h : e = 0
  · subst h
    by_cases h2 : n = m
    · subst h2
      go_enter Tryd.func26, Tryd.ntmps26
      go_wp2
      go_ret
      exact ⟨by simp, rfl⟩
    · have h3 : (n == m) = false := by rw [beq_eq_false_iff_ne]; exact h2
      have HD := Lib.hid (show decide (n = m) = false from decide_eq_false h2)
      clear h2
      go_enter Tryd.func26, Tryd.ntmps26
      go_wp2
      go_ret
      exact ⟨by rw [HD.out]; rfl, rfl⟩
  · have h3 : (e == 0) = false := by rw [beq_eq_false_iff_ne]; exact h
    have HD := Lib.hid (show decide (e = 0) = false from decide_eq_false h)
    clear h
    go_enter Tryd.func26, Tryd.ntmps26
    go_wp2
    go_ret
    exact ⟨by rw [HD.out]; rfl, rfl⟩

set_option maxRecDepth 100000 in
set_option maxHeartbeats 2000000 in
theorem alive_any (w : World) (hT : Tab w) : Calls Tryd.prog 25 #[] w fun e w' => e = .returned (.bool true) ∧ Below w.heap.size w w' := by
  have HR : Hid (Rd .u64 (w.alloc (.cells #[.int .u64 5] 42)) (some ⟨w.heap.size, 0, Option.none⟩) [5]) := Lib.hid (rd_news rfl)
  have HU : Hid (U64 [5]) := Lib.hid (by intro x hx; simp at hx; omega)
  have H1 : Hid (S2 w (some ⟨w.heap.size, 0, Option.none⟩) (some ⟨w.heap.size, 0, Option.none⟩) [5] (w.alloc (.cells #[.int .u64 5] 42))) := Lib.hid ⟨below_news _ _, HR.out, HR.out, hT.mono (below_news _ _)⟩
  have e1 : Hid (nextV [5] 4 1 = (2, 0)) := Lib.hid (by decide +kernel)
  have e2 : Hid (lastV [5] 4 2 = (0, 0)) := Lib.hid (by decide +kernel)
  have e3 : Hid (nthV [5] 4 1 = (2, 0)) := Lib.hid (by decide +kernel)
  have e4 : Hid (cntV [5] 4 1 4 = (1, 0)) := Lib.hid (by decide +kernel)
  clear hT HR
  go_enter Tryd.func25, Tryd.ntmps25
  go_wp2_with fail
  refine (Next_any (some ⟨w.heap.size, 0, Option.none⟩) 1 [5] 4 1 _ H1.out.t HU.out H1.out.r (by decide)).mono ?_
  rintro e w2 ⟨rfl, hb⟩
  have H2 := Lib.hid (H1.out.next hb)
  clear hb
  rw [e1.out]
  go_wp2_with fail
  refine (Last_any (some ⟨w.heap.size, 0, Option.none⟩) 1 [5] 4 2 _ HU.out H2.out.r (by decide)).mono ?_
  rintro e w3 ⟨rfl, hb⟩
  have H3 := Lib.hid (H2.out.next hb)
  clear hb
  rw [e2.out]
  go_wp2_with fail
  refine (Nth_any (some ⟨w.heap.size, 0, Option.none⟩) 1 [5] 4 1 _ H3.out.t HU.out H3.out.r (by decide) (by decide)).mono ?_
  rintro e w4 ⟨rfl, hb⟩
  have H4 := Lib.hid (H3.out.next hb)
  clear hb
  rw [e3.out]
  go_wp2_with fail
  refine (Count_any (some ⟨w.heap.size, 0, Option.none⟩) 1 [5] 4 1 4 _ HU.out H4.out.r (by decide)).mono ?_
  rintro e w5 ⟨rfl, hb⟩
  have H5 := Lib.hid (H4.out.next hb)
  clear hb
  rw [e4.out]
  go_wp2_with fail
  refine (at_any _ _ _ _).mono ?_
  rintro e w' ⟨rfl, rfl⟩
  go_wp2_with fail
  refine (at_any _ _ _ _).mono ?_
  rintro e w' ⟨rfl, rfl⟩
  go_wp2_with fail
  refine (at_any _ _ _ _).mono ?_
  rintro e w' ⟨rfl, rfl⟩
  go_wp2_with fail
  refine (at_any _ _ _ _).mono ?_
  rintro e w' ⟨rfl, rfl⟩
  go_wp2
  go_ret
  exact ⟨rfl, H5.out.b⟩

/-- The slot of a number: plain. -/
theorem occs_at {ws : List Int} {m k : Nat} (hk : k < (occs ws 0 m).length) : ∃ s, (occs ws 0 m).getD k 0 = s ∧ s < m ∧ occB ws s = true ∧ (occs ws 0 s).length = k ∧ (∃ r, occs ws s (m - s) = s :: r) ∧ occs ws 0 (s + 1) = occs ws 0 s ++ [s] := by
  refine ⟨_, rfl, ?_⟩
  have hg : (occs ws 0 m).getD k 0 = (occs ws 0 m)[k] := by simp [List.getD_eq_getElem?_getD, hk]
  have hmem : (occs ws 0 m).getD k 0 ∈ occs ws 0 m := by rw [hg]; exact List.getElem_mem _
  obtain ⟨_, hs, ho⟩ := occs_mem.1 hmem
  generalize hss : (occs ws 0 m).getD k 0 = s at *
  have hsm : s < m := by omega
  have hsp : occs ws 0 m = occs ws 0 s ++ occs ws s (m - s) := by
    have := occs_add ws 0 s (m - s)
    rwa [show s + (m - s) = m by omega, Nat.zero_add] at this
  have hsn : occs ws s (m - s) = s :: occs ws (s + 1) (m - s - 1) := by
    obtain ⟨d, hd⟩ : ∃ d, m - s = d + 1 := ⟨m - s - 1, by omega⟩
    rw [hd, show d + 1 - 1 = d by omega]
    unfold occs
    rw [List.range'_succ, List.filter_cons_of_pos ho]
  refine ⟨hsm, ho, ?_, ⟨_, hsn⟩, ?_⟩
  · have hnd : (occs ws 0 m).Nodup := by unfold occs; exact (List.nodup_range' (step := 1)).filter _
    have h1 : (occs ws 0 m)[(occs ws 0 s).length]? = some s := by
      rw [hsp, List.getElem?_append_right (Nat.le_refl _), Nat.sub_self, hsn]; rfl
    have h2 : (occs ws 0 m)[k]? = some s := by rw [List.getElem?_eq_getElem hk, ← hg]
    have hl : (occs ws 0 s).length < (occs ws 0 m).length := (List.getElem?_eq_some_iff.1 h1).1
    exact (List.getElem?_inj hl hnd).1 (h1.trans h2.symm)
  · have := occs_succ ws 0 s
    rw [Nat.zero_add, if_pos ho] at this
    exact this

/-- A law of words that came in: what it is told. -/
theorem chkV_bad_or {ws : List Int} {n : Int} : (chkV ws n = 0 ∧ ∃ m : Nat, n = (m : Int) ∧ m ≤ 65536 ∧ ws.length = (m + 63) / 64) ∨ chkV ws n ≠ 0 := by
  by_cases h : chkV ws n = 0
  · obtain ⟨m, h1, h2, h3, _⟩ := chkV_ok h
    exact .inl ⟨h, m, h1, h2, h3⟩
  · exact .inr h

set_option maxRecDepth 100000 in
set_option maxHeartbeats 4000000 in
theorem occParts (a : Option Addr) (len cap : Nat) (zs0 : List Int) (n x y : Int) (w : World) (wz : Opn.IsRow .u64 w a len cap zs0) (wn : (Lit.int .i64 n).wf = true) (wx : (Lit.int .i64 x).wf = true) (wy : (Lit.int .i64 y).wf = true) (hT : Tab w) :
    Calls Tryd.prog 5 #[.slice a len cap, .int .i64 n, .int .i64 x, .int .i64 y] w fun e w' => e = .returned (.bool true) ∧ Below w.heap.size w w' := by
  obtain ⟨zs, rfl, hr, hu, hn, hc, hb⟩ := argW_of wz
  have HU := Lib.hid hu
  have HL := Lib.hid (alive_any w hT)
  have H1 : Hid (S2 w a a zs w) := Lib.hid ⟨Below.refl _ _, hr, hr, hT⟩
  clear wz wn wx wy hu hr hT
  by_cases hl : 20 < zs.length
  · go_enter Tryd.func5, Tryd.ntmps5
    go_wp2_with fail
    refine HL.out.mono ?_
    rintro e w2 ⟨rfl, hb⟩
    have H2 := Lib.hid (H1.out.next hb)
    clear hb
    go_wp2
    go_ret
    exact ⟨rfl, H2.out.b⟩
  by_cases hck : ¬ chkV zs n = 0
  · go_enter Tryd.func5, Tryd.ntmps5
    go_wp2_with fail
    refine HL.out.mono ?_
    rintro e w2 ⟨rfl, hb⟩
    have H2 := Lib.hid (H1.out.next hb)
    clear hb
    go_wp2_with fail
    refine (Check_any a cap zs n w2 HU.out H2.out.r (by omega)).mono ?_
    rintro e w' ⟨rfl, rfl⟩
    generalize chkV zs n = c at *
    go_wp2
    go_ret
    exact ⟨rfl, H2.out.b⟩
  have hck := Classical.not_not.1 hck
  obtain ⟨m, rfl, hm, -, -⟩ := chkV_ok hck
  by_cases hx : x < 0
  · go_enter Tryd.func5, Tryd.ntmps5
    go_wp2_with fail
    refine HL.out.mono ?_
    rintro e w2 ⟨rfl, hb⟩
    have H2 := Lib.hid (H1.out.next hb)
    clear hb
    go_wp2_with fail
    refine (Check_any a cap zs (m : Int) w2 HU.out H2.out.r (by omega)).mono ?_
    rintro e w' ⟨rfl, rfl⟩
    rw [hck]
    go_wp2
    go_ret
    exact ⟨rfl, H2.out.b⟩
  by_cases hy : y < x
  · go_enter Tryd.func5, Tryd.ntmps5
    go_wp2_with fail
    refine HL.out.mono ?_
    rintro e w2 ⟨rfl, hb⟩
    have H2 := Lib.hid (H1.out.next hb)
    clear hb
    go_wp2_with fail
    refine (Check_any a cap zs (m : Int) w2 HU.out H2.out.r (by omega)).mono ?_
    rintro e w' ⟨rfl, rfl⟩
    rw [hck]
    go_wp2
    go_ret
    exact ⟨rfl, H2.out.b⟩
  by_cases hm : (m : Int) ≤ y
  · go_enter Tryd.func5, Tryd.ntmps5
    go_wp2_with fail
    refine HL.out.mono ?_
    rintro e w2 ⟨rfl, hb⟩
    have H2 := Lib.hid (H1.out.next hb)
    clear hb
    go_wp2_with fail
    refine (Check_any a cap zs (m : Int) w2 HU.out H2.out.r (by omega)).mono ?_
    rintro e w' ⟨rfl, rfl⟩
    rw [hck]
    go_wp2
    go_ret
    exact ⟨rfl, H2.out.b⟩
  obtain ⟨x, rfl⟩ := Int.eq_ofNat_of_zero_le (show 0 ≤ x by omega)
  obtain ⟨y, rfl⟩ := Int.eq_ofNat_of_zero_le (show 0 ≤ y by omega)
  have cnt : ∀ f t : Nat, f ≤ t → t ≤ m → Hid (cntV zs (m : Int) (f : Int) (t : Int) = (((occs zs f (t - f)).length : Int), 0)) := fun f t h1 h2 => Lib.hid (by
    unfold cntV; rw [if_pos (ask_ok hck (inB_iff.2 ⟨by omega, by omega, by omega⟩)), Int.toNat_natCast, show ((t : Int) - (f : Int)).toNat = t - f by omega])
  have e1 := cnt 0 x (by omega) (by omega)
  have e2 := cnt x y (by omega) (by omega)
  have e3 := cnt 0 y (by omega) (by omega)
  have e4 := cnt y (y + 1) (by omega) (by omega)
  have e5 : Hid (hasV zs (m : Int) (y : Int) = (occB zs y, 0)) := Lib.hid (by
    unfold hasV; rw [if_pos (ask_ok hck (atB_iff.2 ⟨by omega, by omega⟩)), Int.toNat_natCast])
  have hsum : (((occs zs 0 (x - 0)).length : Nat) : Int) + (((occs zs x (y - x)).length : Nat) : Int) = (((occs zs 0 (y - 0)).length : Nat) : Int) := by
    have := occs_add zs 0 x (y - x)
    rw [Nat.zero_add, show x + (y - x) = y by omega] at this
    rw [Nat.sub_zero, Nat.sub_zero, this, List.length_append]; omega
  have hone : (occs zs y (y + 1 - y)).length = if occB zs y = true then 1 else 0 := by
    rw [show y + 1 - y = 0 + 1 by omega, occs_succ, Nat.add_zero]
    by_cases h : occB zs y = true <;> simp [h, occs]
  have hb1 := occs_length zs 0 (x - 0)
  have hb2 := occs_length zs x (y - x)
  rw [Int.natCast_zero] at e1 e3
  rw [Int.natCast_add, Int.natCast_one] at e4
  clear cnt
  generalize (occs zs 0 (x - 0)).length = L1 at *
  generalize (occs zs x (y - x)).length = L2 at *
  generalize (occs zs 0 (y - 0)).length = L3 at *
  generalize (occs zs y (y + 1 - y)).length = L4 at *
  generalize occB zs y = o at *
  have HONE := Lib.hid hone
  clear hone
  go_enter Tryd.func5, Tryd.ntmps5
  go_wp2_with fail
  refine HL.out.mono ?_
  rintro e w2 ⟨rfl, hb⟩
  have H2 := Lib.hid (H1.out.next hb)
  clear hb
  go_wp2_with fail
  refine (Check_any a cap zs (m : Int) w2 HU.out H2.out.r (by omega)).mono ?_
  rintro e w' ⟨rfl, rfl⟩
  rw [hck]
  go_wp2_with fail
  all_goals try (exfalso; omega)
  refine (Count_any a cap zs (m : Int) 0 (x : Int) w2 HU.out H2.out.r (by omega)).mono ?_
  rintro e w3 ⟨rfl, hb⟩
  have H3 := Lib.hid (H2.out.next hb)
  clear hb
  rw [e1.out]
  go_wp2_with fail
  refine (Count_any a cap zs (m : Int) (x : Int) (y : Int) w3 HU.out H3.out.r (by omega)).mono ?_
  rintro e w4 ⟨rfl, hb⟩
  have H4 := Lib.hid (H3.out.next hb)
  clear hb
  rw [e2.out]
  go_wp2_with fail
  refine (Count_any a cap zs (m : Int) 0 (y : Int) w4 HU.out H4.out.r (by omega)).mono ?_
  rintro e w5 ⟨rfl, hb⟩
  have H5 := Lib.hid (H4.out.next hb)
  clear hb
  rw [e3.out]
  go_wp2_with fail
  refine (Count_any a cap zs (m : Int) (y : Int) ((y : Int) + 1) w5 HU.out H5.out.r (by omega)).mono ?_
  rintro e w6 ⟨rfl, hb⟩
  have H6 := Lib.hid (H5.out.next hb)
  clear hb
  rw [e4.out]
  go_wp2_with fail
  refine (Has_any a cap zs (m : Int) (y : Int) w6 HU.out H6.out.r (by omega)).mono ?_
  rintro e w' ⟨rfl, rfl⟩
  rw [e5.out]
  have hL1 : L1 ≤ 65536 := by omega
  have hL2 : L2 ≤ 65536 := by omega
  clear hb1 hb2
  rcases Bool.eq_false_or_eq_true o with rfl | rfl
  · obtain rfl : L4 = 1 := by simpa using HONE.out
    clear HONE
    go_wp2
    go_ret
    exact ⟨by simp, H6.out.b⟩
  · obtain rfl : L4 = 0 := by simpa using HONE.out
    clear HONE
    go_wp2
    go_ret
    exact ⟨by simp, H6.out.b⟩

end Go.Proofs.YtnfjabohnjbgbaaDoor.Occ
