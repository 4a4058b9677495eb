/- The laws of occ that compare with the document: walks. -/
import Derived.Test.YtnfjabohnjbgbaaDoorOcc16
import Derived.Test.YtnfjabohnjbgbaaDoorOpen
namespace Go.Proofs.YtnfjabohnjbgbaaDoor.Occ
open Go.RowKit Go.Shelf Go.Proofs.YtnfjabohnjbgbaaDoor

/-- What a law is told of words that came in. -/
structure ArgW (w : World) (a : Option Addr) (len cap : Nat) (ys : List Int) : Prop where
  hlen : ys.length = len
  hrd : Rd .u64 w a ys
  hu : U64 ys
  hnil : a = Option.none → cap = 0
  hcap : len ≤ cap
  hbig : cap ≤ 9223372036854775807

theorem argW_of {w : World} {a : Option Addr} {len cap : Nat} {zs : List Int} (h : Opn.IsRow .u64 w a len cap zs) : ∃ ys, ArgW w a len cap ys := by
  refine ⟨zs.take len, ?_⟩
  rcases h with ⟨rfl, rfl, rfl, rfl⟩ | ⟨x, rfl, hl, hm, hz, hc, hw⟩
  · exact ⟨rfl, .inl rfl, by intro z hz; simp at hz, fun _ => rfl, Nat.le_refl _, by omega⟩
  · have hlen : (zs.take len).length = len := by rw [List.length_take]; omega
    refine ⟨hlen, ?_, ?_, (by intro h; cases h), hl, (by unfold maxLen at hm; omega)⟩
    · rcases Nat.eq_zero_or_pos len with h0 | h0
      · subst h0; left; simp
      · right
        obtain ⟨b, o, s⟩ := x
        obtain rfl : s = Option.none := by simpa [Addr.add] using World.cell?_spot (hc 0 (by omega))
        refine ⟨b, o, rfl, ?_, fun i hi => ?_⟩
        · exact World.block_lt_of_cell? w ⟨b, o, Option.none⟩ (by have := hc 0 (by omega); rwa [Addr.add_lit, Nat.add_zero] at this)
        · rw [hlen] at hi
          have := hc i (by omega)
          rw [Addr.add_lit] at this
          rw [this]
          simp [List.getD_eq_getElem?_getD, List.getElem?_take_of_lt hi]
    · intro z hz'
      have := hw z (List.mem_of_mem_take hz')
      simp [Lit.wf, IntKind.min, IntKind.max, IntKind.signed, IntKind.bits] at this
      omega

/-- Between two calls of a law: what came in, and the copy, can be read; the table lies. -/
structure S2 (w : World) (a a1 : Option Addr) (zs : List Int) (W : World) : Prop where
  b : Below w.heap.size w W
  r : Rd .u64 W a zs
  o : Rd .u64 W a1 zs
  t : Tab W
theorem S2.next {w W W' : World} {a a1 : Option Addr} {zs : List Int} (h : S2 w a a1 zs W) (hb : Below W.heap.size W W') : S2 w a a1 zs W' :=
  ⟨bstep h.b hb, h.r.mono hb (Nat.le_refl _), h.o.mono hb (Nat.le_refl _), h.t.mono hb⟩

set_option maxRecDepth 100000 in
set_option maxHeartbeats 4000000 in
theorem occTells (a : Option Addr) (len cap : Nat) (zs0 : List Int) (n x y : Int) (w : World) (wz : Opn.IsRow .u64 w a len cap zs0) (wn : (Lit.int .i64 n).wf = true) (wx : (Lit.int .i64 x).wf = true) (wy : (Lit.int .i64 y).wf = true) (hT : Tab w) :
    Calls Tryd.prog 3 #[.slice a len cap, .int .i64 n, .int .i64 x, .int .i64 y] w fun e w' => e = .returned (.bool true) ∧ Below w.heap.size w w' := by
  obtain ⟨i0, hi, hz0, hz1, hz2⟩ := info_parts infoW
  have HX := Lib.hid (bd64 wx).2
  obtain ⟨zs, rfl, hr, hu, hn, hc, hb⟩ := argW_of wz
  clear wz wn wx wy
  by_cases hl : 20 < zs.length
  · clear hr hu hT
    go_enter Tryd.func3, Tryd.ntmps3
    go_wp2
    go_ret
    exact ⟨rfl, Below.refl _ _⟩
  have HU := Lib.hid hu
  have HT := Lib.hid hT
  clear hu hT
  go_enter Tryd.func3, Tryd.ntmps3
  go_wp2_with (at_builtin; refine wpList_append_copy (k := .u64) rfl _ _ 22 42 rfl i0 8 Tryd.underlying22 hi hz0 hz1 hz2 a cap zs rfl rfl hr hn (by unfold maxLen; omega) (by omega) ?_)
  intro v w1 hv hb1
  obtain ⟨a1, c1, rfl, _, ho1⟩ := Rd.of_owns hv
  have H1 : Hid (S2 w a a1 zs w1) := Lib.hid ⟨hb1, hr.mono hb1 (Nat.le_refl _), ho1, HT.out.mono hb1⟩
  clear hv hb1 hr ho1
  go_wp2_with fail
  refine (Count_any a1 c1 zs n x y w1 HU.out H1.out.o (by omega)).mono ?_
  rintro e w2 ⟨rfl, hb2⟩
  have H2 := Lib.hid (H1.out.next hb2)
  clear hb2
  go_wp2_with fail
  refine (refCount_any a cap zs n x y w2 HU.out H2.out.r (by omega)).mono ?_
  rintro e w3 ⟨rfl, hb3⟩
  have H3 := Lib.hid (H2.out.next hb3)
  clear hb3
  generalize cntV zs n x y = V1
  go_wp2_with fail
  refine (Nth_any a1 c1 zs n x w3 H3.out.t HU.out H3.out.o (by omega) HX.out).mono ?_
  rintro e w4 ⟨rfl, hb4⟩
  have H4 := Lib.hid (H3.out.next hb4)
  clear hb4
  go_wp2_with fail
  refine (refNth_any a cap zs n x w4 HU.out H4.out.r (by omega)).mono ?_
  rintro e w5 ⟨rfl, hb5⟩
  have H5 := Lib.hid (H4.out.next hb5)
  clear hb5
  generalize nthV zs n x = V2
  go_wp2_with fail
  refine (Check_any a1 c1 zs n w5 HU.out H5.out.o (by omega)).mono ?_
  rintro e w' ⟨rfl, rfl⟩
  go_wp2_with fail
  refine (refCheck_any a cap zs n w5 HU.out H5.out.r (by omega)).mono ?_
  rintro e w' ⟨rfl, rfl⟩
  generalize chkV zs n = V3
  go_wp2_with fail
  refine (Same_any a1 a c1 cap zs zs w5 H5.out.o H5.out.r (by omega) (by omega)).mono ?_
  rintro e w6 ⟨rfl, hb6⟩
  have H6 := Lib.hid (H5.out.next hb6)
  clear hb6
  go_wp2_with fail
  refine (sameWords_any a1 a c1 cap zs zs w6 H6.out.o H6.out.r (by omega) (by omega)).mono ?_
  rintro e w7 ⟨rfl, hb7⟩
  have H7 := Lib.hid (H6.out.next hb7)
  clear hb7
  go_wp2
  go_ret
  exact ⟨by simp, H7.out.b⟩

end Go.Proofs.YtnfjabohnjbgbaaDoor.Occ
