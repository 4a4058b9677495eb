/- The laws of crc that compare with the document: walks. -/
import Derived.Test.YtdddgbgfdaokiaaCrc9
import Derived.Test.YtdddgbgfdaokiaaOpen
namespace Go.Proofs.Ytdddgbgfdaokiaa.Crc
open Go.RowKit Go.Proofs.Ytdddgbgfdaokiaa

/-- What a law is told of bytes that came in. -/
structure Arg (w : World) (a : Option Addr) (len cap : Nat) (ys : List Int) : Prop where
  hlen : ys.length = len
  hrd : Rd .u8 w a ys
  hbytes : Bytes ys
  hnil : a = Option.none → cap = 0
  hcap : len ≤ cap
  hbig : cap ≤ 9223372036854775807

theorem arg_of {w : World} {a : Option Addr} {len cap : Nat} {zs : List Int} (h : Opn.IsRow .u8 w a len cap zs) : ∃ ys, Arg w a len cap ys := by
  refine ⟨zs.take len, ?_⟩
  rcases h with ⟨rfl, rfl, rfl, rfl⟩ | ⟨x, rfl, hl, hm, hz, hc, hw⟩
  · exact ⟨rfl, .inl rfl, by intro z hz; simp at hz, fun _ => rfl, Nat.le_refl _, by omega⟩
  · have hlen : (zs.take len).length = len := by rw [List.length_take]; omega
    refine ⟨hlen, ?_, ?_, (by intro h; cases h), hl, (by unfold maxLen at hm; omega)⟩
    · rcases Nat.eq_zero_or_pos len with h0 | h0
      · subst h0; left; simp
      · right
        obtain ⟨b, o, s⟩ := x
        obtain rfl : s = Option.none := by simpa [Addr.add] using World.cell?_spot (hc 0 (by omega))
        refine ⟨b, o, rfl, ?_, fun i hi => ?_⟩
        · exact World.block_lt_of_cell? w ⟨b, o, Option.none⟩ (by have := hc 0 (by omega); rwa [Addr.add_lit, Nat.add_zero] at this)
        · rw [hlen] at hi
          have := hc i (by omega)
          rw [Addr.add_lit] at this
          rw [this]
          simp [List.getD_eq_getElem?_getD, List.getElem?_take_of_lt hi]
    · intro z hz'
      have := hw z (List.mem_of_mem_take hz')
      simp [Lit.wf, IntKind.min, IntKind.max, IntKind.signed, IntKind.bits] at this
      omega

theorem u32_of {n : Int} (h : (Lit.int .u32 n).wf = true) : 0 ≤ n ∧ n < 4294967296 := by
  simp [Lit.wf, IntKind.min, IntKind.max, IntKind.signed, IntKind.bits] at h
  omega

set_option maxRecDepth 100000 in
set_option maxHeartbeats 4000000 in
theorem crcTells (s : Int) (a : Option Addr) (len cap : Nat) (zs0 : List Int) (w : World) (ws : (Lit.int .u32 s).wf = true) (wz : Opn.IsRow .u8 w a len cap zs0) :
    Calls Try.prog 3 #[.int .u32 s, .slice a len cap] w fun e w' => e = .returned (.bool true) ∧ Below w.heap.size w w' := by
  obtain ⟨i0, hi, hz0, hz1, hz2⟩ := info_parts info8
  obtain ⟨h0, h1⟩ := u32_of ws
  obtain ⟨zs, rfl, hr, hz, hn, hc, hb⟩ := arg_of wz
  clear ws wz
  by_cases hl : 3000 < zs.length
  · clear hr
    go_enter Try.func3, Try.ntmps3
    go_wp2
    go_ret
    exact ⟨rfl, Below.refl _ _⟩
  go_enter Try.func3, Try.ntmps3
  go_wp2_with (at_builtin; refine wpList_append_copy (k := .u8) rfl _ _ 23 5 rfl i0 1 Try.underlying23 hi hz0 hz1 hz2 a cap zs rfl rfl hr hn (by unfold maxLen; omega) (by omega) ?_)
  intro v w1 hv hb1
  obtain ⟨a1, c1, rfl, _, ho1⟩ := Rd.of_owns hv
  have hr1 := hr.mono hb1 (Nat.le_refl _)
  clear hv
  go_wp2_with fail
  refine (go_any s a1 c1 zs w1 h0 h1 hz ho1 (by omega)).mono ?_
  rintro e w2 ⟨rfl, hb2⟩
  have hr2 := hr1.mono hb2 (Nat.le_refl _)
  have ho2 := ho1.mono hb2 (Nat.le_refl _)
  have HB2 := Lib.hid (bstep hb1 hb2)
  clear hb1 hb2
  go_wp2_with fail
  refine (refGo_any s a cap zs w2 h0 h1 hz hr2 (by omega)).mono ?_
  rintro e w3 ⟨rfl, rfl⟩
  go_wp2_with fail
  refine (of_any a1 c1 zs w2 hz ho2 (by omega)).mono ?_
  rintro e w3 ⟨rfl, hb3⟩
  have hr3 := hr2.mono hb3 (Nat.le_refl _)
  have ho3 := ho2.mono hb3 (Nat.le_refl _)
  have HB3 := Lib.hid (bstep HB2.out hb3)
  clear hb3
  go_wp2_with fail
  refine (refOf_any a cap zs w3 hz hr3 (by omega)).mono ?_
  rintro e w4 ⟨rfl, rfl⟩
  have hq1 := conv_rd (n := zs.length) (cap := c1) ho3 rfl
  have hq2 := conv_rd (n := zs.length) (cap := cap) hr3 rfl
  generalize (goV s.toNat zs).1 = x1 at *
  generalize (goV s.toNat zs).2 = x2 at *
  generalize (ofV zs).1 = x3 at *
  generalize (ofV zs).2 = x4 at *
  clear hr1 ho1 hr2 ho2 hr3 ho3 hr
  go_wp2
  go_ret
  exact ⟨by simp, HB3.out⟩

end Go.Proofs.Ytdddgbgfdaokiaa.Crc
