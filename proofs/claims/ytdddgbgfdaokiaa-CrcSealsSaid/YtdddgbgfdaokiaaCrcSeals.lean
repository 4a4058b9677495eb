/- The law CrcSeals: a walk. -/
import Derived.Test.YtdddgbgfdaokiaaCrcBursts
namespace Go.Proofs.Ytdddgbgfdaokiaa.Crc
open Go.RowKit Go.Proofs.Ytdddgbgfdaokiaa

theorem owns_below {w w' : World} {base : Nat} {e : TypeId} {s : Nat} {v : Value} {n : Nat} {xs : List Value} (h : w.ownsRow base e s v n xs) (hb : Below w.heap.size w w') : w'.ownsRow base e s v n xs :=
  h.kept (row := Option.none) ⟨hb.os, hb.tape, hb.output, hb.size, fun i hi _ => hb.block i hi⟩ (by
    cases hv : v.ownBlock with
    | none => exact .inl rfl
    | some k => exact .inr (by simp))
theorem owns_apart {w w' : World} {b1 b2 : Nat} {e1 e2 : TypeId} {s1 s2 : Nat} {v1 v2 : Value} {n1 n2 : Nat} {xs1 xs2 : List Value} (h1 : w.ownsRow b1 e1 s1 v1 n1 xs1) (h2 : w'.ownsRow b2 e2 s2 v2 n2 xs2) (hb : w.heap.size ≤ b2) : v2.ownBlock = Option.none ∨ v2.ownBlock ≠ v1.ownBlock := by
  cases hv : v2.ownBlock with
  | none => exact .inl rfl
  | some k =>
    refine .inr fun h => ?_
    have a1 := h1.lt k h.symm
    have a2 := h2.lt k hv
    omega

/-- What a loop that writes a slice over leaves. -/
def Spoilt (w0 : World) (B : Nat) (a : Option Addr) (n c : Nat) (wr : World) : Prop :=
  ∃ cs : List Int, cs.length = n ∧ wr.ownsRow B 5 1 (.slice a n c) n (nums8 cs) ∧ w0.grownBy wr (Value.slice a n c).ownBlock
theorem Spoilt.start {w0 : World} {B : Nat} {a : Option Addr} {c : Nat} {cs : List Int} (h : w0.ownsRow B 5 1 (.slice a cs.length c) cs.length (nums8 cs)) : Spoilt w0 B a cs.length c w0 :=
  ⟨cs, rfl, h, World.grownBy.refl _ _⟩

theorem nums8_get {cs : List Int} {k : Nat} (h : k < cs.length) : (nums8 cs)[k]? = some (.int .u8 (cs.getD k 0)) := by simp [nums8, List.getD_eq_getElem?_getD, h]

set_option maxRecDepth 100000 in
set_option maxHeartbeats 8000000 in
theorem crcSeals (a : Option Addr) (la ca : Nat) (za : List Int) (p m : Int) (w : World) (wa : Opn.IsRow .u8 w a la ca za) (wp : (Lit.int .i64 p).wf = true) (wm : (Lit.int .u32 m).wf = true) :
    Calls Try.prog 6 #[.slice a la ca, .int .i64 p, .int .u32 m] w fun e w' => e = .returned (.bool true) ∧ Below w.heap.size w w' := by
  obtain ⟨i0, hi, hz0, hz1, hz2⟩ := info_parts info8
  obtain ⟨m0, m1⟩ := u32_of wm
  obtain ⟨p0, p1⟩ := bd64 wp
  obtain ⟨zs, rfl, hr, hz, hn, hc, _⟩ := arg_of wa
  have HP : Hid ((-9223372036854775808 ≤ p ∧ p ≤ 9223372036854775807) ∧ (0 ≤ m ∧ m < 4294967296) ∧ m.toNat < 4294967296) := Lib.hid ⟨⟨p0, p1⟩, ⟨m0, m1⟩, by omega⟩
  clear wa wp wm p0 p1 m0 m1
  by_cases hl : 3000 < zs.length
  · clear hr
    go_enter Try.func6, Try.ntmps6
    go_wp2
    go_ret
    exact ⟨rfl, Below.refl _ _⟩
  go_enter Try.func6, Try.ntmps6
  go_wp2_with (at_builtin; refine wpList_append_copy (k := .u8) rfl _ _ 23 5 rfl i0 1 Try.underlying23 hi hz0 hz1 hz2 a ca zs rfl rfl hr hn (by unfold maxLen; omega) (by omega) ?_)
  intro v1 w1 hv1 hb1
  obtain ⟨a1, c1, rfl, _, ho1, hc1, hn1, _⟩ := owns_arg hv1
  have hr1 := hr.mono hb1 (Nat.le_refl _)
  have HB1 := Lib.hid hb1
  clear hv1 hb1 hr
  go_wp2_with fail
  refine (seal_any a1 c1 zs w1 hz ho1 (by omega)).mono ?_
  rintro e w2 ⟨v2, rfl, hv2, hb2⟩
  have HX := Lib.hid hv2
  have HX2 := Lib.hid hv2
  have HR2 := Lib.hid (And.intro (ho1.mono hb2 (Nat.le_refl _)) (hr1.mono hb2 (Nat.le_refl _)))
  have HB2 := Lib.hid hb2
  have HS1 := Lib.hid (And.intro ho1 hr1)
  clear hv2 hb2 hr1 ho1
  go_wp2_with fail
  refine (refSeal_any a ca zs w2 hz HR2.out.2 hn (by omega)).mono ?_
  rintro e w3 ⟨v3, rfl, hv3, hb3⟩
  have HX3 := Lib.hid (owns_below HX.out hb3)
  have HY := Lib.hid hv3
  have HR3 := Lib.hid (And.intro (HR2.out.1.mono hb3 (Nat.le_refl _)) (HR2.out.2.mono hb3 (Nat.le_refl _)))
  have HB3 := Lib.hid (bstep HB2.out hb3)
  have HZ3 := Lib.hid hb3.size
  clear hv3 hb3 HR2
  go_wp2_with fail
  refine (open_any a1 c1 zs w3 hz HR3.out.1 (by omega) hc1).mono ?_
  rintro e w4 ⟨v4, rfl, hv4, hb4⟩
  have HX4 := Lib.hid (owns_below HX3.out hb4)
  have HY4 := Lib.hid (owns_below HY.out hb4)
  have HC := Lib.hid hv4
  have HC2 := Lib.hid hv4
  have HZ4 := Lib.hid hb4.size
  have HR4 := Lib.hid (And.intro (HR3.out.1.mono hb4 (Nat.le_refl _)) (HR3.out.2.mono hb4 (Nat.le_refl _)))
  have HB4 := Lib.hid (bstep HB3.out hb4)
  clear hv4 hb4 HR3 HX3 HY
  go_wp2_with fail
  refine (refOpen_any a ca zs w4 hz HR4.out.2 hn (by omega) hc).mono ?_
  rintro e w5 ⟨v5, rfl, hv5, hb5⟩
  have HX5 := Lib.hid (owns_below HX4.out hb5)
  have HY5 := Lib.hid (owns_below HY4.out hb5)
  have HC5 := Lib.hid (owns_below HC.out hb5)
  have HD := Lib.hid hv5
  have HR5 := Lib.hid (And.intro (HR4.out.1.mono hb5 (Nat.le_refl _)) (HR4.out.2.mono hb5 (Nat.le_refl _)))
  have HB5 := Lib.hid (bstep HB4.out hb5)
  have HZ5 := Lib.hid hb5.size
  have HZ45 := Lib.hid hb5.size
  clear hv5 hb5 HR4 HX4 HY4
  go_wp2_with fail
  refine (burst_any a1 c1 zs p m w5 hz HR5.out.1 (by omega) HP.out.1.1 HP.out.1.2 HP.out.2.1.1 HP.out.2.1.2).mono ?_
  rintro e w6 ⟨v6, rfl, hv6, hb6⟩
  have HX6 := Lib.hid (owns_below HX5.out hb6)
  have HY6 := Lib.hid (owns_below HY5.out hb6)
  have HC6 := Lib.hid (owns_below HC5.out hb6)
  have HD6 := Lib.hid (owns_below HD.out hb6)
  have HQ := Lib.hid hv6
  have HR6 := Lib.hid (And.intro (HR5.out.1.mono hb6 (Nat.le_refl _)) (HR5.out.2.mono hb6 (Nat.le_refl _)))
  have HB6 := Lib.hid (bstep HB5.out hb6)
  clear hv6 hb6 HR5 HX5 HY5 HC5 HD
  go_wp2_with fail
  refine (refBurst_any a ca zs p m w6 hz HR6.out.2 hn (by omega) HP.out.1.1 HP.out.1.2 HP.out.2.1.1 HP.out.2.1.2).mono ?_
  rintro e w7 ⟨v7, rfl, hv7, hb7⟩
  have hx7 := owns_below HX6.out hb7
  have hy7 := owns_below HY6.out hb7
  have hc7 := owns_below HC6.out hb7
  have hd7 := owns_below HD6.out hb7
  have hp7 := owns_below HQ.out hb7
  have HB7 := Lib.hid (bstep HB6.out hb7)
  generalize sealV zs = X at *
  generalize openV zs = O at *
  generalize burstV zs p m.toNat = U at *
  obtain ⟨X, x2⟩ := X
  obtain ⟨O, o2⟩ := O
  obtain ⟨U, u2⟩ := U
  dsimp only at *
  obtain ⟨ax, cx, rfl, _, rx, mX1, _, mX2⟩ := owns_arg hx7
  have lX : X.length ≤ 9223372036854775807 := by unfold maxLen at mX2; omega
  obtain ⟨ay, cy, rfl, _, ry, _⟩ := owns_arg hy7
  obtain ⟨ac, cc, rfl, _, rc, mO1, _, mO2⟩ := owns_arg hc7
  have lO : O.length ≤ 9223372036854775807 := by unfold maxLen at mO2; omega
  obtain ⟨ad, cd, rfl, _, rd, _⟩ := owns_arg hd7
  obtain ⟨ap, cp, rfl, _, rp, mU1, _, mU2⟩ := owns_arg hp7
  have lU : U.length ≤ 9223372036854775807 := by unfold maxLen at mU2; omega
  obtain ⟨aq, cq, rfl, _, rq, _⟩ := owns_arg hv7
  have q1 := conv_rd (n := X.length) (cap := cx) rx rfl
  have q2 := conv_rd (n := X.length) (cap := cy) ry rfl
  have q3 := conv_rd (n := O.length) (cap := cc) rc rfl
  have q4 := conv_rd (n := O.length) (cap := cd) rd rfl
  have q5 := conv_rd (n := U.length) (cap := cp) rp rfl
  have q6 := conv_rd (n := U.length) (cap := cq) rq rfl
  have HSX := Lib.hid (Spoilt.start hx7)
  have HOC := Lib.hid hc7
  have HOP := Lib.hid hp7
  clear rx ry rc rd rp rq hx7 hy7 hc7 hd7 hp7 hv7 hb7
  go_wp2_with fail
  clear q1 q2 q3 q4 q5 q6
  have HZ25 : Hid (w2.heap.size ≤ w5.heap.size) := Lib.hid (by have a1 := HZ3.out; have a2 := HZ4.out; have a3 := HZ45.out; omega)
  clear HX6 HY6 HC6 HD6 HQ
  go_loopw [21] (fun i wr => ∃ k : Nat, k ≤ X.length ∧ i = .int .i64 k ∧ Spoilt w7 w1.heap.size ax X.length cx wr) (fun i _ => X.length - (intOf i).toNat)
  case atStart => exact ⟨0, Nat.zero_le _, rfl, HSX.out⟩
  case round =>
    obtain ⟨k, hk, rfl, ⟨cs, hcl, hown, hgr⟩⟩ := hrel
    clear HSX
    by_cases hlt : k < X.length
    · obtain ⟨g, c, e, hg0, _⟩ := hown.form (by omega)
      cases e
      have hcell := hown.cellAt k (by omega)
      have hfr := hown.frozenAt k
      rw [nums8_get (by omega)] at hcell
      generalize cs.getD k 0 = z at *
      have HO := Lib.hid (fun u => hown.stored k (.int .u8 u))
      have HT : Hid (∀ u, Spoilt w7 w1.heap.size (some ⟨g, 0, Option.none⟩) X.length cx (wr.setCell ⟨g, k, Option.none⟩ (.int .u8 u))) := Lib.hid fun u =>
        ⟨cs.set k u, by rw [List.length_set]; exact hcl, by rw [← nums8_set]; exact (HO.out u).1, World.grownBy.trans hgr (HO.out u).2⟩
      clear hown hgr HO
      go_wp2
      go_roundw
      case rel => exact ⟨k + 1, by omega, by go_num, HT.out _⟩
      case measure => simp [intOf]; omega
    · have HT1 : Hid (Spoilt w7 w1.heap.size ax X.length cx wr) := Lib.hid ⟨cs, hcl, hown, hgr⟩
      obtain rfl : k = X.length := by omega
      clear hown hgr hcl hk hlt
      obtain ⟨wx, rfl⟩ : ∃ wx : World, wx = wr := ⟨_, rfl⟩
      have HSC : Hid (Spoilt wx w3.heap.size ac O.length cc wx) := Lib.hid (by
        obtain ⟨cs, _, hown, hgr⟩ := HT1.out
        exact Spoilt.start (HOC.out.kept hgr (owns_apart HX2.out HOC.out HZ3.out)))
      have HOP2 : Hid (wx.ownsRow w5.heap.size 5 1 (.slice ap U.length cp) U.length (nums8 U)) := Lib.hid (by
        obtain ⟨cs, _, hown, hgr⟩ := HT1.out
        exact HOP.out.kept hgr (owns_apart HX2.out HOP.out HZ25.out))
      go_wp2_with fail
      go_loopw [22] (fun i wr => ∃ k : Nat, k ≤ O.length ∧ i = .int .i64 k ∧ Spoilt wx w3.heap.size ac O.length cc wr) (fun i _ => O.length - (intOf i).toNat)
      case atStart => exact ⟨0, Nat.zero_le _, rfl, HSC.out⟩
      case round =>
        obtain ⟨k, hk, rfl, ⟨cs, hcl, hown, hgr⟩⟩ := hrel
        clear HSC
        by_cases hlt : k < O.length
        · obtain ⟨g, c, e, hg0, _⟩ := hown.form (by omega)
          cases e
          have hcell := hown.cellAt k (by omega)
          have hfr := hown.frozenAt k
          rw [nums8_get (by omega)] at hcell
          generalize cs.getD k 0 = z at *
          have HO := Lib.hid (fun u => hown.stored k (.int .u8 u))
          have HT : Hid (∀ u, Spoilt wx w3.heap.size (some ⟨g, 0, Option.none⟩) O.length cc (wr.setCell ⟨g, k, Option.none⟩ (.int .u8 u))) := Lib.hid fun u =>
            ⟨cs.set k u, by rw [List.length_set]; exact hcl, by rw [← nums8_set]; exact (HO.out u).1, World.grownBy.trans hgr (HO.out u).2⟩
          clear hown hgr HO
          go_wp2
          go_roundw
          case rel => exact ⟨k + 1, by omega, by go_num, HT.out _⟩
          case measure => simp [intOf]; omega
        · have HT2 : Hid (Spoilt wx w3.heap.size ac O.length cc wr) := Lib.hid ⟨cs, hcl, hown, hgr⟩
          obtain rfl : k = O.length := by omega
          clear hown hgr hcl hk hlt
          obtain ⟨wy, rfl⟩ : ∃ wy : World, wy = wr := ⟨_, rfl⟩
          have HSP : Hid (Spoilt wy w5.heap.size ap U.length cp wy) := Lib.hid (by
            obtain ⟨cs, _, hown, hgr⟩ := HT2.out
            exact Spoilt.start (HOP2.out.kept hgr (owns_apart HC2.out HOP2.out HZ5.out)))
          go_wp2_with fail
          go_loopw [23] (fun i wr => ∃ k : Nat, k ≤ U.length ∧ i = .int .i64 k ∧ Spoilt wy w5.heap.size ap U.length cp wr) (fun i _ => U.length - (intOf i).toNat)
          case atStart => exact ⟨0, Nat.zero_le _, rfl, HSP.out⟩
          case round =>
            obtain ⟨k, hk, rfl, ⟨cs, hcl, hown, hgr⟩⟩ := hrel
            clear HSP
            by_cases hlt : k < U.length
            · obtain ⟨g, c, e, hg0, _⟩ := hown.form (by omega)
              cases e
              have hcell := hown.cellAt k (by omega)
              have hfr := hown.frozenAt k
              rw [nums8_get (by omega)] at hcell
              generalize cs.getD k 0 = z at *
              have HO := Lib.hid (fun u => hown.stored k (.int .u8 u))
              have HT : Hid (∀ u, Spoilt wy w5.heap.size (some ⟨g, 0, Option.none⟩) U.length cp (wr.setCell ⟨g, k, Option.none⟩ (.int .u8 u))) := Lib.hid fun u =>
                ⟨cs.set k u, by rw [List.length_set]; exact hcl, by rw [← nums8_set]; exact (HO.out u).1, World.grownBy.trans hgr (HO.out u).2⟩
              clear hown hgr HO
              go_wp2
              go_roundw
              case rel => exact ⟨k + 1, by omega, by go_num, HT.out _⟩
              case measure => simp [intOf]; omega
            · have HT3 : Hid (Spoilt wy w5.heap.size ap U.length cp wr) := Lib.hid ⟨cs, hcl, hown, hgr⟩
              obtain rfl : k = U.length := by omega
              clear hown hgr hcl hk hlt
              obtain ⟨wz, rfl⟩ : ∃ wz : World, wz = wr := ⟨_, rfl⟩
              have HBZ : Hid (Below w1.heap.size w1 wz) := Lib.hid (by
                obtain ⟨_, _, o1, g1⟩ := HT1.out
                obtain ⟨_, _, o2, g2⟩ := HT2.out
                obtain ⟨_, _, o3, g3⟩ := HT3.out
                have s4 := HZ4.out
                have s5 := HZ5.out
                have b1 := HB7.out.grown g1 HB7.out.size (fun k hk => (o1.lt k hk).1)
                have b2 := b1.grown g2 b1.size (fun k hk => Nat.le_trans (Nat.le_trans HB2.out.size HZ3.out) (o2.lt k hk).1)
                exact b2.grown g3 b2.size (fun k hk => Nat.le_trans (Nat.le_trans (Nat.le_trans HB2.out.size HZ25.out) (Nat.le_refl _)) (o3.lt k hk).1))
              have q1 := conv_rd (n := zs.length) (cap := c1) (HS1.out.1.mono HBZ.out (Nat.le_refl _)) rfl
              have q2 := conv_rd (n := zs.length) (cap := ca) (HS1.out.2.mono HBZ.out (Nat.le_refl _)) rfl
              go_wp2
              go_ret
              exact ⟨by simp, bstep HB1.out HBZ.out⟩

end Go.Proofs.Ytdddgbgfdaokiaa.Crc
