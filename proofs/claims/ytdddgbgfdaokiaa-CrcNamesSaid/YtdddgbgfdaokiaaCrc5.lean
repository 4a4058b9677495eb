/- Contracts of crc's functions above 'behind': Seal and Open. -/
import Derived.Test.YtdddgbgfdaokiaaCrc4
namespace Go.Proofs.Ytdddgbgfdaokiaa.Crc
open Go.RowKit Go.Proofs.Ytdddgbgfdaokiaa

theorem bytesOf_inj {xs ys : List Int} (hx : Bytes xs) (hy : Bytes ys) (h : Lib.bytesOf xs = Lib.bytesOf ys) : xs = ys := by
  unfold Lib.bytesOf at h
  apply List.ext_getElem?
  intro i
  have hi := congrArg (·[i]?) h
  simp only [List.getElem?_map] at hi
  cases hxi : xs[i]? with
  | none =>
    cases hyi : ys[i]? with
    | none => rfl
    | some y => rw [hxi, hyi] at hi; cases hi
  | some x =>
    cases hyi : ys[i]? with
    | none => rw [hxi, hyi] at hi; cases hi
    | some y =>
      rw [hxi, hyi] at hi
      simp only [Option.map_some, Option.some.injEq] at hi
      have h1 := hx x (List.mem_of_getElem? hxi)
      have h2 := hy y (List.mem_of_getElem? hyi)
      have h3 := congrArg UInt8.toNat hi
      rw [UInt8.toNat_ofNat', UInt8.toNat_ofNat'] at h3
      congr 1
      omega
theorem bytesOf_beq {xs ys : List Int} (hx : Bytes xs) (hy : Bytes ys) : (Lib.bytesOf xs == Lib.bytesOf ys) = decide (xs = ys) := by
  rw [Bool.eq_iff_iff]
  simp only [beq_iff_eq, decide_eq_true_eq]
  exact ⟨bytesOf_inj hx hy, fun h => by rw [h]⟩
theorem str_beq {xs ys : List Int} (hx : Bytes xs) (hy : Bytes ys) : ((strOfNums xs).toList == (strOfNums ys).toList) = decide (xs = ys) := by
  rw [Lib.strOfNums_toList, Lib.strOfNums_toList]; exact bytesOf_beq hx hy

theorem le4_bytes (n : Nat) : Bytes (le4 n) := by
  intro z hz
  unfold le4 at hz
  simp only [List.mem_cons, List.not_mem_nil, or_false] at hz
  omega
theorem Bytes.append {xs ys : List Int} (hx : Bytes xs) (hy : Bytes ys) : Bytes (xs ++ ys) := by
  intro z hz
  rcases List.mem_append.1 hz with h | h
  · exact hx z h
  · exact hy z h
theorem Bytes.sealed {zs : List Int} (h : Bytes zs) : Bytes (sealed zs) := Bytes.append h (le4_bytes _)

theorem Rd_in {w : World} {a : Option Addr} {zs : List Int} (h : Rd .u8 w a zs) : Lib.BytesIn w a zs.length zs := fun hn => by
  rcases h with h | ⟨b, off, ha, _, hc⟩
  · subst h; simp at hn
  · exact ⟨b, off, ha, hc⟩
theorem sealV_hi {zs : List Int} (h : 1048576 < zs.length) : sealV zs = ([], 4) := if_pos h
theorem sealV_lo {zs : List Int} (h : ¬ 1048576 < zs.length) : sealV zs = (sealed zs, 0) := if_neg h
theorem openV_hi {zs : List Int} (h : 1048576 < zs.length) : openV zs = ([], 4) := if_pos h
theorem openV_bad {t : List Int} (h : ¬ 1048576 < t.length) (h2 : t.length < 4 ∨ sealed (t.take (t.length - 4)) ≠ t) : openV t = ([], 8) := by unfold openV; rw [if_neg h, if_pos h2]
theorem openV_ok {t : List Int} (h : ¬ 1048576 < t.length) (h2 : ¬ t.length < 4) (h3 : sealed (t.take (t.length - 4)) = t) : openV t = (t.take (t.length - 4), 0) := by unfold openV; rw [if_neg h, if_neg (by simp [h2, h3])]

/-- What a function that answers bytes and an error says. -/
def Ans (V : List Int × Int) (w : World) (e : Ending) (w' : World) : Prop :=
  ∃ v', e = .returned (.tuple #[v', .int .i64 V.2]) ∧ w'.ownsRow w.heap.size 5 1 v' V.1.length (nums8 V.1) ∧ Below w.heap.size w w'
theorem Ans.nil {V : List Int × Int} {w w' : World} {c : Int} (h : V = ([], c)) (hb : Below w.heap.size w w') : Ans V w (.returned (.tuple #[.slice Option.none 0 0, .int .i64 c])) w' := by
  subst h
  exact ⟨_, rfl, World.ownsRow_nil _ _ _ _, hb⟩
theorem Ans.some {V : List Int × Int} {w w' : World} {zs : List Int} {c : Int} {v : Value} (h : V = (zs, c)) (hv : w'.ownsRow w.heap.size 5 1 v zs.length (nums8 zs)) (hb : Below w.heap.size w w') : Ans V w (.returned (.tuple #[v, .int .i64 c])) w' := by
  subst h
  exact ⟨_, rfl, hv, hb⟩

set_option maxHeartbeats 1000000 in
theorem seal_any (a : Option Addr) (cap : Nat) (zs : List Int) (w : World) (hz : Bytes zs) (hr : Rd .u8 w a zs) (hl : zs.length ≤ 9223372036854775807) :
    Calls Try.prog 14 #[.slice a zs.length cap] w fun e w' => Ans (sealV zs) w e w' := by
  by_cases h : 1048576 < zs.length
  · have H := Lib.hid (sealV_hi h)
    have HM := Lib.hid (manyV_hi h)
    go_enter Try.func14, Try.ntmps14
    go_wp2_with fail
    refine (many_any a zs.length cap w hl).mono ?_
    rintro e w' ⟨rfl, rfl⟩
    rw [HM.out]
    go_wp2
    go_ret2
    exact Ans.nil H.out (Below.refl _ _)
  · have H := Lib.hid (sealV_lo h)
    have HM := Lib.hid (manyV_lo h)
    go_enter Try.func14, Try.ntmps14
    go_wp2_with fail
    refine (many_any a zs.length cap w hl).mono ?_
    rintro e w' ⟨rfl, rfl⟩
    rw [HM.out]
    go_wp2_with fail
    refine (sealed_any a cap zs w hz hr (by omega)).mono ?_
    rintro e w' ⟨v, rfl, hv, hb⟩
    have HV := Lib.hid hv
    clear hv
    go_wp2
    go_ret2
    exact Ans.some H.out HV.out hb

set_option maxRecDepth 100000 in
set_option maxHeartbeats 2000000 in
theorem open_any (a : Option Addr) (cap : Nat) (zs : List Int) (w : World) (hz : Bytes zs) (hr : Rd .u8 w a zs) (hl : zs.length ≤ 9223372036854775807) (hc : zs.length ≤ cap) :
    Calls Try.prog 15 #[.slice a zs.length cap] w fun e w' => Ans (openV zs) w e w' := by
  by_cases h : 1048576 < zs.length
  · have H := Lib.hid (openV_hi h)
    have HM := Lib.hid (manyV_hi h)
    go_enter Try.func15, Try.ntmps15
    go_wp2_with fail
    refine (many_any a zs.length cap w hl).mono ?_
    rintro e w' ⟨rfl, rfl⟩
    rw [HM.out]
    go_wp2
    go_ret2
    exact Ans.nil H.out (Below.refl _ _)
  have HM := Lib.hid (manyV_lo h)
  by_cases h4 : zs.length < 4
  · have H := Lib.hid (openV_bad h (.inl h4))
    go_enter Try.func15, Try.ntmps15
    go_wp2_with fail
    refine (many_any a zs.length cap w hl).mono ?_
    rintro e w' ⟨rfl, rfl⟩
    rw [HM.out]
    go_wp2
    go_ret2
    exact Ans.nil H.out (Below.refl _ _)
  have hlen : (zs.take (zs.length - 4)).length = zs.length - 4 := by rw [List.length_take]; omega
  have ht := hr.take (zs.length - 4)
  have hzt := hz.take (zs.length - 4)
  have HX := Lib.hid (fun g : sealed (zs.take (zs.length - 4)) = zs => openV_ok h h4 g)
  have HY := Lib.hid (fun g : ¬ sealed (zs.take (zs.length - 4)) = zs => openV_bad h (.inr g))
  have HE := Lib.hid (bytesOf_beq hzt.sealed hz)
  generalize zs.take (zs.length - 4) = ts at *
  have HL := Lib.hid hlen
  have hl2 : ((zs.length - 4 : Nat) : Int) = (zs.length : Int) - 4 := by omega
  go_enter Try.func15, Try.ntmps15
  go_wp2_with fail
  refine (many_any a zs.length cap w hl).mono ?_
  rintro e w' ⟨rfl, rfl⟩
  rw [HM.out]
  go_wp2_with fail
  rw [← HL.out]
  refine (sealed_any a cap ts w hzt ht (by omega)).mono ?_
  rintro e w1 ⟨v, rfl, hv, hb⟩
  obtain ⟨a1, c1, rfl, _, hv1⟩ := Rd.of_owns hv
  have hr1 := hr.mono hb (Nat.le_refl _)
  have ht1 := ht.mono hb (Nat.le_refl _)
  have HB := Lib.hid hb
  clear hv hb
  go_wp2_with fail
  refine (Try.bytes_Equal_all a1 a _ c1 _ cap (sealed ts) zs w1 rfl rfl (Rd_in hv1) (Rd_in hr1)).mono ?_
  rintro e w2 ⟨rfl, rfl⟩
  rw [HE.out]
  by_cases hs : sealed ts = zs
  · have H := Lib.hid (HX.out hs)
    rw [decide_eq_true hs]
    go_wp2_with fail
    rw [← HL.out]
    refine (clone_any a cap ts w2 ht1 (by omega)).mono ?_
    rintro e w3 ⟨v, rfl, hv, hb⟩
    have HB3 := Lib.hid (bstep HB.out hb)
    have HV := Lib.hid (hv.mono HB.out.size)
    clear hv hb
    go_wp2
    go_ret2
    exact Ans.some H.out HV.out HB3.out
  · have H := Lib.hid (HY.out hs)
    rw [decide_eq_false hs]
    go_wp2
    go_ret2
    exact Ans.nil H.out HB.out

end Go.Proofs.Ytdddgbgfdaokiaa.Crc
