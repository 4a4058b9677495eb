/- The chapter's examples. -/
import Derived.Test.YtdddgbgfdaokiaaCrcLaws
import Derived.Laws.IdiomStrings
namespace Go.Proofs.Ytdddgbgfdaokiaa.Crc
open Go.RowKit Go.Proofs.Ytdddgbgfdaokiaa

/-- '[]byte(s)'. -/
theorem str_bytes (w : World) (s : ByteArray) (zs : List Int) (hzs : s.data.toList.map (fun b => (b.toNat : Int)) = zs) :
    ∃ a c w1, (convert 9 23 (.string s)).run Try.prog w = .ok (.slice a zs.length c) w1 ∧ Rd .u8 w1 a zs ∧ Below w.heap.size w w1 := by
  have hr := run_bytes_of_string (P := Try.prog) w 9 23 5 s Try.underlying9 Try.underlying23 Try.underlying5
  have hsz : s.size = zs.length := by rw [← hzs, List.length_map, Array.length_toList]; rfl
  rw [hsz] at hr
  generalize hg : grownCap w zs.length 0 5 = c at hr
  refine ⟨_, _, _, hr, ?_, (Below.refl _ w).drew.alloc (Nat.le_refl _) _⟩
  refine .inr ⟨w.heap.size, 0, rfl, by simp, fun i hi => ?_⟩
  have hi2 : i < s.data.size := by rw [← hzs, List.length_map, Array.length_toList] at hi; exact hi
  have hb := bytesRow_at s c i hi2
  have hh : (w.drew.alloc (.cells (bytesRow s c) 5 ((bytesRow s c).size, (bytesRow s c).size + 1))).heap[w.heap.size]? = some (.cells (bytesRow s c) 5 ((bytesRow s c).size, (bytesRow s c).size + 1)) := heap_alloc_new w.drew _
  simp only [World.cell?, hh, Nat.zero_add]
  rw [hb]
  subst hzs
  simp [List.getD_eq_getElem?_getD, Array.getElem?_eq_getElem hi2]

set_option maxRecDepth 100000 in
set_option maxHeartbeats 1000000 in
theorem sum_any (s : ByteArray) (n : Nat) (zs : List Int) (w : World) (hzs : s.data.toList.map (fun b => (b.toNat : Int)) = zs) (hz : Bytes zs) (hl : zs.length ≤ 1000) (hv : ofV zs = (n, 0)) :
    Calls Try.prog 24 #[.string s, .int .u32 n] w fun e w' => e = .returned (.bool true) ∧ Below w.heap.size w w' := by
  obtain ⟨a, c, w1, hc, hr, hb⟩ := str_bytes w s zs hzs
  clear hzs
  go_enter Try.func24, Try.ntmps24
  go_wp2_with fail
  refine (of_any a c zs w1 hz hr (by omega)).mono ?_
  rintro e w2 ⟨rfl, hb2⟩
  rw [hv]
  have HB := Lib.hid (bstep hb hb2)
  clear hr hb hb2 hc
  go_wp2
  go_ret
  exact ⟨by simp, HB.out⟩

def nine : List Int := [49, 50, 51, 52, 53, 54, 55, 56, 57]
theorem nine_bytes : Bytes nine := by intro z hz; simp [nine] at hz; omega
theorem nine_sum : ofV nine = (3421780262, 0) := by decide +kernel
theorem one_bytes : Bytes [97] := by intro z hz; simp at hz; omega
theorem none_bytes : Bytes [] := by intro z hz; simp at hz
theorem one_sum : ofV [97] = (3904355907, 0) := by decide +kernel
theorem none_sum : ofV [] = (0, 0) := by decide +kernel

set_option maxRecDepth 100000 in
set_option maxHeartbeats 1000000 in
theorem alive_any (w : World) : Calls Try.prog 13 #[] w fun e w' => e = .returned (.bool true) ∧ Below w.heap.size w w' := by
  go_enter Try.func13, Try.ntmps13
  go_wp2_with fail
  refine (sum_any ⟨#[49, 50, 51, 52, 53, 54, 55, 56, 57]⟩ 3421780262 nine w rfl nine_bytes (by decide) nine_sum).mono ?_
  rintro e w1 ⟨rfl, hb⟩
  go_wp2_with fail
  refine (sum_any ⟨#[]⟩ 0 [] w1 rfl none_bytes (by decide) none_sum).mono ?_
  rintro e w2 ⟨rfl, hb2⟩
  go_wp2_with fail
  refine (sum_any ⟨#[97]⟩ 3904355907 [97] w2 rfl one_bytes (by decide) one_sum).mono ?_
  rintro e w3 ⟨rfl, hb3⟩
  go_wp2
  go_ret
  exact ⟨rfl, bstep (bstep hb hb2) hb3⟩

end Go.Proofs.Ytdddgbgfdaokiaa.Crc
