/- Loops that write a slice over; what lies apart from it. -/
import Derived.Test.YtnfjabohnjbgbaaDoorOwn
import Derived.Laws.OwnMore
namespace Go.Proofs.YtnfjabohnjbgbaaDoor
open Go.RowKit

theorem owns_below {w w' : World} {base : Nat} {e : TypeId} {s : Nat} {v : Value} {n : Nat} {xs : List Value} (h : w.ownsRow base e s v n xs) (hb : Below w.heap.size w w') : w'.ownsRow base e s v n xs :=
  h.kept (row := Option.none) ⟨hb.os, hb.tape, hb.output, hb.size, fun i hi _ => hb.block i hi⟩ (by
    cases hv : v.ownBlock with
    | none => exact .inl rfl
    | some k => exact .inr (by simp))
theorem owns_apart {w w' : World} {b1 b2 : Nat} {e1 e2 : TypeId} {s1 s2 : Nat} {v1 v2 : Value} {n1 n2 : Nat} {xs1 xs2 : List Value} (h1 : w.ownsRow b1 e1 s1 v1 n1 xs1) (h2 : w'.ownsRow b2 e2 s2 v2 n2 xs2) (hb : w.heap.size ≤ b2) : v2.ownBlock = Option.none ∨ v2.ownBlock ≠ v1.ownBlock := by
  cases hv : v2.ownBlock with
  | none => exact .inl rfl
  | some k =>
    refine .inr fun h => ?_
    have a1 := h1.lt k h.symm
    have a2 := h2.lt k hv
    omega

def numsK (k : IntKind) (zs : List Int) : List Value := zs.map (Value.int k)
theorem numsK_length (k : IntKind) (zs : List Int) : (numsK k zs).length = zs.length := by unfold numsK; simp
theorem numsK_get {k : IntKind} {cs : List Int} {i : Nat} (h : i < cs.length) : (numsK k cs)[i]? = some (.int k (cs.getD i 0)) := by simp [numsK, List.getD_eq_getElem?_getD, h]
theorem numsK_set (k : IntKind) (cs : List Int) (i : Nat) (u : Int) : numsK k (cs.set i u) = (numsK k cs).set i (.int k u) := by unfold numsK; rw [List.map_set]
/-- What a loop that writes a slice over leaves. -/
def SpoiltK (k : IntKind) (e : TypeId) (w0 : World) (B : Nat) (a : Option Addr) (n c : Nat) (wr : World) : Prop :=
  ∃ cs : List Int, cs.length = n ∧ wr.ownsRow B e 1 (.slice a n c) n (numsK k cs) ∧ w0.grownBy wr (Value.slice a n c).ownBlock
theorem SpoiltK.start {k : IntKind} {e : TypeId} {w0 : World} {B : Nat} {a : Option Addr} {c : Nat} {cs : List Int} (h : w0.ownsRow B e 1 (.slice a cs.length c) cs.length (numsK k cs)) : SpoiltK k e w0 B a cs.length c w0 :=
  ⟨cs, rfl, h, World.grownBy.refl _ _⟩
end Go.Proofs.YtnfjabohnjbgbaaDoor
