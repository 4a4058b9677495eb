/-
  No cell of these rows narrows 'for every input' (looked for: loops, veiled, ifaces, maps, wideKeys, modest, calm, conditions, laid).
  DERIVED. THE GIVEN ROWS OF THIS SEAT. 7 by the template 'for every input the law returns true; each argument reads behind the call as it read before'; 0 by the template 'total and deterministic' (their statements: YtfdkaahkhgljdaaTotals.lean).
  GIVEN WITH THE SEED: the statements are not yours to turn. If you find one false, say at which input.
  Laid BY PROGRAM, IN A SANDBOX (cutbox-rows.mjs): the forced cells as the released guide's own fill.sh prints them over the translation 22d63e54dd26c15b… (all of the seat's roots in one cut). By AI agents, Wed Nov 11 2026. No macro, syntax, notation, axiom, sorry.
-/
import Derived.Test.YtfdkaahkhgljdaaChecked
import GoSem.Claim
import GoSem.ClaimJoined
import GoSem.ClaimMapViews
import Derived.JoinedTies
import Derived.KernelRfl
namespace Go.Proofs.Ytfdkaahkhgljdaa
/- THE CELL 'sum', in the pinned program and in every row, IS THE sha256 OF THE DUMP (.gsa) THAT YtfdkaahkhgljdaaProg.lean LOADS. Nothing in Lean hashes anything: it is a label: what it is worth is what the hold of that sum in a sandbox is worth. -/
noncomputable def Try.pinned : Pinned := { name := "ytfdkaahkhgljdaa", sum := "22d63e54dd26c15b613fcb8f62cab068c4ce1f3aab8f1dfe47c544ba06abb534", checked := Try.checked }
namespace Rows
def none {H : Type} : Left H := { results := [], args := [] }

/-- 'shelfmarklaw04.SlotsFills': WHATEVER THE INPUT: true; the input reads as it did. -/
def slotsFillsSpec : ChangeSpec := { name := "slotsFills", fn := fun _ => fun
  | [d1, d2, d3, d4] => { results := [.lit (.bool true)], args := [d1, d2, d3, d4] }
  | _ => none }
def slotsFillsRow : OpenClaim := { program := "ytfdkaahkhgljdaa", sum := "22d63e54dd26c15b613fcb8f62cab068c4ce1f3aab8f1dfe47c544ba06abb534", func := "shelfmark/shelfmarklaw04.SlotsFills", spec := "slotsFills", unfollowed := true, recurses := true, apart := false }
def SlotsFillsSaid : Prop := slotsFillsRow.holds Try.pinned (OpenSpec.ofChange slotsFillsSpec)

/-- ITS FALSE NEIGHBOUR: 'it returns false'. Refute it at one input. -/
def slotsFillsWrong : ChangeSpec := { name := "slotsFills", fn := fun _ => fun
  | [d1, d2, d3, d4] => { results := [.lit (.bool false)], args := [d1, d2, d3, d4] }
  | _ => none }
def SlotsFillsWrongFalsely : Prop := slotsFillsRow.holds Try.pinned (OpenSpec.ofChange slotsFillsWrong)

/-- 'shelfmarklaw04.SlotsTells': WHATEVER THE INPUT: true; the input reads as it did. -/
def slotsTellsSpec : ChangeSpec := { name := "slotsTells", fn := fun _ => fun
  | [d1, d2, d3, d4] => { results := [.lit (.bool true)], args := [d1, d2, d3, d4] }
  | _ => none }
def slotsTellsRow : OpenClaim := { program := "ytfdkaahkhgljdaa", sum := "22d63e54dd26c15b613fcb8f62cab068c4ce1f3aab8f1dfe47c544ba06abb534", func := "shelfmark/shelfmarklaw04.SlotsTells", spec := "slotsTells", unfollowed := true, recurses := true, apart := false }
def SlotsTellsSaid : Prop := slotsTellsRow.holds Try.pinned (OpenSpec.ofChange slotsTellsSpec)

/-- ITS FALSE NEIGHBOUR: 'it returns false'. Refute it at one input. -/
def slotsTellsWrong : ChangeSpec := { name := "slotsTells", fn := fun _ => fun
  | [d1, d2, d3, d4] => { results := [.lit (.bool false)], args := [d1, d2, d3, d4] }
  | _ => none }
def SlotsTellsWrongFalsely : Prop := slotsTellsRow.holds Try.pinned (OpenSpec.ofChange slotsTellsWrong)

/-- 'shelfmarklaw04.SlotsTurns': WHATEVER THE INPUT: true; the input reads as it did. -/
def slotsTurnsSpec : ChangeSpec := { name := "slotsTurns", fn := fun _ => fun
  | [d1, d2, d3, d4] => { results := [.lit (.bool true)], args := [d1, d2, d3, d4] }
  | _ => none }
def slotsTurnsRow : OpenClaim := { program := "ytfdkaahkhgljdaa", sum := "22d63e54dd26c15b613fcb8f62cab068c4ce1f3aab8f1dfe47c544ba06abb534", func := "shelfmark/shelfmarklaw04.SlotsTurns", spec := "slotsTurns", unfollowed := true, recurses := true, apart := false }
def SlotsTurnsSaid : Prop := slotsTurnsRow.holds Try.pinned (OpenSpec.ofChange slotsTurnsSpec)

/-- ITS FALSE NEIGHBOUR: 'it returns false'. Refute it at one input. -/
def slotsTurnsWrong : ChangeSpec := { name := "slotsTurns", fn := fun _ => fun
  | [d1, d2, d3, d4] => { results := [.lit (.bool false)], args := [d1, d2, d3, d4] }
  | _ => none }
def SlotsTurnsWrongFalsely : Prop := slotsTurnsRow.holds Try.pinned (OpenSpec.ofChange slotsTurnsWrong)

/-- 'shelfmarklaw04.SlotsThere': WHATEVER THE INPUT: true; the input reads as it did. -/
def slotsThereSpec : ChangeSpec := { name := "slotsThere", fn := fun _ => fun
  | [d1, d2, d3] => { results := [.lit (.bool true)], args := [d1, d2, d3] }
  | _ => none }
def slotsThereRow : OpenClaim := { program := "ytfdkaahkhgljdaa", sum := "22d63e54dd26c15b613fcb8f62cab068c4ce1f3aab8f1dfe47c544ba06abb534", func := "shelfmark/shelfmarklaw04.SlotsThere", spec := "slotsThere", unfollowed := true, recurses := true, apart := false }
def SlotsThereSaid : Prop := slotsThereRow.holds Try.pinned (OpenSpec.ofChange slotsThereSpec)

/-- ITS FALSE NEIGHBOUR: 'it returns false'. Refute it at one input. -/
def slotsThereWrong : ChangeSpec := { name := "slotsThere", fn := fun _ => fun
  | [d1, d2, d3] => { results := [.lit (.bool false)], args := [d1, d2, d3] }
  | _ => none }
def SlotsThereWrongFalsely : Prop := slotsThereRow.holds Try.pinned (OpenSpec.ofChange slotsThereWrong)

/-- 'shelfmarklaw04.SlotsParts': WHATEVER THE INPUT: true; the input reads as it did. -/
def slotsPartsSpec : ChangeSpec := { name := "slotsParts", fn := fun _ => fun
  | [d1, d2] => { results := [.lit (.bool true)], args := [d1, d2] }
  | _ => none }
def slotsPartsRow : OpenClaim := { program := "ytfdkaahkhgljdaa", sum := "22d63e54dd26c15b613fcb8f62cab068c4ce1f3aab8f1dfe47c544ba06abb534", func := "shelfmark/shelfmarklaw04.SlotsParts", spec := "slotsParts", unfollowed := true, recurses := true, apart := false }
def SlotsPartsSaid : Prop := slotsPartsRow.holds Try.pinned (OpenSpec.ofChange slotsPartsSpec)

/-- ITS FALSE NEIGHBOUR: 'it returns false'. Refute it at one input. -/
def slotsPartsWrong : ChangeSpec := { name := "slotsParts", fn := fun _ => fun
  | [d1, d2] => { results := [.lit (.bool false)], args := [d1, d2] }
  | _ => none }
def SlotsPartsWrongFalsely : Prop := slotsPartsRow.holds Try.pinned (OpenSpec.ofChange slotsPartsWrong)

/-- 'shelfmarklaw04.SlotsWhole': WHATEVER THE INPUT: true; the input reads as it did. -/
def slotsWholeSpec : ChangeSpec := { name := "slotsWhole", fn := fun _ => fun
  | [d1, d2, d3, d4] => { results := [.lit (.bool true)], args := [d1, d2, d3, d4] }
  | _ => none }
def slotsWholeRow : OpenClaim := { program := "ytfdkaahkhgljdaa", sum := "22d63e54dd26c15b613fcb8f62cab068c4ce1f3aab8f1dfe47c544ba06abb534", func := "shelfmark/shelfmarklaw04.SlotsWhole", spec := "slotsWhole", unfollowed := true, recurses := true, apart := false }
def SlotsWholeSaid : Prop := slotsWholeRow.holds Try.pinned (OpenSpec.ofChange slotsWholeSpec)

/-- ITS FALSE NEIGHBOUR: 'it returns false'. Refute it at one input. -/
def slotsWholeWrong : ChangeSpec := { name := "slotsWhole", fn := fun _ => fun
  | [d1, d2, d3, d4] => { results := [.lit (.bool false)], args := [d1, d2, d3, d4] }
  | _ => none }
def SlotsWholeWrongFalsely : Prop := slotsWholeRow.holds Try.pinned (OpenSpec.ofChange slotsWholeWrong)

/-- 'shelfmarklaw04.SlotsNames': WHATEVER THE INPUT: true; the input reads as it did. -/
def slotsNamesSpec : ChangeSpec := { name := "slotsNames", fn := fun _ => fun
  | [] => { results := [.lit (.bool true)], args := [] }
  | _ => none }
def slotsNamesRow : OpenClaim := { program := "ytfdkaahkhgljdaa", sum := "22d63e54dd26c15b613fcb8f62cab068c4ce1f3aab8f1dfe47c544ba06abb534", func := "shelfmark/shelfmarklaw04.SlotsNames", spec := "slotsNames", unfollowed := true, recurses := true, apart := false }
def SlotsNamesSaid : Prop := slotsNamesRow.holds Try.pinned (OpenSpec.ofChange slotsNamesSpec)

/-- ITS FALSE NEIGHBOUR: 'it returns false'. Refute it at one input. -/
def slotsNamesWrong : ChangeSpec := { name := "slotsNames", fn := fun _ => fun
  | [] => { results := [.lit (.bool false)], args := [] }
  | _ => none }
def SlotsNamesWrongFalsely : Prop := slotsNamesRow.holds Try.pinned (OpenSpec.ofChange slotsNamesWrong)

/- THE SECOND FORM. 'bulk': how many values and letters a reading holds, each counted each time it is reached (what is shared counts as often as it is met; a slice's spare places count too). A statement '..UptoSaid' is the law's where the arguments, and the package variables that the reading takes, are together of bulk at most 1048576: NARROWER than '..Said'. Prove '..Said' where nothing that the law and all that it calls make is longer than what came in: it says more and counts as full. Else prove '..UptoSaid'. A law counts once. -/
mutual
def uptoBulk {H : Type} : DataW H → Nat
  | .lit (.string bytes) => bytes.length + 1
  | .lit _ => 1
  | .nil => 1
  | .ptr d => uptoBulk d + 1
  | .slice elems spare => uptoBulkAll elems + uptoBulkAll spare + 1
  | .agg parts => uptoBulkAll parts + 1
  | .iface _ d => uptoBulk d + 1
  | .map entries => uptoBulkEntries entries + 1
  | .held _ => 1
def uptoBulkAll {H : Type} : List (DataW H) → Nat
  | [] => 0
  | d :: r => uptoBulk d + uptoBulkAll r
def uptoBulkEntries {H : Type} : List (Lit × DataW H) → Nat
  | [] => 0
  | x :: r => uptoBulkEntry x + uptoBulkEntries r
def uptoBulkEntry {H : Type} : Lit × DataW H → Nat
  | (.string bytes, d) => bytes.length + uptoBulk d + 1
  | (_, d) => uptoBulk d + 1
 end
def uptoSmall : (H : Type) → List (DataW H) → Bool := fun _ ds => decide (uptoBulkAll ds ≤ 1048576)
def OpenSpec.upto (s : _root_.Go.ChangeSpec) : _root_.Go.OpenSpec := { _root_.Go.OpenSpec.ofChange s with cond := some uptoSmall }

/-- 'shelfmarklaw04.SlotsFills', WHERE WHAT IT READS IS OF BULK AT MOST 1048576: true; the input reads as it did. -/
def slotsFillsUptoRow : OpenClaim := { program := "ytfdkaahkhgljdaa", sum := "22d63e54dd26c15b613fcb8f62cab068c4ce1f3aab8f1dfe47c544ba06abb534", func := "shelfmark/shelfmarklaw04.SlotsFills", spec := "slotsFills", unfollowed := true, recurses := true, apart := false, narrowed := true }
def SlotsFillsUptoSaid : Prop := slotsFillsUptoRow.holds Try.pinned (OpenSpec.upto slotsFillsSpec)

/-- 'shelfmarklaw04.SlotsTells', WHERE WHAT IT READS IS OF BULK AT MOST 1048576: true; the input reads as it did. -/
def slotsTellsUptoRow : OpenClaim := { program := "ytfdkaahkhgljdaa", sum := "22d63e54dd26c15b613fcb8f62cab068c4ce1f3aab8f1dfe47c544ba06abb534", func := "shelfmark/shelfmarklaw04.SlotsTells", spec := "slotsTells", unfollowed := true, recurses := true, apart := false, narrowed := true }
def SlotsTellsUptoSaid : Prop := slotsTellsUptoRow.holds Try.pinned (OpenSpec.upto slotsTellsSpec)

/-- 'shelfmarklaw04.SlotsTurns', WHERE WHAT IT READS IS OF BULK AT MOST 1048576: true; the input reads as it did. -/
def slotsTurnsUptoRow : OpenClaim := { program := "ytfdkaahkhgljdaa", sum := "22d63e54dd26c15b613fcb8f62cab068c4ce1f3aab8f1dfe47c544ba06abb534", func := "shelfmark/shelfmarklaw04.SlotsTurns", spec := "slotsTurns", unfollowed := true, recurses := true, apart := false, narrowed := true }
def SlotsTurnsUptoSaid : Prop := slotsTurnsUptoRow.holds Try.pinned (OpenSpec.upto slotsTurnsSpec)

/-- 'shelfmarklaw04.SlotsThere', WHERE WHAT IT READS IS OF BULK AT MOST 1048576: true; the input reads as it did. -/
def slotsThereUptoRow : OpenClaim := { program := "ytfdkaahkhgljdaa", sum := "22d63e54dd26c15b613fcb8f62cab068c4ce1f3aab8f1dfe47c544ba06abb534", func := "shelfmark/shelfmarklaw04.SlotsThere", spec := "slotsThere", unfollowed := true, recurses := true, apart := false, narrowed := true }
def SlotsThereUptoSaid : Prop := slotsThereUptoRow.holds Try.pinned (OpenSpec.upto slotsThereSpec)

/-- 'shelfmarklaw04.SlotsParts', WHERE WHAT IT READS IS OF BULK AT MOST 1048576: true; the input reads as it did. -/
def slotsPartsUptoRow : OpenClaim := { program := "ytfdkaahkhgljdaa", sum := "22d63e54dd26c15b613fcb8f62cab068c4ce1f3aab8f1dfe47c544ba06abb534", func := "shelfmark/shelfmarklaw04.SlotsParts", spec := "slotsParts", unfollowed := true, recurses := true, apart := false, narrowed := true }
def SlotsPartsUptoSaid : Prop := slotsPartsUptoRow.holds Try.pinned (OpenSpec.upto slotsPartsSpec)

/-- 'shelfmarklaw04.SlotsWhole', WHERE WHAT IT READS IS OF BULK AT MOST 1048576: true; the input reads as it did. -/
def slotsWholeUptoRow : OpenClaim := { program := "ytfdkaahkhgljdaa", sum := "22d63e54dd26c15b613fcb8f62cab068c4ce1f3aab8f1dfe47c544ba06abb534", func := "shelfmark/shelfmarklaw04.SlotsWhole", spec := "slotsWhole", unfollowed := true, recurses := true, apart := false, narrowed := true }
def SlotsWholeUptoSaid : Prop := slotsWholeUptoRow.holds Try.pinned (OpenSpec.upto slotsWholeSpec)

/-- 'shelfmarklaw04.SlotsNames', WHERE WHAT IT READS IS OF BULK AT MOST 1048576: true; the input reads as it did. -/
def slotsNamesUptoRow : OpenClaim := { program := "ytfdkaahkhgljdaa", sum := "22d63e54dd26c15b613fcb8f62cab068c4ce1f3aab8f1dfe47c544ba06abb534", func := "shelfmark/shelfmarklaw04.SlotsNames", spec := "slotsNames", unfollowed := true, recurses := true, apart := false, narrowed := true }
def SlotsNamesUptoSaid : Prop := slotsNamesUptoRow.holds Try.pinned (OpenSpec.upto slotsNamesSpec)

end Rows
end Go.Proofs.Ytfdkaahkhgljdaa
