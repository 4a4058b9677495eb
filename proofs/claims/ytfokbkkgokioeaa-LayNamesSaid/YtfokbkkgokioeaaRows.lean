/-
  No cell of these rows narrows 'for every input' (looked for: loops, veiled, ifaces, maps, wideKeys, modest, calm, conditions, laid).
  DERIVED. THE GIVEN ROWS OF THIS SEAT. 6 by the template 'for every input the law returns true; each argument reads behind the call as it read before'; 0 by the template 'total and deterministic' (their statements: YtfokbkkgokioeaaTotals.lean).
  GIVEN WITH THE SEED: the statements are not yours to turn. If you find one false, say at which input.
  Laid BY PROGRAM, IN A SANDBOX (cutbox-rows.mjs): the forced cells as the released guide's own fill.sh prints them over the translation 6861a9198bb56e56… (all of the seat's roots in one cut). By AI agents, Wed Nov 11 2026. No macro, syntax, notation, axiom, sorry.
-/
import Derived.Test.YtfokbkkgokioeaaChecked
import GoSem.Claim
import GoSem.ClaimJoined
import GoSem.ClaimMapViews
import Derived.JoinedTies
import Derived.KernelRfl
namespace Go.Proofs.Ytfokbkkgokioeaa
/- THE CELL 'sum', in the pinned program and in every row, IS THE sha256 OF THE DUMP (.gsa) THAT YtfokbkkgokioeaaProg.lean LOADS. Nothing in Lean hashes anything: it is a label: what it is worth is what the hold of that sum in a sandbox is worth. -/
noncomputable def Try.pinned : Pinned := { name := "ytfokbkkgokioeaa", sum := "6861a9198bb56e56fd3c86e74de6a40868d96df2cd49128f23809d241346ac25", checked := Try.checked }
namespace Rows
def none {H : Type} : Left H := { results := [], args := [] }

/-- 'shelfmarklaw08.LayWide': WHATEVER THE INPUT: true; the input reads as it did. -/
def layWideSpec : ChangeSpec := { name := "layWide", fn := fun _ => fun
  | [d1, d2, d3] => { results := [.lit (.bool true)], args := [d1, d2, d3] }
  | _ => none }
def layWideRow : OpenClaim := { program := "ytfokbkkgokioeaa", sum := "6861a9198bb56e56fd3c86e74de6a40868d96df2cd49128f23809d241346ac25", func := "shelfmark/shelfmarklaw08.LayWide", spec := "layWide", unfollowed := true, recurses := true, apart := false }
def LayWideSaid : Prop := layWideRow.holds Try.pinned (OpenSpec.ofChange layWideSpec)

/-- ITS FALSE NEIGHBOUR: 'it returns false'. Refute it at one input. -/
def layWideWrong : ChangeSpec := { name := "layWide", fn := fun _ => fun
  | [d1, d2, d3] => { results := [.lit (.bool false)], args := [d1, d2, d3] }
  | _ => none }
def LayWideWrongFalsely : Prop := layWideRow.holds Try.pinned (OpenSpec.ofChange layWideWrong)

/-- 'shelfmarklaw08.LayTells': WHATEVER THE INPUT: true; the input reads as it did. -/
def layTellsSpec : ChangeSpec := { name := "layTells", fn := fun _ => fun
  | [d1, d2, d3, d4] => { results := [.lit (.bool true)], args := [d1, d2, d3, d4] }
  | _ => none }
def layTellsRow : OpenClaim := { program := "ytfokbkkgokioeaa", sum := "6861a9198bb56e56fd3c86e74de6a40868d96df2cd49128f23809d241346ac25", func := "shelfmark/shelfmarklaw08.LayTells", spec := "layTells", unfollowed := true, recurses := true, apart := false }
def LayTellsSaid : Prop := layTellsRow.holds Try.pinned (OpenSpec.ofChange layTellsSpec)

/-- ITS FALSE NEIGHBOUR: 'it returns false'. Refute it at one input. -/
def layTellsWrong : ChangeSpec := { name := "layTells", fn := fun _ => fun
  | [d1, d2, d3, d4] => { results := [.lit (.bool false)], args := [d1, d2, d3, d4] }
  | _ => none }
def LayTellsWrongFalsely : Prop := layTellsRow.holds Try.pinned (OpenSpec.ofChange layTellsWrong)

/-- 'shelfmarklaw08.LayKeeps': WHATEVER THE INPUT: true; the input reads as it did. -/
def layKeepsSpec : ChangeSpec := { name := "layKeeps", fn := fun _ => fun
  | [d1, d2, d3, d4] => { results := [.lit (.bool true)], args := [d1, d2, d3, d4] }
  | _ => none }
def layKeepsRow : OpenClaim := { program := "ytfokbkkgokioeaa", sum := "6861a9198bb56e56fd3c86e74de6a40868d96df2cd49128f23809d241346ac25", func := "shelfmark/shelfmarklaw08.LayKeeps", spec := "layKeeps", unfollowed := true, recurses := true, apart := false }
def LayKeepsSaid : Prop := layKeepsRow.holds Try.pinned (OpenSpec.ofChange layKeepsSpec)

/-- ITS FALSE NEIGHBOUR: 'it returns false'. Refute it at one input. -/
def layKeepsWrong : ChangeSpec := { name := "layKeeps", fn := fun _ => fun
  | [d1, d2, d3, d4] => { results := [.lit (.bool false)], args := [d1, d2, d3, d4] }
  | _ => none }
def LayKeepsWrongFalsely : Prop := layKeepsRow.holds Try.pinned (OpenSpec.ofChange layKeepsWrong)

/-- 'shelfmarklaw08.LayNames': WHATEVER THE INPUT: true; the input reads as it did. -/
def layNamesSpec : ChangeSpec := { name := "layNames", fn := fun _ => fun
  | [] => { results := [.lit (.bool true)], args := [] }
  | _ => none }
def layNamesRow : OpenClaim := { program := "ytfokbkkgokioeaa", sum := "6861a9198bb56e56fd3c86e74de6a40868d96df2cd49128f23809d241346ac25", func := "shelfmark/shelfmarklaw08.LayNames", spec := "layNames", unfollowed := true, recurses := true, apart := false }
def LayNamesSaid : Prop := layNamesRow.holds Try.pinned (OpenSpec.ofChange layNamesSpec)

/-- ITS FALSE NEIGHBOUR: 'it returns false'. Refute it at one input. -/
def layNamesWrong : ChangeSpec := { name := "layNames", fn := fun _ => fun
  | [] => { results := [.lit (.bool false)], args := [] }
  | _ => none }
def LayNamesWrongFalsely : Prop := layNamesRow.holds Try.pinned (OpenSpec.ofChange layNamesWrong)

/-- 'shelfmarklaw08.LayShares': WHATEVER THE INPUT: true; the input reads as it did. -/
def laySharesSpec : ChangeSpec := { name := "layShares", fn := fun _ => fun
  | [d1, d2, d3, d4] => { results := [.lit (.bool true)], args := [d1, d2, d3, d4] }
  | _ => none }
def laySharesRow : OpenClaim := { program := "ytfokbkkgokioeaa", sum := "6861a9198bb56e56fd3c86e74de6a40868d96df2cd49128f23809d241346ac25", func := "shelfmark/shelfmarklaw08.LayShares", spec := "layShares", unfollowed := true, recurses := true, apart := false }
def LaySharesSaid : Prop := laySharesRow.holds Try.pinned (OpenSpec.ofChange laySharesSpec)

/-- ITS FALSE NEIGHBOUR: 'it returns false'. Refute it at one input. -/
def laySharesWrong : ChangeSpec := { name := "layShares", fn := fun _ => fun
  | [d1, d2, d3, d4] => { results := [.lit (.bool false)], args := [d1, d2, d3, d4] }
  | _ => none }
def LaySharesWrongFalsely : Prop := laySharesRow.holds Try.pinned (OpenSpec.ofChange laySharesWrong)

/-- 'shelfmarklaw08.LaySame': WHATEVER THE INPUT: true; the input reads as it did. -/
def laySameSpec : ChangeSpec := { name := "laySame", fn := fun _ => fun
  | [d1, d2, d3, d4] => { results := [.lit (.bool true)], args := [d1, d2, d3, d4] }
  | _ => none }
def laySameRow : OpenClaim := { program := "ytfokbkkgokioeaa", sum := "6861a9198bb56e56fd3c86e74de6a40868d96df2cd49128f23809d241346ac25", func := "shelfmark/shelfmarklaw08.LaySame", spec := "laySame", unfollowed := true, recurses := true, apart := false }
def LaySameSaid : Prop := laySameRow.holds Try.pinned (OpenSpec.ofChange laySameSpec)

/-- ITS FALSE NEIGHBOUR: 'it returns false'. Refute it at one input. -/
def laySameWrong : ChangeSpec := { name := "laySame", fn := fun _ => fun
  | [d1, d2, d3, d4] => { results := [.lit (.bool false)], args := [d1, d2, d3, d4] }
  | _ => none }
def LaySameWrongFalsely : Prop := laySameRow.holds Try.pinned (OpenSpec.ofChange laySameWrong)

/- THE SECOND FORM. 'bulk': how many values and letters a reading holds, each counted each time it is reached (what is shared counts as often as it is met; a slice's spare places count too). A statement '..UptoSaid' is the law's where the arguments, and the package variables that the reading takes, are together of bulk at most 1048576: NARROWER than '..Said'. Prove '..Said' where nothing that the law and all that it calls make is longer than what came in: it says more and counts as full. Else prove '..UptoSaid'. A law counts once. -/
mutual
def uptoBulk {H : Type} : DataW H → Nat
  | .lit (.string bytes) => bytes.length + 1
  | .lit _ => 1
  | .nil => 1
  | .ptr d => uptoBulk d + 1
  | .slice elems spare => uptoBulkAll elems + uptoBulkAll spare + 1
  | .agg parts => uptoBulkAll parts + 1
  | .iface _ d => uptoBulk d + 1
  | .map entries => uptoBulkEntries entries + 1
  | .held _ => 1
def uptoBulkAll {H : Type} : List (DataW H) → Nat
  | [] => 0
  | d :: r => uptoBulk d + uptoBulkAll r
def uptoBulkEntries {H : Type} : List (Lit × DataW H) → Nat
  | [] => 0
  | x :: r => uptoBulkEntry x + uptoBulkEntries r
def uptoBulkEntry {H : Type} : Lit × DataW H → Nat
  | (.string bytes, d) => bytes.length + uptoBulk d + 1
  | (_, d) => uptoBulk d + 1
 end
def uptoSmall : (H : Type) → List (DataW H) → Bool := fun _ ds => decide (uptoBulkAll ds ≤ 1048576)
def OpenSpec.upto (s : _root_.Go.ChangeSpec) : _root_.Go.OpenSpec := { _root_.Go.OpenSpec.ofChange s with cond := some uptoSmall }

/-- 'shelfmarklaw08.LayWide', WHERE WHAT IT READS IS OF BULK AT MOST 1048576: true; the input reads as it did. -/
def layWideUptoRow : OpenClaim := { program := "ytfokbkkgokioeaa", sum := "6861a9198bb56e56fd3c86e74de6a40868d96df2cd49128f23809d241346ac25", func := "shelfmark/shelfmarklaw08.LayWide", spec := "layWide", unfollowed := true, recurses := true, apart := false, narrowed := true }
def LayWideUptoSaid : Prop := layWideUptoRow.holds Try.pinned (OpenSpec.upto layWideSpec)

/-- 'shelfmarklaw08.LayTells', WHERE WHAT IT READS IS OF BULK AT MOST 1048576: true; the input reads as it did. -/
def layTellsUptoRow : OpenClaim := { program := "ytfokbkkgokioeaa", sum := "6861a9198bb56e56fd3c86e74de6a40868d96df2cd49128f23809d241346ac25", func := "shelfmark/shelfmarklaw08.LayTells", spec := "layTells", unfollowed := true, recurses := true, apart := false, narrowed := true }
def LayTellsUptoSaid : Prop := layTellsUptoRow.holds Try.pinned (OpenSpec.upto layTellsSpec)

/-- 'shelfmarklaw08.LayKeeps', WHERE WHAT IT READS IS OF BULK AT MOST 1048576: true; the input reads as it did. -/
def layKeepsUptoRow : OpenClaim := { program := "ytfokbkkgokioeaa", sum := "6861a9198bb56e56fd3c86e74de6a40868d96df2cd49128f23809d241346ac25", func := "shelfmark/shelfmarklaw08.LayKeeps", spec := "layKeeps", unfollowed := true, recurses := true, apart := false, narrowed := true }
def LayKeepsUptoSaid : Prop := layKeepsUptoRow.holds Try.pinned (OpenSpec.upto layKeepsSpec)

/-- 'shelfmarklaw08.LayNames', WHERE WHAT IT READS IS OF BULK AT MOST 1048576: true; the input reads as it did. -/
def layNamesUptoRow : OpenClaim := { program := "ytfokbkkgokioeaa", sum := "6861a9198bb56e56fd3c86e74de6a40868d96df2cd49128f23809d241346ac25", func := "shelfmark/shelfmarklaw08.LayNames", spec := "layNames", unfollowed := true, recurses := true, apart := false, narrowed := true }
def LayNamesUptoSaid : Prop := layNamesUptoRow.holds Try.pinned (OpenSpec.upto layNamesSpec)

/-- 'shelfmarklaw08.LayShares', WHERE WHAT IT READS IS OF BULK AT MOST 1048576: true; the input reads as it did. -/
def laySharesUptoRow : OpenClaim := { program := "ytfokbkkgokioeaa", sum := "6861a9198bb56e56fd3c86e74de6a40868d96df2cd49128f23809d241346ac25", func := "shelfmark/shelfmarklaw08.LayShares", spec := "layShares", unfollowed := true, recurses := true, apart := false, narrowed := true }
def LaySharesUptoSaid : Prop := laySharesUptoRow.holds Try.pinned (OpenSpec.upto laySharesSpec)

/-- 'shelfmarklaw08.LaySame', WHERE WHAT IT READS IS OF BULK AT MOST 1048576: true; the input reads as it did. -/
def laySameUptoRow : OpenClaim := { program := "ytfokbkkgokioeaa", sum := "6861a9198bb56e56fd3c86e74de6a40868d96df2cd49128f23809d241346ac25", func := "shelfmark/shelfmarklaw08.LaySame", spec := "laySame", unfollowed := true, recurses := true, apart := false, narrowed := true }
def LaySameUptoSaid : Prop := laySameUptoRow.holds Try.pinned (OpenSpec.upto laySameSpec)

end Rows
end Go.Proofs.Ytfokbkkgokioeaa
