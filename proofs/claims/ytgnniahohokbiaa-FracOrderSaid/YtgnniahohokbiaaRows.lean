/-
  No cell of these rows narrows 'for every input' (looked for: loops, veiled, ifaces, maps, wideKeys, modest, calm, conditions, laid).
  DERIVED. THE GIVEN ROWS OF THIS SEAT. 6 by the template 'for every input the law returns true; each argument reads behind the call as it read before'; 0 by the template 'total and deterministic' (their statements: YtgnniahohokbiaaTotals.lean).
  GIVEN WITH THE SEED: the statements are not yours to turn. If you find one false, say at which input.
  Laid BY PROGRAM, IN A SANDBOX (cutbox-rows.mjs): the forced cells as the released guide's own fill.sh prints them over the translation 56c620172f152b56… (all of the seat's roots in one cut). By AI agents, Wed Nov 11 2026. No macro, syntax, notation, axiom, sorry.
-/
import Derived.Test.YtgnniahohokbiaaChecked
import GoSem.Claim
import GoSem.ClaimJoined
import GoSem.ClaimMapViews
import Derived.JoinedTies
import Derived.KernelRfl
namespace Go.Proofs.Ytgnniahohokbiaa
/- THE CELL 'sum', in the pinned program and in every row, IS THE sha256 OF THE DUMP (.gsa) THAT YtgnniahohokbiaaProg.lean LOADS. Nothing in Lean hashes anything: it is a label: what it is worth is what the hold of that sum in a sandbox is worth. -/
noncomputable def Try.pinned : Pinned := { name := "ytgnniahohokbiaa", sum := "56c620172f152b560362563ff595dcf4145500d7c0836eb5ec0e8703d3222253", checked := Try.checked }
namespace Rows
def none {H : Type} : Left H := { results := [], args := [] }

/-- 'shelfmarklaw01.FracTells': WHATEVER THE INPUT: true; the input reads as it did. -/
def fracTellsSpec : ChangeSpec := { name := "fracTells", fn := fun _ => fun
  | [d1, d2, d3, d4] => { results := [.lit (.bool true)], args := [d1, d2, d3, d4] }
  | _ => none }
def fracTellsRow : OpenClaim := { program := "ytgnniahohokbiaa", sum := "56c620172f152b560362563ff595dcf4145500d7c0836eb5ec0e8703d3222253", func := "shelfmark/shelfmarklaw01.FracTells", spec := "fracTells", apart := false }
def FracTellsSaid : Prop := fracTellsRow.holds Try.pinned (OpenSpec.ofChange fracTellsSpec)

/-- ITS FALSE NEIGHBOUR: 'it returns false'. Refute it at one input. -/
def fracTellsWrong : ChangeSpec := { name := "fracTells", fn := fun _ => fun
  | [d1, d2, d3, d4] => { results := [.lit (.bool false)], args := [d1, d2, d3, d4] }
  | _ => none }
def FracTellsWrongFalsely : Prop := fracTellsRow.holds Try.pinned (OpenSpec.ofChange fracTellsWrong)

/-- 'shelfmarklaw01.FracOrder': WHATEVER THE INPUT: true; the input reads as it did. -/
def fracOrderSpec : ChangeSpec := { name := "fracOrder", fn := fun _ => fun
  | [d] => { results := [.lit (.bool true)], args := [d] }
  | _ => none }
def fracOrderRow : OpenClaim := { program := "ytgnniahohokbiaa", sum := "56c620172f152b560362563ff595dcf4145500d7c0836eb5ec0e8703d3222253", func := "shelfmark/shelfmarklaw01.FracOrder", spec := "fracOrder", apart := false }
def FracOrderSaid : Prop := fracOrderRow.holds Try.pinned (OpenSpec.ofChange fracOrderSpec)

/-- ITS FALSE NEIGHBOUR: 'it returns false'. Refute it at one input. -/
def fracOrderWrong : ChangeSpec := { name := "fracOrder", fn := fun _ => fun
  | [d] => { results := [.lit (.bool false)], args := [d] }
  | _ => none }
def FracOrderWrongFalsely : Prop := fracOrderRow.holds Try.pinned (OpenSpec.ofChange fracOrderWrong)

/-- 'shelfmarklaw01.FracLogs': WHATEVER THE INPUT: true; the input reads as it did. -/
def fracLogsSpec : ChangeSpec := { name := "fracLogs", fn := fun _ => fun
  | [d] => { results := [.lit (.bool true)], args := [d] }
  | _ => none }
def fracLogsRow : OpenClaim := { program := "ytgnniahohokbiaa", sum := "56c620172f152b560362563ff595dcf4145500d7c0836eb5ec0e8703d3222253", func := "shelfmark/shelfmarklaw01.FracLogs", spec := "fracLogs", apart := false }
def FracLogsSaid : Prop := fracLogsRow.holds Try.pinned (OpenSpec.ofChange fracLogsSpec)

/-- ITS FALSE NEIGHBOUR: 'it returns false'. Refute it at one input. -/
def fracLogsWrong : ChangeSpec := { name := "fracLogs", fn := fun _ => fun
  | [d] => { results := [.lit (.bool false)], args := [d] }
  | _ => none }
def FracLogsWrongFalsely : Prop := fracLogsRow.holds Try.pinned (OpenSpec.ofChange fracLogsWrong)

/-- 'shelfmarklaw01.FracDoes': WHATEVER THE INPUT: true; the input reads as it did. -/
def fracDoesSpec : ChangeSpec := { name := "fracDoes", fn := fun _ => fun
  | [d1, d2] => { results := [.lit (.bool true)], args := [d1, d2] }
  | _ => none }
def fracDoesRow : OpenClaim := { program := "ytgnniahohokbiaa", sum := "56c620172f152b560362563ff595dcf4145500d7c0836eb5ec0e8703d3222253", func := "shelfmark/shelfmarklaw01.FracDoes", spec := "fracDoes", apart := false }
def FracDoesSaid : Prop := fracDoesRow.holds Try.pinned (OpenSpec.ofChange fracDoesSpec)

/-- ITS FALSE NEIGHBOUR: 'it returns false'. Refute it at one input. -/
def fracDoesWrong : ChangeSpec := { name := "fracDoes", fn := fun _ => fun
  | [d1, d2] => { results := [.lit (.bool false)], args := [d1, d2] }
  | _ => none }
def FracDoesWrongFalsely : Prop := fracDoesRow.holds Try.pinned (OpenSpec.ofChange fracDoesWrong)

/-- 'shelfmarklaw01.FracSafe': WHATEVER THE INPUT: true; the input reads as it did. -/
def fracSafeSpec : ChangeSpec := { name := "fracSafe", fn := fun _ => fun
  | [d1, d2] => { results := [.lit (.bool true)], args := [d1, d2] }
  | _ => none }
def fracSafeRow : OpenClaim := { program := "ytgnniahohokbiaa", sum := "56c620172f152b560362563ff595dcf4145500d7c0836eb5ec0e8703d3222253", func := "shelfmark/shelfmarklaw01.FracSafe", spec := "fracSafe", apart := false }
def FracSafeSaid : Prop := fracSafeRow.holds Try.pinned (OpenSpec.ofChange fracSafeSpec)

/-- ITS FALSE NEIGHBOUR: 'it returns false'. Refute it at one input. -/
def fracSafeWrong : ChangeSpec := { name := "fracSafe", fn := fun _ => fun
  | [d1, d2] => { results := [.lit (.bool false)], args := [d1, d2] }
  | _ => none }
def FracSafeWrongFalsely : Prop := fracSafeRow.holds Try.pinned (OpenSpec.ofChange fracSafeWrong)

/-- 'shelfmarklaw01.FracNames': WHATEVER THE INPUT: true; the input reads as it did. -/
def fracNamesSpec : ChangeSpec := { name := "fracNames", fn := fun _ => fun
  | [] => { results := [.lit (.bool true)], args := [] }
  | _ => none }
def fracNamesRow : OpenClaim := { program := "ytgnniahohokbiaa", sum := "56c620172f152b560362563ff595dcf4145500d7c0836eb5ec0e8703d3222253", func := "shelfmark/shelfmarklaw01.FracNames", spec := "fracNames", apart := false }
def FracNamesSaid : Prop := fracNamesRow.holds Try.pinned (OpenSpec.ofChange fracNamesSpec)

/-- ITS FALSE NEIGHBOUR: 'it returns false'. Refute it at one input. -/
def fracNamesWrong : ChangeSpec := { name := "fracNames", fn := fun _ => fun
  | [] => { results := [.lit (.bool false)], args := [] }
  | _ => none }
def FracNamesWrongFalsely : Prop := fracNamesRow.holds Try.pinned (OpenSpec.ofChange fracNamesWrong)

/- THE SECOND FORM. 'bulk': how many values and letters a reading holds, each counted each time it is reached (what is shared counts as often as it is met; a slice's spare places count too). A statement '..UptoSaid' is the law's where the arguments, and the package variables that the reading takes, are together of bulk at most 1048576: NARROWER than '..Said'. Prove '..Said' where nothing that the law and all that it calls make is longer than what came in: it says more and counts as full. Else prove '..UptoSaid'. A law counts once. -/
mutual
def uptoBulk {H : Type} : DataW H → Nat
  | .lit (.string bytes) => bytes.length + 1
  | .lit _ => 1
  | .nil => 1
  | .ptr d => uptoBulk d + 1
  | .slice elems spare => uptoBulkAll elems + uptoBulkAll spare + 1
  | .agg parts => uptoBulkAll parts + 1
  | .iface _ d => uptoBulk d + 1
  | .map entries => uptoBulkEntries entries + 1
  | .held _ => 1
def uptoBulkAll {H : Type} : List (DataW H) → Nat
  | [] => 0
  | d :: r => uptoBulk d + uptoBulkAll r
def uptoBulkEntries {H : Type} : List (Lit × DataW H) → Nat
  | [] => 0
  | x :: r => uptoBulkEntry x + uptoBulkEntries r
def uptoBulkEntry {H : Type} : Lit × DataW H → Nat
  | (.string bytes, d) => bytes.length + uptoBulk d + 1
  | (_, d) => uptoBulk d + 1
 end
def uptoSmall : (H : Type) → List (DataW H) → Bool := fun _ ds => decide (uptoBulkAll ds ≤ 1048576)
def OpenSpec.upto (s : _root_.Go.ChangeSpec) : _root_.Go.OpenSpec := { _root_.Go.OpenSpec.ofChange s with cond := some uptoSmall }

/-- 'shelfmarklaw01.FracTells', WHERE WHAT IT READS IS OF BULK AT MOST 1048576: true; the input reads as it did. -/
def fracTellsUptoRow : OpenClaim := { program := "ytgnniahohokbiaa", sum := "56c620172f152b560362563ff595dcf4145500d7c0836eb5ec0e8703d3222253", func := "shelfmark/shelfmarklaw01.FracTells", spec := "fracTells", apart := false, narrowed := true }
def FracTellsUptoSaid : Prop := fracTellsUptoRow.holds Try.pinned (OpenSpec.upto fracTellsSpec)

/-- 'shelfmarklaw01.FracOrder', WHERE WHAT IT READS IS OF BULK AT MOST 1048576: true; the input reads as it did. -/
def fracOrderUptoRow : OpenClaim := { program := "ytgnniahohokbiaa", sum := "56c620172f152b560362563ff595dcf4145500d7c0836eb5ec0e8703d3222253", func := "shelfmark/shelfmarklaw01.FracOrder", spec := "fracOrder", apart := false, narrowed := true }
def FracOrderUptoSaid : Prop := fracOrderUptoRow.holds Try.pinned (OpenSpec.upto fracOrderSpec)

/-- 'shelfmarklaw01.FracLogs', WHERE WHAT IT READS IS OF BULK AT MOST 1048576: true; the input reads as it did. -/
def fracLogsUptoRow : OpenClaim := { program := "ytgnniahohokbiaa", sum := "56c620172f152b560362563ff595dcf4145500d7c0836eb5ec0e8703d3222253", func := "shelfmark/shelfmarklaw01.FracLogs", spec := "fracLogs", apart := false, narrowed := true }
def FracLogsUptoSaid : Prop := fracLogsUptoRow.holds Try.pinned (OpenSpec.upto fracLogsSpec)

/-- 'shelfmarklaw01.FracDoes', WHERE WHAT IT READS IS OF BULK AT MOST 1048576: true; the input reads as it did. -/
def fracDoesUptoRow : OpenClaim := { program := "ytgnniahohokbiaa", sum := "56c620172f152b560362563ff595dcf4145500d7c0836eb5ec0e8703d3222253", func := "shelfmark/shelfmarklaw01.FracDoes", spec := "fracDoes", apart := false, narrowed := true }
def FracDoesUptoSaid : Prop := fracDoesUptoRow.holds Try.pinned (OpenSpec.upto fracDoesSpec)

/-- 'shelfmarklaw01.FracSafe', WHERE WHAT IT READS IS OF BULK AT MOST 1048576: true; the input reads as it did. -/
def fracSafeUptoRow : OpenClaim := { program := "ytgnniahohokbiaa", sum := "56c620172f152b560362563ff595dcf4145500d7c0836eb5ec0e8703d3222253", func := "shelfmark/shelfmarklaw01.FracSafe", spec := "fracSafe", apart := false, narrowed := true }
def FracSafeUptoSaid : Prop := fracSafeUptoRow.holds Try.pinned (OpenSpec.upto fracSafeSpec)

/-- 'shelfmarklaw01.FracNames', WHERE WHAT IT READS IS OF BULK AT MOST 1048576: true; the input reads as it did. -/
def fracNamesUptoRow : OpenClaim := { program := "ytgnniahohokbiaa", sum := "56c620172f152b560362563ff595dcf4145500d7c0836eb5ec0e8703d3222253", func := "shelfmark/shelfmarklaw01.FracNames", spec := "fracNames", apart := false, narrowed := true }
def FracNamesUptoSaid : Prop := fracNamesUptoRow.holds Try.pinned (OpenSpec.upto fracNamesSpec)

end Rows
end Go.Proofs.Ytgnniahohokbiaa
