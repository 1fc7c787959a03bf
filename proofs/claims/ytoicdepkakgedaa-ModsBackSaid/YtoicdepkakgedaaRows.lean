/-
  No cell of these rows narrows 'for every input' (looked for: loops, veiled, ifaces, maps, wideKeys, modest, calm, conditions, laid).
  DERIVED. THE GIVEN ROWS OF THIS SEAT. 7 by the template 'for every input the law returns true; each argument reads behind the call as it read before'; 0 by the template 'total and deterministic' (their statements: YtoicdepkakgedaaTotals.lean).
  GIVEN WITH THE SEED: the statements are not yours to turn. If you find one false, say at which input.
  Laid BY PROGRAM, IN A SANDBOX (cutbox-rows.mjs): the forced cells as the released guide's own fill.sh prints them over the translation 8f39bc5c828d83f5… (all of the seat's roots in one cut). By AI agents, Wed Nov 11 2026. No macro, syntax, notation, axiom, sorry.
-/
import Derived.Test.YtoicdepkakgedaaChecked
import GoSem.Claim
import GoSem.ClaimJoined
import GoSem.ClaimMapViews
import Derived.JoinedTies
import Derived.KernelRfl
namespace Go.Proofs.Ytoicdepkakgedaa
/- THE CELL 'sum', in the pinned program and in every row, IS THE sha256 OF THE DUMP (.gsa) THAT YtoicdepkakgedaaProg.lean LOADS. Nothing in Lean hashes anything: it is a label: what it is worth is what the hold of that sum in a sandbox is worth. -/
noncomputable def Try.pinned : Pinned := { name := "ytoicdepkakgedaa", sum := "8f39bc5c828d83f550186f3285f19312a9c4c166ef0d9480b3127fc6bb1b2cc6", checked := Try.checked }
namespace Rows
def none {H : Type} : Left H := { results := [], args := [] }

/-- 'platenlaw18.ModsTells': WHATEVER THE INPUT: true; the input reads as it did. -/
def modsTellsSpec : ChangeSpec := { name := "modsTells", fn := fun _ => fun
  | [d1, d2, d3] => { results := [.lit (.bool true)], args := [d1, d2, d3] }
  | _ => none }
def modsTellsRow : OpenClaim := { program := "ytoicdepkakgedaa", sum := "8f39bc5c828d83f550186f3285f19312a9c4c166ef0d9480b3127fc6bb1b2cc6", func := "platen/platenlaw18.ModsTells", spec := "modsTells", inPlace := ["internal/abi.NoEscape"], unfollowed := true, recurses := true, apart := false }
def ModsTellsSaid : Prop := modsTellsRow.holds Try.pinned (OpenSpec.ofChange modsTellsSpec)

/-- ITS FALSE NEIGHBOUR: 'it returns false'. Refute it at one input. -/
def modsTellsWrong : ChangeSpec := { name := "modsTells", fn := fun _ => fun
  | [d1, d2, d3] => { results := [.lit (.bool false)], args := [d1, d2, d3] }
  | _ => none }
def ModsTellsWrongFalsely : Prop := modsTellsRow.holds Try.pinned (OpenSpec.ofChange modsTellsWrong)

/-- 'platenlaw18.ModsBack': WHATEVER THE INPUT: true; the input reads as it did. -/
def modsBackSpec : ChangeSpec := { name := "modsBack", fn := fun _ => fun
  | [d1, d2, d3, d4] => { results := [.lit (.bool true)], args := [d1, d2, d3, d4] }
  | _ => none }
def modsBackRow : OpenClaim := { program := "ytoicdepkakgedaa", sum := "8f39bc5c828d83f550186f3285f19312a9c4c166ef0d9480b3127fc6bb1b2cc6", func := "platen/platenlaw18.ModsBack", spec := "modsBack", inPlace := ["internal/abi.NoEscape"], unfollowed := true, recurses := true, apart := false }
def ModsBackSaid : Prop := modsBackRow.holds Try.pinned (OpenSpec.ofChange modsBackSpec)

/-- ITS FALSE NEIGHBOUR: 'it returns false'. Refute it at one input. -/
def modsBackWrong : ChangeSpec := { name := "modsBack", fn := fun _ => fun
  | [d1, d2, d3, d4] => { results := [.lit (.bool false)], args := [d1, d2, d3, d4] }
  | _ => none }
def ModsBackWrongFalsely : Prop := modsBackRow.holds Try.pinned (OpenSpec.ofChange modsBackWrong)

/-- 'platenlaw18.ModsEither': WHATEVER THE INPUT: true; the input reads as it did. -/
def modsEitherSpec : ChangeSpec := { name := "modsEither", fn := fun _ => fun
  | [d1, d2, d3, d4] => { results := [.lit (.bool true)], args := [d1, d2, d3, d4] }
  | _ => none }
def modsEitherRow : OpenClaim := { program := "ytoicdepkakgedaa", sum := "8f39bc5c828d83f550186f3285f19312a9c4c166ef0d9480b3127fc6bb1b2cc6", func := "platen/platenlaw18.ModsEither", spec := "modsEither", inPlace := ["internal/abi.NoEscape"], unfollowed := true, recurses := true, apart := false }
def ModsEitherSaid : Prop := modsEitherRow.holds Try.pinned (OpenSpec.ofChange modsEitherSpec)

/-- ITS FALSE NEIGHBOUR: 'it returns false'. Refute it at one input. -/
def modsEitherWrong : ChangeSpec := { name := "modsEither", fn := fun _ => fun
  | [d1, d2, d3, d4] => { results := [.lit (.bool false)], args := [d1, d2, d3, d4] }
  | _ => none }
def ModsEitherWrongFalsely : Prop := modsEitherRow.holds Try.pinned (OpenSpec.ofChange modsEitherWrong)

/-- 'platenlaw18.ModsLast': WHATEVER THE INPUT: true; the input reads as it did. -/
def modsLastSpec : ChangeSpec := { name := "modsLast", fn := fun _ => fun
  | [d1, d2, d3, d4] => { results := [.lit (.bool true)], args := [d1, d2, d3, d4] }
  | _ => none }
def modsLastRow : OpenClaim := { program := "ytoicdepkakgedaa", sum := "8f39bc5c828d83f550186f3285f19312a9c4c166ef0d9480b3127fc6bb1b2cc6", func := "platen/platenlaw18.ModsLast", spec := "modsLast", inPlace := ["internal/abi.NoEscape"], unfollowed := true, recurses := true, apart := false }
def ModsLastSaid : Prop := modsLastRow.holds Try.pinned (OpenSpec.ofChange modsLastSpec)

/-- ITS FALSE NEIGHBOUR: 'it returns false'. Refute it at one input. -/
def modsLastWrong : ChangeSpec := { name := "modsLast", fn := fun _ => fun
  | [d1, d2, d3, d4] => { results := [.lit (.bool false)], args := [d1, d2, d3, d4] }
  | _ => none }
def ModsLastWrongFalsely : Prop := modsLastRow.holds Try.pinned (OpenSpec.ofChange modsLastWrong)

/-- 'platenlaw18.ModsRuns': WHATEVER THE INPUT: true; the input reads as it did. -/
def modsRunsSpec : ChangeSpec := { name := "modsRuns", fn := fun _ => fun
  | [d1, d2, d3, d4] => { results := [.lit (.bool true)], args := [d1, d2, d3, d4] }
  | _ => none }
def modsRunsRow : OpenClaim := { program := "ytoicdepkakgedaa", sum := "8f39bc5c828d83f550186f3285f19312a9c4c166ef0d9480b3127fc6bb1b2cc6", func := "platen/platenlaw18.ModsRuns", spec := "modsRuns", inPlace := ["internal/abi.NoEscape"], unfollowed := true, recurses := true, apart := false }
def ModsRunsSaid : Prop := modsRunsRow.holds Try.pinned (OpenSpec.ofChange modsRunsSpec)

/-- ITS FALSE NEIGHBOUR: 'it returns false'. Refute it at one input. -/
def modsRunsWrong : ChangeSpec := { name := "modsRuns", fn := fun _ => fun
  | [d1, d2, d3, d4] => { results := [.lit (.bool false)], args := [d1, d2, d3, d4] }
  | _ => none }
def ModsRunsWrongFalsely : Prop := modsRunsRow.holds Try.pinned (OpenSpec.ofChange modsRunsWrong)

/-- 'platenlaw18.ModsReads': WHATEVER THE INPUT: true; the input reads as it did. -/
def modsReadsSpec : ChangeSpec := { name := "modsReads", fn := fun _ => fun
  | [d1, d2, d3] => { results := [.lit (.bool true)], args := [d1, d2, d3] }
  | _ => none }
def modsReadsRow : OpenClaim := { program := "ytoicdepkakgedaa", sum := "8f39bc5c828d83f550186f3285f19312a9c4c166ef0d9480b3127fc6bb1b2cc6", func := "platen/platenlaw18.ModsReads", spec := "modsReads", inPlace := ["internal/abi.NoEscape"], unfollowed := true, recurses := true, apart := false }
def ModsReadsSaid : Prop := modsReadsRow.holds Try.pinned (OpenSpec.ofChange modsReadsSpec)

/-- ITS FALSE NEIGHBOUR: 'it returns false'. Refute it at one input. -/
def modsReadsWrong : ChangeSpec := { name := "modsReads", fn := fun _ => fun
  | [d1, d2, d3] => { results := [.lit (.bool false)], args := [d1, d2, d3] }
  | _ => none }
def ModsReadsWrongFalsely : Prop := modsReadsRow.holds Try.pinned (OpenSpec.ofChange modsReadsWrong)

/-- 'platenlaw18.ModsDiff': WHATEVER THE INPUT: true; the input reads as it did. -/
def modsDiffSpec : ChangeSpec := { name := "modsDiff", fn := fun _ => fun
  | [d1, d2, d3, d4] => { results := [.lit (.bool true)], args := [d1, d2, d3, d4] }
  | _ => none }
def modsDiffRow : OpenClaim := { program := "ytoicdepkakgedaa", sum := "8f39bc5c828d83f550186f3285f19312a9c4c166ef0d9480b3127fc6bb1b2cc6", func := "platen/platenlaw18.ModsDiff", spec := "modsDiff", inPlace := ["internal/abi.NoEscape"], unfollowed := true, recurses := true, apart := false }
def ModsDiffSaid : Prop := modsDiffRow.holds Try.pinned (OpenSpec.ofChange modsDiffSpec)

/-- ITS FALSE NEIGHBOUR: 'it returns false'. Refute it at one input. -/
def modsDiffWrong : ChangeSpec := { name := "modsDiff", fn := fun _ => fun
  | [d1, d2, d3, d4] => { results := [.lit (.bool false)], args := [d1, d2, d3, d4] }
  | _ => none }
def ModsDiffWrongFalsely : Prop := modsDiffRow.holds Try.pinned (OpenSpec.ofChange modsDiffWrong)

/- THE SECOND FORM. 'bulk': how many values and letters a reading holds, each counted each time it is reached (what is shared counts as often as it is met; a slice's spare places count too). A statement '..UptoSaid' is the law's where the arguments, and the package variables that the reading takes, are together of bulk at most 1048576: NARROWER than '..Said'. Prove '..Said' where nothing that the law and all that it calls make is longer than what came in: it says more and counts as full. Else prove '..UptoSaid'. A law counts once. -/
mutual
def uptoBulk {H : Type} : DataW H → Nat
  | .lit (.string bytes) => bytes.length + 1
  | .lit _ => 1
  | .nil => 1
  | .ptr d => uptoBulk d + 1
  | .slice elems spare => uptoBulkAll elems + uptoBulkAll spare + 1
  | .agg parts => uptoBulkAll parts + 1
  | .iface _ d => uptoBulk d + 1
  | .map entries => uptoBulkEntries entries + 1
  | .held _ => 1
def uptoBulkAll {H : Type} : List (DataW H) → Nat
  | [] => 0
  | d :: r => uptoBulk d + uptoBulkAll r
def uptoBulkEntries {H : Type} : List (Lit × DataW H) → Nat
  | [] => 0
  | x :: r => uptoBulkEntry x + uptoBulkEntries r
def uptoBulkEntry {H : Type} : Lit × DataW H → Nat
  | (.string bytes, d) => bytes.length + uptoBulk d + 1
  | (_, d) => uptoBulk d + 1
 end
def uptoSmall : (H : Type) → List (DataW H) → Bool := fun _ ds => decide (uptoBulkAll ds ≤ 1048576)
def OpenSpec.upto (s : _root_.Go.ChangeSpec) : _root_.Go.OpenSpec := { _root_.Go.OpenSpec.ofChange s with cond := some uptoSmall }

/-- 'platenlaw18.ModsTells', WHERE WHAT IT READS IS OF BULK AT MOST 1048576: true; the input reads as it did. -/
def modsTellsUptoRow : OpenClaim := { program := "ytoicdepkakgedaa", sum := "8f39bc5c828d83f550186f3285f19312a9c4c166ef0d9480b3127fc6bb1b2cc6", func := "platen/platenlaw18.ModsTells", spec := "modsTells", inPlace := ["internal/abi.NoEscape"], unfollowed := true, recurses := true, apart := false, narrowed := true }
def ModsTellsUptoSaid : Prop := modsTellsUptoRow.holds Try.pinned (OpenSpec.upto modsTellsSpec)

/-- 'platenlaw18.ModsBack', WHERE WHAT IT READS IS OF BULK AT MOST 1048576: true; the input reads as it did. -/
def modsBackUptoRow : OpenClaim := { program := "ytoicdepkakgedaa", sum := "8f39bc5c828d83f550186f3285f19312a9c4c166ef0d9480b3127fc6bb1b2cc6", func := "platen/platenlaw18.ModsBack", spec := "modsBack", inPlace := ["internal/abi.NoEscape"], unfollowed := true, recurses := true, apart := false, narrowed := true }
def ModsBackUptoSaid : Prop := modsBackUptoRow.holds Try.pinned (OpenSpec.upto modsBackSpec)

/-- 'platenlaw18.ModsEither', WHERE WHAT IT READS IS OF BULK AT MOST 1048576: true; the input reads as it did. -/
def modsEitherUptoRow : OpenClaim := { program := "ytoicdepkakgedaa", sum := "8f39bc5c828d83f550186f3285f19312a9c4c166ef0d9480b3127fc6bb1b2cc6", func := "platen/platenlaw18.ModsEither", spec := "modsEither", inPlace := ["internal/abi.NoEscape"], unfollowed := true, recurses := true, apart := false, narrowed := true }
def ModsEitherUptoSaid : Prop := modsEitherUptoRow.holds Try.pinned (OpenSpec.upto modsEitherSpec)

/-- 'platenlaw18.ModsLast', WHERE WHAT IT READS IS OF BULK AT MOST 1048576: true; the input reads as it did. -/
def modsLastUptoRow : OpenClaim := { program := "ytoicdepkakgedaa", sum := "8f39bc5c828d83f550186f3285f19312a9c4c166ef0d9480b3127fc6bb1b2cc6", func := "platen/platenlaw18.ModsLast", spec := "modsLast", inPlace := ["internal/abi.NoEscape"], unfollowed := true, recurses := true, apart := false, narrowed := true }
def ModsLastUptoSaid : Prop := modsLastUptoRow.holds Try.pinned (OpenSpec.upto modsLastSpec)

/-- 'platenlaw18.ModsRuns', WHERE WHAT IT READS IS OF BULK AT MOST 1048576: true; the input reads as it did. -/
def modsRunsUptoRow : OpenClaim := { program := "ytoicdepkakgedaa", sum := "8f39bc5c828d83f550186f3285f19312a9c4c166ef0d9480b3127fc6bb1b2cc6", func := "platen/platenlaw18.ModsRuns", spec := "modsRuns", inPlace := ["internal/abi.NoEscape"], unfollowed := true, recurses := true, apart := false, narrowed := true }
def ModsRunsUptoSaid : Prop := modsRunsUptoRow.holds Try.pinned (OpenSpec.upto modsRunsSpec)

/-- 'platenlaw18.ModsReads', WHERE WHAT IT READS IS OF BULK AT MOST 1048576: true; the input reads as it did. -/
def modsReadsUptoRow : OpenClaim := { program := "ytoicdepkakgedaa", sum := "8f39bc5c828d83f550186f3285f19312a9c4c166ef0d9480b3127fc6bb1b2cc6", func := "platen/platenlaw18.ModsReads", spec := "modsReads", inPlace := ["internal/abi.NoEscape"], unfollowed := true, recurses := true, apart := false, narrowed := true }
def ModsReadsUptoSaid : Prop := modsReadsUptoRow.holds Try.pinned (OpenSpec.upto modsReadsSpec)

/-- 'platenlaw18.ModsDiff', WHERE WHAT IT READS IS OF BULK AT MOST 1048576: true; the input reads as it did. -/
def modsDiffUptoRow : OpenClaim := { program := "ytoicdepkakgedaa", sum := "8f39bc5c828d83f550186f3285f19312a9c4c166ef0d9480b3127fc6bb1b2cc6", func := "platen/platenlaw18.ModsDiff", spec := "modsDiff", inPlace := ["internal/abi.NoEscape"], unfollowed := true, recurses := true, apart := false, narrowed := true }
def ModsDiffUptoSaid : Prop := modsDiffUptoRow.holds Try.pinned (OpenSpec.upto modsDiffSpec)

end Rows
end Go.Proofs.Ytoicdepkakgedaa
