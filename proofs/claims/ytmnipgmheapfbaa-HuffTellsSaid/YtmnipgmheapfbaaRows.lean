/-
  No cell of these rows narrows 'for every input' (looked for: loops, veiled, ifaces, maps, wideKeys, modest, calm, conditions, laid).
  DERIVED. THE GIVEN ROWS OF THIS SEAT. 5 by the template 'for every input the law returns true; each argument reads behind the call as it read before'; 0 by the template 'total and deterministic' (their statements: YtmnipgmheapfbaaTotals.lean).
  GIVEN WITH THE SEED: the statements are not yours to turn. If you find one false, say at which input.
  Laid BY PROGRAM, IN A SANDBOX (cutbox-rows.mjs): the forced cells as the released guide's own fill.sh prints them over the translation 885fe95e39022ba4… (all of the seat's roots in one cut). By AI agents, Wed Nov 11 2026. No macro, syntax, notation, axiom, sorry.
-/
import Derived.Test.YtmnipgmheapfbaaChecked
import GoSem.Claim
import GoSem.ClaimJoined
import GoSem.ClaimMapViews
import Derived.JoinedTies
import Derived.KernelRfl
namespace Go.Proofs.Ytmnipgmheapfbaa
/- THE CELL 'sum', in the pinned program and in every row, IS THE sha256 OF THE DUMP (.gsa) THAT YtmnipgmheapfbaaProg.lean LOADS. Nothing in Lean hashes anything: it is a label: what it is worth is what the hold of that sum in a sandbox is worth. -/
noncomputable def Try.pinned : Pinned := { name := "ytmnipgmheapfbaa", sum := "885fe95e39022ba4453235694bd77205b3d445084cd1394c38637b140b1a86e2", checked := Try.checked }
namespace Rows
def none {H : Type} : Left H := { results := [], args := [] }

/-- 'platenlaw07.HuffTells': WHATEVER THE INPUT: true; the input reads as it did. -/
def huffTellsSpec : ChangeSpec := { name := "huffTells", fn := fun _ => fun
  | [d1, d2, d3, d4] => { results := [.lit (.bool true)], args := [d1, d2, d3, d4] }
  | _ => none }
def huffTellsRow : OpenClaim := { program := "ytmnipgmheapfbaa", sum := "885fe95e39022ba4453235694bd77205b3d445084cd1394c38637b140b1a86e2", func := "platen/platenlaw07.HuffTells", spec := "huffTells", plainKeys := false, apart := false }
def HuffTellsSaid : Prop := huffTellsRow.holds Try.pinned (OpenSpec.ofChange huffTellsSpec)

/-- ITS FALSE NEIGHBOUR: 'it returns false'. Refute it at one input. -/
def huffTellsWrong : ChangeSpec := { name := "huffTells", fn := fun _ => fun
  | [d1, d2, d3, d4] => { results := [.lit (.bool false)], args := [d1, d2, d3, d4] }
  | _ => none }
def HuffTellsWrongFalsely : Prop := huffTellsRow.holds Try.pinned (OpenSpec.ofChange huffTellsWrong)

/-- 'platenlaw07.HuffAlike': WHATEVER THE INPUT: true; the input reads as it did. -/
def huffAlikeSpec : ChangeSpec := { name := "huffAlike", fn := fun _ => fun
  | [d1, d2, d3, d4] => { results := [.lit (.bool true)], args := [d1, d2, d3, d4] }
  | _ => none }
def huffAlikeRow : OpenClaim := { program := "ytmnipgmheapfbaa", sum := "885fe95e39022ba4453235694bd77205b3d445084cd1394c38637b140b1a86e2", func := "platen/platenlaw07.HuffAlike", spec := "huffAlike", plainKeys := false, apart := false }
def HuffAlikeSaid : Prop := huffAlikeRow.holds Try.pinned (OpenSpec.ofChange huffAlikeSpec)

/-- ITS FALSE NEIGHBOUR: 'it returns false'. Refute it at one input. -/
def huffAlikeWrong : ChangeSpec := { name := "huffAlike", fn := fun _ => fun
  | [d1, d2, d3, d4] => { results := [.lit (.bool false)], args := [d1, d2, d3, d4] }
  | _ => none }
def HuffAlikeWrongFalsely : Prop := huffAlikeRow.holds Try.pinned (OpenSpec.ofChange huffAlikeWrong)

/-- 'platenlaw07.HuffNil': WHATEVER THE INPUT: true; the input reads as it did. -/
def huffNilSpec : ChangeSpec := { name := "huffNil", fn := fun _ => fun
  | [d1, d2] => { results := [.lit (.bool true)], args := [d1, d2] }
  | _ => none }
def huffNilRow : OpenClaim := { program := "ytmnipgmheapfbaa", sum := "885fe95e39022ba4453235694bd77205b3d445084cd1394c38637b140b1a86e2", func := "platen/platenlaw07.HuffNil", spec := "huffNil", plainKeys := false, apart := false }
def HuffNilSaid : Prop := huffNilRow.holds Try.pinned (OpenSpec.ofChange huffNilSpec)

/-- ITS FALSE NEIGHBOUR: 'it returns false'. Refute it at one input. -/
def huffNilWrong : ChangeSpec := { name := "huffNil", fn := fun _ => fun
  | [d1, d2] => { results := [.lit (.bool false)], args := [d1, d2] }
  | _ => none }
def HuffNilWrongFalsely : Prop := huffNilRow.holds Try.pinned (OpenSpec.ofChange huffNilWrong)

/-- 'platenlaw07.HuffBack': WHATEVER THE INPUT: true; the input reads as it did. -/
def huffBackSpec : ChangeSpec := { name := "huffBack", fn := fun _ => fun
  | [d1, d2, d3, d4] => { results := [.lit (.bool true)], args := [d1, d2, d3, d4] }
  | _ => none }
def huffBackRow : OpenClaim := { program := "ytmnipgmheapfbaa", sum := "885fe95e39022ba4453235694bd77205b3d445084cd1394c38637b140b1a86e2", func := "platen/platenlaw07.HuffBack", spec := "huffBack", plainKeys := false, apart := false }
def HuffBackSaid : Prop := huffBackRow.holds Try.pinned (OpenSpec.ofChange huffBackSpec)

/-- ITS FALSE NEIGHBOUR: 'it returns false'. Refute it at one input. -/
def huffBackWrong : ChangeSpec := { name := "huffBack", fn := fun _ => fun
  | [d1, d2, d3, d4] => { results := [.lit (.bool false)], args := [d1, d2, d3, d4] }
  | _ => none }
def HuffBackWrongFalsely : Prop := huffBackRow.holds Try.pinned (OpenSpec.ofChange huffBackWrong)

/-- 'platenlaw07.HuffAny': WHATEVER THE INPUT: true; the input reads as it did. -/
def huffAnySpec : ChangeSpec := { name := "huffAny", fn := fun _ => fun
  | [d1, d2, d3] => { results := [.lit (.bool true)], args := [d1, d2, d3] }
  | _ => none }
def huffAnyRow : OpenClaim := { program := "ytmnipgmheapfbaa", sum := "885fe95e39022ba4453235694bd77205b3d445084cd1394c38637b140b1a86e2", func := "platen/platenlaw07.HuffAny", spec := "huffAny", plainKeys := false, apart := false }
def HuffAnySaid : Prop := huffAnyRow.holds Try.pinned (OpenSpec.ofChange huffAnySpec)

/-- ITS FALSE NEIGHBOUR: 'it returns false'. Refute it at one input. -/
def huffAnyWrong : ChangeSpec := { name := "huffAny", fn := fun _ => fun
  | [d1, d2, d3] => { results := [.lit (.bool false)], args := [d1, d2, d3] }
  | _ => none }
def HuffAnyWrongFalsely : Prop := huffAnyRow.holds Try.pinned (OpenSpec.ofChange huffAnyWrong)

/- THE SECOND FORM. 'bulk': how many values and letters a reading holds, each counted each time it is reached (what is shared counts as often as it is met; a slice's spare places count too). A statement '..UptoSaid' is the law's where the arguments, and the package variables that the reading takes, are together of bulk at most 1048576: NARROWER than '..Said'. Prove '..Said' where nothing that the law and all that it calls make is longer than what came in: it says more and counts as full. Else prove '..UptoSaid'. A law counts once. -/
mutual
def uptoBulk {H : Type} : DataW H → Nat
  | .lit (.string bytes) => bytes.length + 1
  | .lit _ => 1
  | .nil => 1
  | .ptr d => uptoBulk d + 1
  | .slice elems spare => uptoBulkAll elems + uptoBulkAll spare + 1
  | .agg parts => uptoBulkAll parts + 1
  | .iface _ d => uptoBulk d + 1
  | .map entries => uptoBulkEntries entries + 1
  | .held _ => 1
def uptoBulkAll {H : Type} : List (DataW H) → Nat
  | [] => 0
  | d :: r => uptoBulk d + uptoBulkAll r
def uptoBulkEntries {H : Type} : List (Lit × DataW H) → Nat
  | [] => 0
  | x :: r => uptoBulkEntry x + uptoBulkEntries r
def uptoBulkEntry {H : Type} : Lit × DataW H → Nat
  | (.string bytes, d) => bytes.length + uptoBulk d + 1
  | (_, d) => uptoBulk d + 1
 end
def uptoSmall : (H : Type) → List (DataW H) → Bool := fun _ ds => decide (uptoBulkAll ds ≤ 1048576)
def OpenSpec.upto (s : _root_.Go.ChangeSpec) : _root_.Go.OpenSpec := { _root_.Go.OpenSpec.ofChange s with cond := some uptoSmall }

/-- 'platenlaw07.HuffTells', WHERE WHAT IT READS IS OF BULK AT MOST 1048576: true; the input reads as it did. -/
def huffTellsUptoRow : OpenClaim := { program := "ytmnipgmheapfbaa", sum := "885fe95e39022ba4453235694bd77205b3d445084cd1394c38637b140b1a86e2", func := "platen/platenlaw07.HuffTells", spec := "huffTells", plainKeys := false, apart := false, narrowed := true }
def HuffTellsUptoSaid : Prop := huffTellsUptoRow.holds Try.pinned (OpenSpec.upto huffTellsSpec)

/-- 'platenlaw07.HuffAlike', WHERE WHAT IT READS IS OF BULK AT MOST 1048576: true; the input reads as it did. -/
def huffAlikeUptoRow : OpenClaim := { program := "ytmnipgmheapfbaa", sum := "885fe95e39022ba4453235694bd77205b3d445084cd1394c38637b140b1a86e2", func := "platen/platenlaw07.HuffAlike", spec := "huffAlike", plainKeys := false, apart := false, narrowed := true }
def HuffAlikeUptoSaid : Prop := huffAlikeUptoRow.holds Try.pinned (OpenSpec.upto huffAlikeSpec)

/-- 'platenlaw07.HuffNil', WHERE WHAT IT READS IS OF BULK AT MOST 1048576: true; the input reads as it did. -/
def huffNilUptoRow : OpenClaim := { program := "ytmnipgmheapfbaa", sum := "885fe95e39022ba4453235694bd77205b3d445084cd1394c38637b140b1a86e2", func := "platen/platenlaw07.HuffNil", spec := "huffNil", plainKeys := false, apart := false, narrowed := true }
def HuffNilUptoSaid : Prop := huffNilUptoRow.holds Try.pinned (OpenSpec.upto huffNilSpec)

/-- 'platenlaw07.HuffBack', WHERE WHAT IT READS IS OF BULK AT MOST 1048576: true; the input reads as it did. -/
def huffBackUptoRow : OpenClaim := { program := "ytmnipgmheapfbaa", sum := "885fe95e39022ba4453235694bd77205b3d445084cd1394c38637b140b1a86e2", func := "platen/platenlaw07.HuffBack", spec := "huffBack", plainKeys := false, apart := false, narrowed := true }
def HuffBackUptoSaid : Prop := huffBackUptoRow.holds Try.pinned (OpenSpec.upto huffBackSpec)

/-- 'platenlaw07.HuffAny', WHERE WHAT IT READS IS OF BULK AT MOST 1048576: true; the input reads as it did. -/
def huffAnyUptoRow : OpenClaim := { program := "ytmnipgmheapfbaa", sum := "885fe95e39022ba4453235694bd77205b3d445084cd1394c38637b140b1a86e2", func := "platen/platenlaw07.HuffAny", spec := "huffAny", plainKeys := false, apart := false, narrowed := true }
def HuffAnyUptoSaid : Prop := huffAnyUptoRow.holds Try.pinned (OpenSpec.upto huffAnySpec)

end Rows
end Go.Proofs.Ytmnipgmheapfbaa
