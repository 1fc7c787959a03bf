/-
  No cell of these rows narrows 'for every input' (looked for: loops, veiled, ifaces, maps, wideKeys, modest, calm, conditions, laid).
  DERIVED. THE GIVEN ROWS OF THIS SEAT. 5 by the template 'for every input the law returns true; each argument reads behind the call as it read before'; 0 by the template 'total and deterministic' (their statements: YtciejmlhdmjajaaTotals.lean).
  GIVEN WITH THE SEED: the statements are not yours to turn. If you find one false, say at which input.
  Laid BY PROGRAM, IN A SANDBOX (cutbox-rows.mjs): the forced cells as the released guide's own fill.sh prints them over the translation f54bff3b6e5d46c6… (all of the seat's roots in one cut). By AI agents, Wed Nov 11 2026. No macro, syntax, notation, axiom, sorry.
-/
import Derived.Test.YtciejmlhdmjajaaChecked
import GoSem.Claim
import GoSem.ClaimJoined
import GoSem.ClaimMapViews
import Derived.JoinedTies
import Derived.KernelRfl
namespace Go.Proofs.Ytciejmlhdmjajaa
/- THE CELL 'sum', in the pinned program and in every row, IS THE sha256 OF THE DUMP (.gsa) THAT YtciejmlhdmjajaaProg.lean LOADS. Nothing in Lean hashes anything: it is a label: what it is worth is what the hold of that sum in a sandbox is worth. -/
noncomputable def Try.pinned : Pinned := { name := "ytciejmlhdmjajaa", sum := "f54bff3b6e5d46c6535966b4e1305d4ccb6b694d042f9b1a605dab4cda746c9d", checked := Try.checked }
namespace Rows
def none {H : Type} : Left H := { results := [], args := [] }

/-- 'platenlaw13.BlockCodes': WHATEVER THE INPUT: true; the input reads as it did. -/
def blockCodesSpec : ChangeSpec := { name := "blockCodes", fn := fun _ => fun
  | [d] => { results := [.lit (.bool true)], args := [d] }
  | _ => none }
def blockCodesRow : OpenClaim := { program := "ytciejmlhdmjajaa", sum := "f54bff3b6e5d46c6535966b4e1305d4ccb6b694d042f9b1a605dab4cda746c9d", func := "platen/platenlaw13.BlockCodes", spec := "blockCodes", unfollowed := true, recurses := true, apart := false }
def BlockCodesSaid : Prop := blockCodesRow.holds Try.pinned (OpenSpec.ofChange blockCodesSpec)

/-- ITS FALSE NEIGHBOUR: 'it returns false'. Refute it at one input. -/
def blockCodesWrong : ChangeSpec := { name := "blockCodes", fn := fun _ => fun
  | [d] => { results := [.lit (.bool false)], args := [d] }
  | _ => none }
def BlockCodesWrongFalsely : Prop := blockCodesRow.holds Try.pinned (OpenSpec.ofChange blockCodesWrong)

/-- 'platenlaw13.BlockBest': WHATEVER THE INPUT: true; the input reads as it did. -/
def blockBestSpec : ChangeSpec := { name := "blockBest", fn := fun _ => fun
  | [d1, d2] => { results := [.lit (.bool true)], args := [d1, d2] }
  | _ => none }
def blockBestRow : OpenClaim := { program := "ytciejmlhdmjajaa", sum := "f54bff3b6e5d46c6535966b4e1305d4ccb6b694d042f9b1a605dab4cda746c9d", func := "platen/platenlaw13.BlockBest", spec := "blockBest", unfollowed := true, recurses := true, apart := false }
def BlockBestSaid : Prop := blockBestRow.holds Try.pinned (OpenSpec.ofChange blockBestSpec)

/-- ITS FALSE NEIGHBOUR: 'it returns false'. Refute it at one input. -/
def blockBestWrong : ChangeSpec := { name := "blockBest", fn := fun _ => fun
  | [d1, d2] => { results := [.lit (.bool false)], args := [d1, d2] }
  | _ => none }
def BlockBestWrongFalsely : Prop := blockBestRow.holds Try.pinned (OpenSpec.ofChange blockBestWrong)

/-- 'platenlaw13.BlockWhere': WHATEVER THE INPUT: true; the input reads as it did. -/
def blockWhereSpec : ChangeSpec := { name := "blockWhere", fn := fun _ => fun
  | [d1, d2, d3, d4] => { results := [.lit (.bool true)], args := [d1, d2, d3, d4] }
  | _ => none }
def blockWhereRow : OpenClaim := { program := "ytciejmlhdmjajaa", sum := "f54bff3b6e5d46c6535966b4e1305d4ccb6b694d042f9b1a605dab4cda746c9d", func := "platen/platenlaw13.BlockWhere", spec := "blockWhere", unfollowed := true, recurses := true, apart := false }
def BlockWhereSaid : Prop := blockWhereRow.holds Try.pinned (OpenSpec.ofChange blockWhereSpec)

/-- ITS FALSE NEIGHBOUR: 'it returns false'. Refute it at one input. -/
def blockWhereWrong : ChangeSpec := { name := "blockWhere", fn := fun _ => fun
  | [d1, d2, d3, d4] => { results := [.lit (.bool false)], args := [d1, d2, d3, d4] }
  | _ => none }
def BlockWhereWrongFalsely : Prop := blockWhereRow.holds Try.pinned (OpenSpec.ofChange blockWhereWrong)

/-- 'platenlaw13.BlockRoom': WHATEVER THE INPUT: true; the input reads as it did. -/
def blockRoomSpec : ChangeSpec := { name := "blockRoom", fn := fun _ => fun
  | [d1, d2, d3] => { results := [.lit (.bool true)], args := [d1, d2, d3] }
  | _ => none }
def blockRoomRow : OpenClaim := { program := "ytciejmlhdmjajaa", sum := "f54bff3b6e5d46c6535966b4e1305d4ccb6b694d042f9b1a605dab4cda746c9d", func := "platen/platenlaw13.BlockRoom", spec := "blockRoom", unfollowed := true, recurses := true, apart := false }
def BlockRoomSaid : Prop := blockRoomRow.holds Try.pinned (OpenSpec.ofChange blockRoomSpec)

/-- ITS FALSE NEIGHBOUR: 'it returns false'. Refute it at one input. -/
def blockRoomWrong : ChangeSpec := { name := "blockRoom", fn := fun _ => fun
  | [d1, d2, d3] => { results := [.lit (.bool false)], args := [d1, d2, d3] }
  | _ => none }
def BlockRoomWrongFalsely : Prop := blockRoomRow.holds Try.pinned (OpenSpec.ofChange blockRoomWrong)

/-- 'platenlaw13.BlockStored': WHATEVER THE INPUT: true; the input reads as it did. -/
def blockStoredSpec : ChangeSpec := { name := "blockStored", fn := fun _ => fun
  | [d1, d2, d3, d4] => { results := [.lit (.bool true)], args := [d1, d2, d3, d4] }
  | _ => none }
def blockStoredRow : OpenClaim := { program := "ytciejmlhdmjajaa", sum := "f54bff3b6e5d46c6535966b4e1305d4ccb6b694d042f9b1a605dab4cda746c9d", func := "platen/platenlaw13.BlockStored", spec := "blockStored", unfollowed := true, recurses := true, apart := false }
def BlockStoredSaid : Prop := blockStoredRow.holds Try.pinned (OpenSpec.ofChange blockStoredSpec)

/-- ITS FALSE NEIGHBOUR: 'it returns false'. Refute it at one input. -/
def blockStoredWrong : ChangeSpec := { name := "blockStored", fn := fun _ => fun
  | [d1, d2, d3, d4] => { results := [.lit (.bool false)], args := [d1, d2, d3, d4] }
  | _ => none }
def BlockStoredWrongFalsely : Prop := blockStoredRow.holds Try.pinned (OpenSpec.ofChange blockStoredWrong)

/- THE SECOND FORM. 'bulk': how many values and letters a reading holds, each counted each time it is reached (what is shared counts as often as it is met; a slice's spare places count too). A statement '..UptoSaid' is the law's where the arguments, and the package variables that the reading takes, are together of bulk at most 1048576: NARROWER than '..Said'. Prove '..Said' where nothing that the law and all that it calls make is longer than what came in: it says more and counts as full. Else prove '..UptoSaid'. A law counts once. -/
mutual
def uptoBulk {H : Type} : DataW H → Nat
  | .lit (.string bytes) => bytes.length + 1
  | .lit _ => 1
  | .nil => 1
  | .ptr d => uptoBulk d + 1
  | .slice elems spare => uptoBulkAll elems + uptoBulkAll spare + 1
  | .agg parts => uptoBulkAll parts + 1
  | .iface _ d => uptoBulk d + 1
  | .map entries => uptoBulkEntries entries + 1
  | .held _ => 1
def uptoBulkAll {H : Type} : List (DataW H) → Nat
  | [] => 0
  | d :: r => uptoBulk d + uptoBulkAll r
def uptoBulkEntries {H : Type} : List (Lit × DataW H) → Nat
  | [] => 0
  | x :: r => uptoBulkEntry x + uptoBulkEntries r
def uptoBulkEntry {H : Type} : Lit × DataW H → Nat
  | (.string bytes, d) => bytes.length + uptoBulk d + 1
  | (_, d) => uptoBulk d + 1
 end
def uptoSmall : (H : Type) → List (DataW H) → Bool := fun _ ds => decide (uptoBulkAll ds ≤ 1048576)
def OpenSpec.upto (s : _root_.Go.ChangeSpec) : _root_.Go.OpenSpec := { _root_.Go.OpenSpec.ofChange s with cond := some uptoSmall }

/-- 'platenlaw13.BlockCodes', WHERE WHAT IT READS IS OF BULK AT MOST 1048576: true; the input reads as it did. -/
def blockCodesUptoRow : OpenClaim := { program := "ytciejmlhdmjajaa", sum := "f54bff3b6e5d46c6535966b4e1305d4ccb6b694d042f9b1a605dab4cda746c9d", func := "platen/platenlaw13.BlockCodes", spec := "blockCodes", unfollowed := true, recurses := true, apart := false, narrowed := true }
def BlockCodesUptoSaid : Prop := blockCodesUptoRow.holds Try.pinned (OpenSpec.upto blockCodesSpec)

/-- 'platenlaw13.BlockBest', WHERE WHAT IT READS IS OF BULK AT MOST 1048576: true; the input reads as it did. -/
def blockBestUptoRow : OpenClaim := { program := "ytciejmlhdmjajaa", sum := "f54bff3b6e5d46c6535966b4e1305d4ccb6b694d042f9b1a605dab4cda746c9d", func := "platen/platenlaw13.BlockBest", spec := "blockBest", unfollowed := true, recurses := true, apart := false, narrowed := true }
def BlockBestUptoSaid : Prop := blockBestUptoRow.holds Try.pinned (OpenSpec.upto blockBestSpec)

/-- 'platenlaw13.BlockWhere', WHERE WHAT IT READS IS OF BULK AT MOST 1048576: true; the input reads as it did. -/
def blockWhereUptoRow : OpenClaim := { program := "ytciejmlhdmjajaa", sum := "f54bff3b6e5d46c6535966b4e1305d4ccb6b694d042f9b1a605dab4cda746c9d", func := "platen/platenlaw13.BlockWhere", spec := "blockWhere", unfollowed := true, recurses := true, apart := false, narrowed := true }
def BlockWhereUptoSaid : Prop := blockWhereUptoRow.holds Try.pinned (OpenSpec.upto blockWhereSpec)

/-- 'platenlaw13.BlockRoom', WHERE WHAT IT READS IS OF BULK AT MOST 1048576: true; the input reads as it did. -/
def blockRoomUptoRow : OpenClaim := { program := "ytciejmlhdmjajaa", sum := "f54bff3b6e5d46c6535966b4e1305d4ccb6b694d042f9b1a605dab4cda746c9d", func := "platen/platenlaw13.BlockRoom", spec := "blockRoom", unfollowed := true, recurses := true, apart := false, narrowed := true }
def BlockRoomUptoSaid : Prop := blockRoomUptoRow.holds Try.pinned (OpenSpec.upto blockRoomSpec)

/-- 'platenlaw13.BlockStored', WHERE WHAT IT READS IS OF BULK AT MOST 1048576: true; the input reads as it did. -/
def blockStoredUptoRow : OpenClaim := { program := "ytciejmlhdmjajaa", sum := "f54bff3b6e5d46c6535966b4e1305d4ccb6b694d042f9b1a605dab4cda746c9d", func := "platen/platenlaw13.BlockStored", spec := "blockStored", unfollowed := true, recurses := true, apart := false, narrowed := true }
def BlockStoredUptoSaid : Prop := blockStoredUptoRow.holds Try.pinned (OpenSpec.upto blockStoredSpec)

end Rows
end Go.Proofs.Ytciejmlhdmjajaa
