/-
  No cell of these rows narrows 'for every input' (looked for: loops, veiled, ifaces, maps, wideKeys, modest, calm, conditions, laid).
  DERIVED. THE GIVEN ROWS OF THIS SEAT. 16 by the template 'for every input the law returns true; each argument reads behind the call as it read before'; 0 by the template 'total and deterministic' (their statements: YtlognooioemenaaTotals.lean).
  GIVEN WITH THE SEED: the statements are not yours to turn. If you find one false, say at which input.
  Laid BY PROGRAM, IN A SANDBOX (cutbox-rows.mjs): the forced cells as the released guide's own fill.sh prints them over the translation e5a44e31acd97a0d… (all of the seat's roots in one cut). By AI agents, Wed Nov 11 2026. No macro, syntax, notation, axiom, sorry.
-/
import Derived.Test.YtlognooioemenaaChecked
import GoSem.Claim
import GoSem.ClaimJoined
import GoSem.ClaimMapViews
import Derived.JoinedTies
import Derived.KernelRfl
namespace Go.Proofs.Ytlognooioemenaa
/- THE CELL 'sum', in the pinned program and in every row, IS THE sha256 OF THE DUMP (.gsa) THAT YtlognooioemenaaProg.lean LOADS. Nothing in Lean hashes anything: it is a label: what it is worth is what the hold of that sum in a sandbox is worth. -/
noncomputable def Try.pinned : Pinned := { name := "ytlognooioemenaa", sum := "e5a44e31acd97a0d9283a517b07267caa4f702396255cb813a2c404a350816cc", checked := Try.checked }
namespace Rows
def none {H : Type} : Left H := { results := [], args := [] }

/-- 'platenlaw03.BitrPieces': WHATEVER THE INPUT: true; the input reads as it did. -/
def bitrPiecesSpec : ChangeSpec := { name := "bitrPieces", fn := fun _ => fun
  | [d1, d2, d3, d4] => { results := [.lit (.bool true)], args := [d1, d2, d3, d4] }
  | _ => none }
def bitrPiecesRow : OpenClaim := { program := "ytlognooioemenaa", sum := "e5a44e31acd97a0d9283a517b07267caa4f702396255cb813a2c404a350816cc", func := "platen/platenlaw03.BitrPieces", spec := "bitrPieces", apart := false }
def BitrPiecesSaid : Prop := bitrPiecesRow.holds Try.pinned (OpenSpec.ofChange bitrPiecesSpec)

/-- ITS FALSE NEIGHBOUR: 'it returns false'. Refute it at one input. -/
def bitrPiecesWrong : ChangeSpec := { name := "bitrPieces", fn := fun _ => fun
  | [d1, d2, d3, d4] => { results := [.lit (.bool false)], args := [d1, d2, d3, d4] }
  | _ => none }
def BitrPiecesWrongFalsely : Prop := bitrPiecesRow.holds Try.pinned (OpenSpec.ofChange bitrPiecesWrong)

/-- 'platenlaw02.BitwPieces': WHATEVER THE INPUT: true; the input reads as it did. -/
def bitwPiecesSpec : ChangeSpec := { name := "bitwPieces", fn := fun _ => fun
  | [d1, d2, d3, d4, d5] => { results := [.lit (.bool true)], args := [d1, d2, d3, d4, d5] }
  | _ => none }
def bitwPiecesRow : OpenClaim := { program := "ytlognooioemenaa", sum := "e5a44e31acd97a0d9283a517b07267caa4f702396255cb813a2c404a350816cc", func := "platen/platenlaw02.BitwPieces", spec := "bitwPieces", apart := false }
def BitwPiecesSaid : Prop := bitwPiecesRow.holds Try.pinned (OpenSpec.ofChange bitwPiecesSpec)

/-- ITS FALSE NEIGHBOUR: 'it returns false'. Refute it at one input. -/
def bitwPiecesWrong : ChangeSpec := { name := "bitwPieces", fn := fun _ => fun
  | [d1, d2, d3, d4, d5] => { results := [.lit (.bool false)], args := [d1, d2, d3, d4, d5] }
  | _ => none }
def BitwPiecesWrongFalsely : Prop := bitwPiecesRow.holds Try.pinned (OpenSpec.ofChange bitwPiecesWrong)

/-- 'platenlaw02.BitwStays': WHATEVER THE INPUT: true; the input reads as it did. -/
def bitwStaysSpec : ChangeSpec := { name := "bitwStays", fn := fun _ => fun
  | [d1, d2] => { results := [.lit (.bool true)], args := [d1, d2] }
  | _ => none }
def bitwStaysRow : OpenClaim := { program := "ytlognooioemenaa", sum := "e5a44e31acd97a0d9283a517b07267caa4f702396255cb813a2c404a350816cc", func := "platen/platenlaw02.BitwStays", spec := "bitwStays", apart := false }
def BitwStaysSaid : Prop := bitwStaysRow.holds Try.pinned (OpenSpec.ofChange bitwStaysSpec)

/-- ITS FALSE NEIGHBOUR: 'it returns false'. Refute it at one input. -/
def bitwStaysWrong : ChangeSpec := { name := "bitwStays", fn := fun _ => fun
  | [d1, d2] => { results := [.lit (.bool false)], args := [d1, d2] }
  | _ => none }
def BitwStaysWrongFalsely : Prop := bitwStaysRow.holds Try.pinned (OpenSpec.ofChange bitwStaysWrong)

/-- 'platenlaw02.BitwRoom': WHATEVER THE INPUT: true; the input reads as it did. -/
def bitwRoomSpec : ChangeSpec := { name := "bitwRoom", fn := fun _ => fun
  | [d1, d2] => { results := [.lit (.bool true)], args := [d1, d2] }
  | _ => none }
def bitwRoomRow : OpenClaim := { program := "ytlognooioemenaa", sum := "e5a44e31acd97a0d9283a517b07267caa4f702396255cb813a2c404a350816cc", func := "platen/platenlaw02.BitwRoom", spec := "bitwRoom", apart := false }
def BitwRoomSaid : Prop := bitwRoomRow.holds Try.pinned (OpenSpec.ofChange bitwRoomSpec)

/-- ITS FALSE NEIGHBOUR: 'it returns false'. Refute it at one input. -/
def bitwRoomWrong : ChangeSpec := { name := "bitwRoom", fn := fun _ => fun
  | [d1, d2] => { results := [.lit (.bool false)], args := [d1, d2] }
  | _ => none }
def BitwRoomWrongFalsely : Prop := bitwRoomRow.holds Try.pinned (OpenSpec.ofChange bitwRoomWrong)

/-- 'platenlaw02.BitwPlays': WHATEVER THE INPUT: true; the input reads as it did. -/
def bitwPlaysSpec : ChangeSpec := { name := "bitwPlays", fn := fun _ => fun
  | [d1, d2] => { results := [.lit (.bool true)], args := [d1, d2] }
  | _ => none }
def bitwPlaysRow : OpenClaim := { program := "ytlognooioemenaa", sum := "e5a44e31acd97a0d9283a517b07267caa4f702396255cb813a2c404a350816cc", func := "platen/platenlaw02.BitwPlays", spec := "bitwPlays", apart := false }
def BitwPlaysSaid : Prop := bitwPlaysRow.holds Try.pinned (OpenSpec.ofChange bitwPlaysSpec)

/-- ITS FALSE NEIGHBOUR: 'it returns false'. Refute it at one input. -/
def bitwPlaysWrong : ChangeSpec := { name := "bitwPlays", fn := fun _ => fun
  | [d1, d2] => { results := [.lit (.bool false)], args := [d1, d2] }
  | _ => none }
def BitwPlaysWrongFalsely : Prop := bitwPlaysRow.holds Try.pinned (OpenSpec.ofChange bitwPlaysWrong)

/-- 'platenlaw02.BitwNil': WHATEVER THE INPUT: true; the input reads as it did. -/
def bitwNilSpec : ChangeSpec := { name := "bitwNil", fn := fun _ => fun
  | [d1, d2, d3] => { results := [.lit (.bool true)], args := [d1, d2, d3] }
  | _ => none }
def bitwNilRow : OpenClaim := { program := "ytlognooioemenaa", sum := "e5a44e31acd97a0d9283a517b07267caa4f702396255cb813a2c404a350816cc", func := "platen/platenlaw02.BitwNil", spec := "bitwNil", apart := false }
def BitwNilSaid : Prop := bitwNilRow.holds Try.pinned (OpenSpec.ofChange bitwNilSpec)

/-- ITS FALSE NEIGHBOUR: 'it returns false'. Refute it at one input. -/
def bitwNilWrong : ChangeSpec := { name := "bitwNil", fn := fun _ => fun
  | [d1, d2, d3] => { results := [.lit (.bool false)], args := [d1, d2, d3] }
  | _ => none }
def BitwNilWrongFalsely : Prop := bitwNilRow.holds Try.pinned (OpenSpec.ofChange bitwNilWrong)

/-- 'platenlaw03.BitrPlays': WHATEVER THE INPUT: true; the input reads as it did. -/
def bitrPlaysSpec : ChangeSpec := { name := "bitrPlays", fn := fun _ => fun
  | [d1, d2] => { results := [.lit (.bool true)], args := [d1, d2] }
  | _ => none }
def bitrPlaysRow : OpenClaim := { program := "ytlognooioemenaa", sum := "e5a44e31acd97a0d9283a517b07267caa4f702396255cb813a2c404a350816cc", func := "platen/platenlaw03.BitrPlays", spec := "bitrPlays", apart := false }
def BitrPlaysSaid : Prop := bitrPlaysRow.holds Try.pinned (OpenSpec.ofChange bitrPlaysSpec)

/-- ITS FALSE NEIGHBOUR: 'it returns false'. Refute it at one input. -/
def bitrPlaysWrong : ChangeSpec := { name := "bitrPlays", fn := fun _ => fun
  | [d1, d2] => { results := [.lit (.bool false)], args := [d1, d2] }
  | _ => none }
def BitrPlaysWrongFalsely : Prop := bitrPlaysRow.holds Try.pinned (OpenSpec.ofChange bitrPlaysWrong)

/-- 'platenlaw03.BitrNil': WHATEVER THE INPUT: true; the input reads as it did. -/
def bitrNilSpec : ChangeSpec := { name := "bitrNil", fn := fun _ => fun
  | [d] => { results := [.lit (.bool true)], args := [d] }
  | _ => none }
def bitrNilRow : OpenClaim := { program := "ytlognooioemenaa", sum := "e5a44e31acd97a0d9283a517b07267caa4f702396255cb813a2c404a350816cc", func := "platen/platenlaw03.BitrNil", spec := "bitrNil", apart := false }
def BitrNilSaid : Prop := bitrNilRow.holds Try.pinned (OpenSpec.ofChange bitrNilSpec)

/-- ITS FALSE NEIGHBOUR: 'it returns false'. Refute it at one input. -/
def bitrNilWrong : ChangeSpec := { name := "bitrNil", fn := fun _ => fun
  | [d] => { results := [.lit (.bool false)], args := [d] }
  | _ => none }
def BitrNilWrongFalsely : Prop := bitrNilRow.holds Try.pinned (OpenSpec.ofChange bitrNilWrong)

/-- 'platenlaw03.BitrWhole': WHATEVER THE INPUT: true; the input reads as it did. -/
def bitrWholeSpec : ChangeSpec := { name := "bitrWhole", fn := fun _ => fun
  | [d1, d2] => { results := [.lit (.bool true)], args := [d1, d2] }
  | _ => none }
def bitrWholeRow : OpenClaim := { program := "ytlognooioemenaa", sum := "e5a44e31acd97a0d9283a517b07267caa4f702396255cb813a2c404a350816cc", func := "platen/platenlaw03.BitrWhole", spec := "bitrWhole", apart := false }
def BitrWholeSaid : Prop := bitrWholeRow.holds Try.pinned (OpenSpec.ofChange bitrWholeSpec)

/-- ITS FALSE NEIGHBOUR: 'it returns false'. Refute it at one input. -/
def bitrWholeWrong : ChangeSpec := { name := "bitrWhole", fn := fun _ => fun
  | [d1, d2] => { results := [.lit (.bool false)], args := [d1, d2] }
  | _ => none }
def BitrWholeWrongFalsely : Prop := bitrWholeRow.holds Try.pinned (OpenSpec.ofChange bitrWholeWrong)

/-- 'platenlaw01.WordBytes': WHATEVER THE INPUT: true; the input reads as it did. -/
def wordBytesSpec : ChangeSpec := { name := "wordBytes", fn := fun _ => fun
  | [d1, d2, d3, d4, d5] => { results := [.lit (.bool true)], args := [d1, d2, d3, d4, d5] }
  | _ => none }
def wordBytesRow : OpenClaim := { program := "ytlognooioemenaa", sum := "e5a44e31acd97a0d9283a517b07267caa4f702396255cb813a2c404a350816cc", func := "platen/platenlaw01.WordBytes", spec := "wordBytes", apart := false }
def WordBytesSaid : Prop := wordBytesRow.holds Try.pinned (OpenSpec.ofChange wordBytesSpec)

/-- ITS FALSE NEIGHBOUR: 'it returns false'. Refute it at one input. -/
def wordBytesWrong : ChangeSpec := { name := "wordBytes", fn := fun _ => fun
  | [d1, d2, d3, d4, d5] => { results := [.lit (.bool false)], args := [d1, d2, d3, d4, d5] }
  | _ => none }
def WordBytesWrongFalsely : Prop := wordBytesRow.holds Try.pinned (OpenSpec.ofChange wordBytesWrong)

/-- 'platenlaw01.WordBits': WHATEVER THE INPUT: true; the input reads as it did. -/
def wordBitsSpec : ChangeSpec := { name := "wordBits", fn := fun _ => fun
  | [d1, d2, d3, d4] => { results := [.lit (.bool true)], args := [d1, d2, d3, d4] }
  | _ => none }
def wordBitsRow : OpenClaim := { program := "ytlognooioemenaa", sum := "e5a44e31acd97a0d9283a517b07267caa4f702396255cb813a2c404a350816cc", func := "platen/platenlaw01.WordBits", spec := "wordBits", apart := false }
def WordBitsSaid : Prop := wordBitsRow.holds Try.pinned (OpenSpec.ofChange wordBitsSpec)

/-- ITS FALSE NEIGHBOUR: 'it returns false'. Refute it at one input. -/
def wordBitsWrong : ChangeSpec := { name := "wordBits", fn := fun _ => fun
  | [d1, d2, d3, d4] => { results := [.lit (.bool false)], args := [d1, d2, d3, d4] }
  | _ => none }
def WordBitsWrongFalsely : Prop := wordBitsRow.holds Try.pinned (OpenSpec.ofChange wordBitsWrong)

/-- 'platenlaw01.WordBack': WHATEVER THE INPUT: true; the input reads as it did. -/
def wordBackSpec : ChangeSpec := { name := "wordBack", fn := fun _ => fun
  | [d1, d2, d3, d4, d5] => { results := [.lit (.bool true)], args := [d1, d2, d3, d4, d5] }
  | _ => none }
def wordBackRow : OpenClaim := { program := "ytlognooioemenaa", sum := "e5a44e31acd97a0d9283a517b07267caa4f702396255cb813a2c404a350816cc", func := "platen/platenlaw01.WordBack", spec := "wordBack", apart := false }
def WordBackSaid : Prop := wordBackRow.holds Try.pinned (OpenSpec.ofChange wordBackSpec)

/-- ITS FALSE NEIGHBOUR: 'it returns false'. Refute it at one input. -/
def wordBackWrong : ChangeSpec := { name := "wordBack", fn := fun _ => fun
  | [d1, d2, d3, d4, d5] => { results := [.lit (.bool false)], args := [d1, d2, d3, d4, d5] }
  | _ => none }
def WordBackWrongFalsely : Prop := wordBackRow.holds Try.pinned (OpenSpec.ofChange wordBackWrong)

/-- 'platenlaw01.WordTurns': WHATEVER THE INPUT: true; the input reads as it did. -/
def wordTurnsSpec : ChangeSpec := { name := "wordTurns", fn := fun _ => fun
  | [d1, d2, d3, d4] => { results := [.lit (.bool true)], args := [d1, d2, d3, d4] }
  | _ => none }
def wordTurnsRow : OpenClaim := { program := "ytlognooioemenaa", sum := "e5a44e31acd97a0d9283a517b07267caa4f702396255cb813a2c404a350816cc", func := "platen/platenlaw01.WordTurns", spec := "wordTurns", apart := false }
def WordTurnsSaid : Prop := wordTurnsRow.holds Try.pinned (OpenSpec.ofChange wordTurnsSpec)

/-- ITS FALSE NEIGHBOUR: 'it returns false'. Refute it at one input. -/
def wordTurnsWrong : ChangeSpec := { name := "wordTurns", fn := fun _ => fun
  | [d1, d2, d3, d4] => { results := [.lit (.bool false)], args := [d1, d2, d3, d4] }
  | _ => none }
def WordTurnsWrongFalsely : Prop := wordTurnsRow.holds Try.pinned (OpenSpec.ofChange wordTurnsWrong)

/-- 'platenlaw01.WordParts': WHATEVER THE INPUT: true; the input reads as it did. -/
def wordPartsSpec : ChangeSpec := { name := "wordParts", fn := fun _ => fun
  | [d1, d2, d3] => { results := [.lit (.bool true)], args := [d1, d2, d3] }
  | _ => none }
def wordPartsRow : OpenClaim := { program := "ytlognooioemenaa", sum := "e5a44e31acd97a0d9283a517b07267caa4f702396255cb813a2c404a350816cc", func := "platen/platenlaw01.WordParts", spec := "wordParts", apart := false }
def WordPartsSaid : Prop := wordPartsRow.holds Try.pinned (OpenSpec.ofChange wordPartsSpec)

/-- ITS FALSE NEIGHBOUR: 'it returns false'. Refute it at one input. -/
def wordPartsWrong : ChangeSpec := { name := "wordParts", fn := fun _ => fun
  | [d1, d2, d3] => { results := [.lit (.bool false)], args := [d1, d2, d3] }
  | _ => none }
def WordPartsWrongFalsely : Prop := wordPartsRow.holds Try.pinned (OpenSpec.ofChange wordPartsWrong)

/-- 'platenlaw01.WordOrder': WHATEVER THE INPUT: true; the input reads as it did. -/
def wordOrderSpec : ChangeSpec := { name := "wordOrder", fn := fun _ => fun
  | [d1, d2, d3, d4, d5, d6] => { results := [.lit (.bool true)], args := [d1, d2, d3, d4, d5, d6] }
  | _ => none }
def wordOrderRow : OpenClaim := { program := "ytlognooioemenaa", sum := "e5a44e31acd97a0d9283a517b07267caa4f702396255cb813a2c404a350816cc", func := "platen/platenlaw01.WordOrder", spec := "wordOrder", apart := false }
def WordOrderSaid : Prop := wordOrderRow.holds Try.pinned (OpenSpec.ofChange wordOrderSpec)

/-- ITS FALSE NEIGHBOUR: 'it returns false'. Refute it at one input. -/
def wordOrderWrong : ChangeSpec := { name := "wordOrder", fn := fun _ => fun
  | [d1, d2, d3, d4, d5, d6] => { results := [.lit (.bool false)], args := [d1, d2, d3, d4, d5, d6] }
  | _ => none }
def WordOrderWrongFalsely : Prop := wordOrderRow.holds Try.pinned (OpenSpec.ofChange wordOrderWrong)

/-- 'platenlaw03.BitrBack': WHATEVER THE INPUT: true; the input reads as it did. -/
def bitrBackSpec : ChangeSpec := { name := "bitrBack", fn := fun _ => fun
  | [d] => { results := [.lit (.bool true)], args := [d] }
  | _ => none }
def bitrBackRow : OpenClaim := { program := "ytlognooioemenaa", sum := "e5a44e31acd97a0d9283a517b07267caa4f702396255cb813a2c404a350816cc", func := "platen/platenlaw03.BitrBack", spec := "bitrBack", apart := false }
def BitrBackSaid : Prop := bitrBackRow.holds Try.pinned (OpenSpec.ofChange bitrBackSpec)

/-- ITS FALSE NEIGHBOUR: 'it returns false'. Refute it at one input. -/
def bitrBackWrong : ChangeSpec := { name := "bitrBack", fn := fun _ => fun
  | [d] => { results := [.lit (.bool false)], args := [d] }
  | _ => none }
def BitrBackWrongFalsely : Prop := bitrBackRow.holds Try.pinned (OpenSpec.ofChange bitrBackWrong)

/- THE SECOND FORM. 'bulk': how many values and letters a reading holds, each counted each time it is reached (what is shared counts as often as it is met; a slice's spare places count too). A statement '..UptoSaid' is the law's where the arguments, and the package variables that the reading takes, are together of bulk at most 1048576: NARROWER than '..Said'. Prove '..Said' where nothing that the law and all that it calls make is longer than what came in: it says more and counts as full. Else prove '..UptoSaid'. A law counts once. -/
mutual
def uptoBulk {H : Type} : DataW H → Nat
  | .lit (.string bytes) => bytes.length + 1
  | .lit _ => 1
  | .nil => 1
  | .ptr d => uptoBulk d + 1
  | .slice elems spare => uptoBulkAll elems + uptoBulkAll spare + 1
  | .agg parts => uptoBulkAll parts + 1
  | .iface _ d => uptoBulk d + 1
  | .map entries => uptoBulkEntries entries + 1
  | .held _ => 1
def uptoBulkAll {H : Type} : List (DataW H) → Nat
  | [] => 0
  | d :: r => uptoBulk d + uptoBulkAll r
def uptoBulkEntries {H : Type} : List (Lit × DataW H) → Nat
  | [] => 0
  | x :: r => uptoBulkEntry x + uptoBulkEntries r
def uptoBulkEntry {H : Type} : Lit × DataW H → Nat
  | (.string bytes, d) => bytes.length + uptoBulk d + 1
  | (_, d) => uptoBulk d + 1
 end
def uptoSmall : (H : Type) → List (DataW H) → Bool := fun _ ds => decide (uptoBulkAll ds ≤ 1048576)
def OpenSpec.upto (s : _root_.Go.ChangeSpec) : _root_.Go.OpenSpec := { _root_.Go.OpenSpec.ofChange s with cond := some uptoSmall }

/-- 'platenlaw03.BitrPieces', WHERE WHAT IT READS IS OF BULK AT MOST 1048576: true; the input reads as it did. -/
def bitrPiecesUptoRow : OpenClaim := { program := "ytlognooioemenaa", sum := "e5a44e31acd97a0d9283a517b07267caa4f702396255cb813a2c404a350816cc", func := "platen/platenlaw03.BitrPieces", spec := "bitrPieces", apart := false, narrowed := true }
def BitrPiecesUptoSaid : Prop := bitrPiecesUptoRow.holds Try.pinned (OpenSpec.upto bitrPiecesSpec)

/-- 'platenlaw02.BitwPieces', WHERE WHAT IT READS IS OF BULK AT MOST 1048576: true; the input reads as it did. -/
def bitwPiecesUptoRow : OpenClaim := { program := "ytlognooioemenaa", sum := "e5a44e31acd97a0d9283a517b07267caa4f702396255cb813a2c404a350816cc", func := "platen/platenlaw02.BitwPieces", spec := "bitwPieces", apart := false, narrowed := true }
def BitwPiecesUptoSaid : Prop := bitwPiecesUptoRow.holds Try.pinned (OpenSpec.upto bitwPiecesSpec)

/-- 'platenlaw02.BitwStays', WHERE WHAT IT READS IS OF BULK AT MOST 1048576: true; the input reads as it did. -/
def bitwStaysUptoRow : OpenClaim := { program := "ytlognooioemenaa", sum := "e5a44e31acd97a0d9283a517b07267caa4f702396255cb813a2c404a350816cc", func := "platen/platenlaw02.BitwStays", spec := "bitwStays", apart := false, narrowed := true }
def BitwStaysUptoSaid : Prop := bitwStaysUptoRow.holds Try.pinned (OpenSpec.upto bitwStaysSpec)

/-- 'platenlaw02.BitwRoom', WHERE WHAT IT READS IS OF BULK AT MOST 1048576: true; the input reads as it did. -/
def bitwRoomUptoRow : OpenClaim := { program := "ytlognooioemenaa", sum := "e5a44e31acd97a0d9283a517b07267caa4f702396255cb813a2c404a350816cc", func := "platen/platenlaw02.BitwRoom", spec := "bitwRoom", apart := false, narrowed := true }
def BitwRoomUptoSaid : Prop := bitwRoomUptoRow.holds Try.pinned (OpenSpec.upto bitwRoomSpec)

/-- 'platenlaw02.BitwPlays', WHERE WHAT IT READS IS OF BULK AT MOST 1048576: true; the input reads as it did. -/
def bitwPlaysUptoRow : OpenClaim := { program := "ytlognooioemenaa", sum := "e5a44e31acd97a0d9283a517b07267caa4f702396255cb813a2c404a350816cc", func := "platen/platenlaw02.BitwPlays", spec := "bitwPlays", apart := false, narrowed := true }
def BitwPlaysUptoSaid : Prop := bitwPlaysUptoRow.holds Try.pinned (OpenSpec.upto bitwPlaysSpec)

/-- 'platenlaw02.BitwNil', WHERE WHAT IT READS IS OF BULK AT MOST 1048576: true; the input reads as it did. -/
def bitwNilUptoRow : OpenClaim := { program := "ytlognooioemenaa", sum := "e5a44e31acd97a0d9283a517b07267caa4f702396255cb813a2c404a350816cc", func := "platen/platenlaw02.BitwNil", spec := "bitwNil", apart := false, narrowed := true }
def BitwNilUptoSaid : Prop := bitwNilUptoRow.holds Try.pinned (OpenSpec.upto bitwNilSpec)

/-- 'platenlaw03.BitrPlays', WHERE WHAT IT READS IS OF BULK AT MOST 1048576: true; the input reads as it did. -/
def bitrPlaysUptoRow : OpenClaim := { program := "ytlognooioemenaa", sum := "e5a44e31acd97a0d9283a517b07267caa4f702396255cb813a2c404a350816cc", func := "platen/platenlaw03.BitrPlays", spec := "bitrPlays", apart := false, narrowed := true }
def BitrPlaysUptoSaid : Prop := bitrPlaysUptoRow.holds Try.pinned (OpenSpec.upto bitrPlaysSpec)

/-- 'platenlaw03.BitrNil', WHERE WHAT IT READS IS OF BULK AT MOST 1048576: true; the input reads as it did. -/
def bitrNilUptoRow : OpenClaim := { program := "ytlognooioemenaa", sum := "e5a44e31acd97a0d9283a517b07267caa4f702396255cb813a2c404a350816cc", func := "platen/platenlaw03.BitrNil", spec := "bitrNil", apart := false, narrowed := true }
def BitrNilUptoSaid : Prop := bitrNilUptoRow.holds Try.pinned (OpenSpec.upto bitrNilSpec)

/-- 'platenlaw03.BitrWhole', WHERE WHAT IT READS IS OF BULK AT MOST 1048576: true; the input reads as it did. -/
def bitrWholeUptoRow : OpenClaim := { program := "ytlognooioemenaa", sum := "e5a44e31acd97a0d9283a517b07267caa4f702396255cb813a2c404a350816cc", func := "platen/platenlaw03.BitrWhole", spec := "bitrWhole", apart := false, narrowed := true }
def BitrWholeUptoSaid : Prop := bitrWholeUptoRow.holds Try.pinned (OpenSpec.upto bitrWholeSpec)

/-- 'platenlaw01.WordBytes', WHERE WHAT IT READS IS OF BULK AT MOST 1048576: true; the input reads as it did. -/
def wordBytesUptoRow : OpenClaim := { program := "ytlognooioemenaa", sum := "e5a44e31acd97a0d9283a517b07267caa4f702396255cb813a2c404a350816cc", func := "platen/platenlaw01.WordBytes", spec := "wordBytes", apart := false, narrowed := true }
def WordBytesUptoSaid : Prop := wordBytesUptoRow.holds Try.pinned (OpenSpec.upto wordBytesSpec)

/-- 'platenlaw01.WordBits', WHERE WHAT IT READS IS OF BULK AT MOST 1048576: true; the input reads as it did. -/
def wordBitsUptoRow : OpenClaim := { program := "ytlognooioemenaa", sum := "e5a44e31acd97a0d9283a517b07267caa4f702396255cb813a2c404a350816cc", func := "platen/platenlaw01.WordBits", spec := "wordBits", apart := false, narrowed := true }
def WordBitsUptoSaid : Prop := wordBitsUptoRow.holds Try.pinned (OpenSpec.upto wordBitsSpec)

/-- 'platenlaw01.WordBack', WHERE WHAT IT READS IS OF BULK AT MOST 1048576: true; the input reads as it did. -/
def wordBackUptoRow : OpenClaim := { program := "ytlognooioemenaa", sum := "e5a44e31acd97a0d9283a517b07267caa4f702396255cb813a2c404a350816cc", func := "platen/platenlaw01.WordBack", spec := "wordBack", apart := false, narrowed := true }
def WordBackUptoSaid : Prop := wordBackUptoRow.holds Try.pinned (OpenSpec.upto wordBackSpec)

/-- 'platenlaw01.WordTurns', WHERE WHAT IT READS IS OF BULK AT MOST 1048576: true; the input reads as it did. -/
def wordTurnsUptoRow : OpenClaim := { program := "ytlognooioemenaa", sum := "e5a44e31acd97a0d9283a517b07267caa4f702396255cb813a2c404a350816cc", func := "platen/platenlaw01.WordTurns", spec := "wordTurns", apart := false, narrowed := true }
def WordTurnsUptoSaid : Prop := wordTurnsUptoRow.holds Try.pinned (OpenSpec.upto wordTurnsSpec)

/-- 'platenlaw01.WordParts', WHERE WHAT IT READS IS OF BULK AT MOST 1048576: true; the input reads as it did. -/
def wordPartsUptoRow : OpenClaim := { program := "ytlognooioemenaa", sum := "e5a44e31acd97a0d9283a517b07267caa4f702396255cb813a2c404a350816cc", func := "platen/platenlaw01.WordParts", spec := "wordParts", apart := false, narrowed := true }
def WordPartsUptoSaid : Prop := wordPartsUptoRow.holds Try.pinned (OpenSpec.upto wordPartsSpec)

/-- 'platenlaw01.WordOrder', WHERE WHAT IT READS IS OF BULK AT MOST 1048576: true; the input reads as it did. -/
def wordOrderUptoRow : OpenClaim := { program := "ytlognooioemenaa", sum := "e5a44e31acd97a0d9283a517b07267caa4f702396255cb813a2c404a350816cc", func := "platen/platenlaw01.WordOrder", spec := "wordOrder", apart := false, narrowed := true }
def WordOrderUptoSaid : Prop := wordOrderUptoRow.holds Try.pinned (OpenSpec.upto wordOrderSpec)

/-- 'platenlaw03.BitrBack', WHERE WHAT IT READS IS OF BULK AT MOST 1048576: true; the input reads as it did. -/
def bitrBackUptoRow : OpenClaim := { program := "ytlognooioemenaa", sum := "e5a44e31acd97a0d9283a517b07267caa4f702396255cb813a2c404a350816cc", func := "platen/platenlaw03.BitrBack", spec := "bitrBack", apart := false, narrowed := true }
def BitrBackUptoSaid : Prop := bitrBackUptoRow.holds Try.pinned (OpenSpec.upto bitrBackSpec)

end Rows
end Go.Proofs.Ytlognooioemenaa
