/- Slices of structs that come in: the structs of chapters 02 and 03. -/
import Derived.Test.YtciejmlhdmjajaaGreatKSo
namespace Go.Proofs.YtciejmlhdmjajaaGreat
open Go.RowKit
set_option linter.unusedVariables false
set_option linter.unusedSimpArgs false

/-! ### the structs of chapters 02 and 03 -/
structure Call03 where
  act : Int
  n : Int
def Call03.enc (c : Call03) : List Value := [.int .u8 c.act, .int .i64 c.n]
def Call03.sz : Nat := 2
def Call03.ok (c : Call03) : Prop := (0 ≤ c.act ∧ c.act ≤ 255) ∧ (-9223372036854775808 ≤ c.n ∧ c.n ≤ 9223372036854775807)

end Go.Proofs.YtciejmlhdmjajaaGreat

