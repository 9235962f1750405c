/- A copy of a term: its rows lie apart. -/
import Derived.Test.YtekddgkgeaolnaaMt
namespace Go.Proofs.Ytekddgkgeaolnaa
open Go Go.Vc Go.RowKit
set_option linter.unusedVariables false

abbrev zt : List Value := [.int .i64 0, .int .i64 0, .int .i64 0, .string ByteArray.empty, .slice none 0 0]
end Go.Proofs.Ytekddgkgeaolnaa
