/- The reference's copies of transactions. -/
import Derived.Test.YtmlbfhknapkhgaaDoorPut
import Derived.Test.YtmlbfhknapkhgaaDoorToC
import Derived.Test.YtmlbfhknapkhgaaDoorElems
import Derived.Test.YtmlbfhknapkhgaaDoorRanges
namespace Go.Proofs.YtmlbfhknapkhgaaDoor
open Go.RowKit
set_option linter.unusedVariables false
set_option linter.unusedSimpArgs false

theorem infoOpT : (Tryd.prog.info? 95).map (fun i => (i.zero, i.size, i.bytes)) = some (some (.agg #[.int .i64 0, .int .i64 0, .int .i64 0]), 3, 24) := by kernel_rfl
end Go.Proofs.YtmlbfhknapkhgaaDoor
