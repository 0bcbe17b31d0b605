/- The conversions of the laws package make new memory that reads as their argument: ints, spans, operations, edges. -/
import Derived.Test.YtnlicjgegclilaaDoorProg
import Derived.Test.YtnlicjgegclilaaDoorBase
import Derived.Test.YtnlicjgegclilaaDoorElems
namespace Go.Proofs.YtnlicjgegclilaaDoor
open Go.RowKit

theorem infoInt_ : (Tryd.prog.info? 3).map (fun i => (i.zero, i.size, i.bytes)) = some (some (.int .i64 0), 1, 8) := by kernel_rfl
theorem infoOp_ : (Tryd.prog.info? 53).map (fun i => (i.zero, i.size, i.bytes)) = some (some (.agg #[.int .i64 0, .int .i64 0, .int .i64 0]), 3, 24) := by kernel_rfl
theorem infoEdge_ : (Tryd.prog.info? 49).map (fun i => (i.zero, i.size, i.bytes)) = some (some (.agg #[.int .i64 0, .int .i64 0, .int .i64 0]), 3, 24) := by kernel_rfl
end Go.Proofs.YtnlicjgegclilaaDoor
