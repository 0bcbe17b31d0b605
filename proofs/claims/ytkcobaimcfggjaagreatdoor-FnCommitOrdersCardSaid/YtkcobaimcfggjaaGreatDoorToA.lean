/- The conversions of the laws package make new memory that reads as their argument: ints, spans, operations, edges. -/
import Derived.Test.YtkcobaimcfggjaaGreatDoorProg
import Derived.Test.YtkcobaimcfggjaaGreatDoorBase
import Derived.Test.YtkcobaimcfggjaaGreatDoorElems
namespace Go.Proofs.YtkcobaimcfggjaaGreatDoor
open Go.RowKit

theorem infoInt_ : (Tryz.prog.info? 3).map (fun i => (i.zero, i.size, i.bytes)) = some (some (.int .i64 0), 1, 8) := by kernel_rfl
theorem infoOp_ : (Tryz.prog.info? 73).map (fun i => (i.zero, i.size, i.bytes)) = some (some (.agg #[.int .i64 0, .int .i64 0, .int .i64 0]), 3, 24) := by kernel_rfl
theorem infoEdge_ : (Tryz.prog.info? 67).map (fun i => (i.zero, i.size, i.bytes)) = some (some (.agg #[.int .i64 0, .int .i64 0, .int .i64 0]), 3, 24) := by kernel_rfl
end Go.Proofs.YtkcobaimcfggjaaGreatDoor
