/- The conversions of the laws package make new memory that reads as their argument: calls, lists of lists, drafts. -/
import Derived.Test.YtpcghfeiehdapaaDoorProg
import Derived.Test.YtpcghfeiehdapaaDoorBase
import Derived.Test.YtpcghfeiehdapaaDoorElems
import Derived.Test.YtpcghfeiehdapaaDoorToA
namespace Go.Proofs.YtpcghfeiehdapaaDoor
open Go.RowKit

theorem infoCall_ : (Tryd.prog.info? 37).map (fun i => (i.zero, i.size, i.bytes)) = some (some (.agg #[.int .i64 0, .int .i64 0, .int .i64 0, .int .i64 0]), 4, 32) := by kernel_rfl
theorem infoIntS_ : (Tryd.prog.info? 24).map (fun i => (i.zero, i.size, i.bytes)) = some (some (.slice none 0 0), 1, 24) := by kernel_rfl
end Go.Proofs.YtpcghfeiehdapaaDoor
