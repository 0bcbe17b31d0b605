/- The conversions of the laws package make new memory that reads as their argument: calls, lists of lists, drafts. -/
import Derived.Test.YtkcobaimcfggjaaGreatDoorProg
import Derived.Test.YtkcobaimcfggjaaGreatDoorBase
import Derived.Test.YtkcobaimcfggjaaGreatDoorElems
import Derived.Test.YtkcobaimcfggjaaGreatDoorToA
namespace Go.Proofs.YtkcobaimcfggjaaGreatDoor
open Go.RowKit

theorem infoIntS_ : (Tryz.prog.info? 30).map (fun i => (i.zero, i.size, i.bytes)) = some (some (.slice none 0 0), 1, 24) := by kernel_rfl
end Go.Proofs.YtkcobaimcfggjaaGreatDoor
