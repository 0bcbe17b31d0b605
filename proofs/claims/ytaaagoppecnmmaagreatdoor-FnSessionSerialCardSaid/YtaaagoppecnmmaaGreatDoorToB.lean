/- The conversions of the laws package make new memory that reads as their argument: calls, lists of lists, drafts. -/
import Derived.Test.YtaaagoppecnmmaaGreatDoorProg
import Derived.Test.YtaaagoppecnmmaaGreatDoorBase
import Derived.Test.YtaaagoppecnmmaaGreatDoorElems
import Derived.Test.YtaaagoppecnmmaaGreatDoorToA
namespace Go.Proofs.YtaaagoppecnmmaaGreatDoor
open Go.RowKit

theorem infoIntS_ : (Tryz.prog.info? 27).map (fun i => (i.zero, i.size, i.bytes)) = some (some (.slice none 0 0), 1, 24) := by kernel_rfl
end Go.Proofs.YtaaagoppecnmmaaGreatDoor
