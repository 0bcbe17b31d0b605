/- The conversions of the laws package make new memory that reads as their argument: calls, lists of lists, drafts. -/
import Derived.Test.YtaaagoppecnmmaaDoorProg
import Derived.Test.YtaaagoppecnmmaaDoorBase
import Derived.Test.YtaaagoppecnmmaaDoorElems
import Derived.Test.YtaaagoppecnmmaaDoorToA
namespace Go.Proofs.YtaaagoppecnmmaaDoor
open Go.RowKit

theorem infoIntS_ : (Tryd.prog.info? 30).map (fun i => (i.zero, i.size, i.bytes)) = some (some (.slice none 0 0), 1, 24) := by kernel_rfl
end Go.Proofs.YtaaagoppecnmmaaDoor
