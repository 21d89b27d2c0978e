/- The reference's test of roads, and of colourings of them. -/
import Derived.Test.YtnhjoiafadapaaaRows
import Derived.Test.YtnhjoiafadapaaaCore
import Derived.Test.YtnhjoiafadapaaaInfos
import Derived.Test.YtnhjoiafadapaaaPlains
import Derived.Test.YtnhjoiafadapaaaJoins
import Derived.Test.YtnhjoiafadapaaaSBase
import Derived.Test.YtnhjoiafadapaaaSSort
import Derived.Test.YtnhjoiafadapaaaSRoads
import Derived.WalkKit
import Derived.WalkSpells
import Derived.WalkLawsBesides
import Derived.Deep.QuietTactic
import Derived.Deep.OwnRows
import Derived.BigQuiet
import Derived.KernelRfl
namespace Go.Proofs.Ytnhjoiafadapaaa
open Go.RowKit



end Go.Proofs.Ytnhjoiafadapaaa
