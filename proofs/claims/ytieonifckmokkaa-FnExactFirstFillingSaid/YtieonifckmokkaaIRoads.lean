/- The program's roads of which an automaton is a colouring. -/
import Derived.Test.YtieonifckmokkaaRows
import Derived.Test.YtieonifckmokkaaCore
import Derived.Test.YtieonifckmokkaaInfos
import Derived.Test.YtieonifckmokkaaPlains
import Derived.Test.YtieonifckmokkaaJoins
import Derived.Test.YtieonifckmokkaaIBase
import Derived.Test.YtieonifckmokkaaISort
import Derived.WalkKit
import Derived.WalkSpells
import Derived.WalkLawsBesides
import Derived.Deep.QuietTactic
import Derived.Deep.OwnRows
import Derived.BigQuiet
import Derived.KernelRfl
import Derived.Deep.RegionHeld3
namespace Go.Proofs.Ytieonifckmokkaa
open Go.RowKit



end Go.Proofs.Ytieonifckmokkaa
