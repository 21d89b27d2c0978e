/- The program's partial automata, and where words lead in them. -/
import Derived.Test.YtnoajdhofdfafaaRows
import Derived.Test.YtnoajdhofdfafaaBase
import Derived.Test.YtnoajdhofdfafaaAut
import Derived.Test.YtnoajdhofdfafaaApp
import Derived.Test.YtnoajdhofdfafaaInfo
import Derived.Test.YtnoajdhofdfafaaPlain1
import Derived.Test.YtnoajdhofdfafaaPlainRun
import Derived.Test.YtnoajdhofdfafaaPlainSet
import Derived.Test.YtnoajdhofdfafaaPlainBits
import Derived.Test.YtnoajdhofdfafaaPlainPart
import Derived.Test.YtnoajdhofdfafaaI01a
import Derived.Test.YtnoajdhofdfafaaI01b
import Derived.Test.YtnoajdhofdfafaaIFlk
import Derived.WalkKit
import Derived.WalkSpells
import Derived.WalkLawsBesides
import Derived.Deep.QuietTactic
import Derived.Deep.OwnRows
import Derived.BigQuiet
import Derived.KernelRfl
import Derived.Deep.RegionHeld3
namespace Go.Proofs.Ytnoajdhofdfafaa
open Go.RowKit



end Go.Proofs.Ytnoajdhofdfafaa
