/- The program's shortest words for a set and words to a set. -/
import Derived.Test.YtogfmmcapepcdaaRows
import Derived.Test.YtogfmmcapepcdaaCore
import Derived.Test.YtogfmmcapepcdaaInfo
import Derived.Test.YtogfmmcapepcdaaPlains
import Derived.Test.YtogfmmcapepcdaaMaps
import Derived.Test.YtogfmmcapepcdaaI01a
import Derived.Test.YtogfmmcapepcdaaI01b
import Derived.Test.YtogfmmcapepcdaaI01c
import Derived.Test.YtogfmmcapepcdaaIIdx
import Derived.Test.YtogfmmcapepcdaaIFlk
import Derived.Test.YtogfmmcapepcdaaITour
import Derived.Test.YtogfmmcapepcdaaIRen
import Derived.Test.YtogfmmcapepcdaaIFirst
import Derived.WalkKit
import Derived.WalkSpells
import Derived.WalkLawsBesides
import Derived.Deep.QuietTactic
import Derived.Deep.OwnRows
import Derived.BigQuiet
import Derived.KernelRfl
import Derived.Carry
import Derived.Deep.RegionHeld3
namespace Go.Proofs.Ytogfmmcapepcdaa
open Go.RowKit



end Go.Proofs.Ytogfmmcapepcdaa
