/- slices.Index and slices.Contains at lists of numbers; the program's test of sets. -/
import Derived.Test.YtogfmmcapepcdaaRows
import Derived.Test.YtogfmmcapepcdaaCore
import Derived.Test.YtogfmmcapepcdaaPlains
import Derived.Test.YtogfmmcapepcdaaI01a
import Derived.WalkKit
import Derived.WalkSpells
import Derived.WalkLawsBesides
import Derived.Deep.QuietTactic
import Derived.Deep.OwnRows
import Derived.BigQuiet
import Derived.KernelRfl
namespace Go.Proofs.Ytogfmmcapepcdaa
open Go.RowKit



end Go.Proofs.Ytogfmmcapepcdaa
