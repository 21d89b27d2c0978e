/- The program's roads of which an automaton is a colouring. -/
import Derived.Test.YtdaaglfemaoigaaRows
import Derived.Test.YtdaaglfemaoigaaBase
import Derived.Test.YtdaaglfemaoigaaAut
import Derived.Test.YtdaaglfemaoigaaApp
import Derived.Test.YtdaaglfemaoigaaAppRows
import Derived.Test.YtdaaglfemaoigaaAppStep
import Derived.Test.YtdaaglfemaoigaaInfo
import Derived.Test.YtdaaglfemaoigaaPlain1
import Derived.Test.YtdaaglfemaoigaaPlainRun
import Derived.Test.YtdaaglfemaoigaaPlainSet
import Derived.Test.YtdaaglfemaoigaaPlainSort
import Derived.Test.YtdaaglfemaoigaaOwnC
import Derived.Test.YtdaaglfemaoigaaI01a
import Derived.Test.YtdaaglfemaoigaaI01b
import Derived.Test.YtdaaglfemaoigaaISort
import Derived.WalkKit
import Derived.WalkSpells
import Derived.WalkLawsBesides
import Derived.Deep.QuietTactic
import Derived.Deep.OwnRows
import Derived.BigQuiet
import Derived.KernelRfl
import Derived.Deep.RegionHeld3
namespace Go.Proofs.Ytdaaglfemaoigaa
open Go.RowKit



end Go.Proofs.Ytdaaglfemaoigaa
