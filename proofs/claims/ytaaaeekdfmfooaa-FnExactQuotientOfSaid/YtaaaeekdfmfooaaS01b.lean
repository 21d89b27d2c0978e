/- The reference's action of a word. -/
import Derived.Test.YtaaaeekdfmfooaaRows
import Derived.Test.YtaaaeekdfmfooaaBase
import Derived.Test.YtaaaeekdfmfooaaAut
import Derived.Test.YtaaaeekdfmfooaaApp
import Derived.Test.YtaaaeekdfmfooaaPlain1
import Derived.Test.YtaaaeekdfmfooaaPlainRun
import Derived.Test.YtaaaeekdfmfooaaS01a
import Derived.Test.YtaaaeekdfmfooaaInfo
import Derived.WalkKit
import Derived.WalkSpells
import Derived.WalkLawsBesides
import Derived.Deep.QuietTactic
import Derived.Deep.OwnRows
import Derived.BigQuiet
import Derived.KernelRfl
namespace Go.Proofs.Ytaaaeekdfmfooaa
open Go.RowKit



end Go.Proofs.Ytaaaeekdfmfooaa
