/- The reference's lists in order. -/
import Derived.Test.YtnhjoiafadapaaaRows
import Derived.Test.YtnhjoiafadapaaaCore
import Derived.Test.YtnhjoiafadapaaaInfos
import Derived.Test.YtnhjoiafadapaaaPlains
import Derived.Test.YtnhjoiafadapaaaJoins
import Derived.Test.YtnhjoiafadapaaaSOwn
import Derived.WalkKit
import Derived.WalkSpells
import Derived.WalkLawsBesides
import Derived.Deep.QuietTactic
import Derived.Deep.OwnRows
import Derived.BigQuiet
import Derived.KernelRfl
namespace Go.Proofs.Ytnhjoiafadapaaa
open Go.RowKit



end Go.Proofs.Ytnhjoiafadapaaa
