/- The program's shortest words for a set and words to a set. -/
import Derived.Test.YtcjmcpfdpnakkaaRows
import Derived.Test.YtcjmcpfdpnakkaaCore
import Derived.Test.YtcjmcpfdpnakkaaInfo
import Derived.Test.YtcjmcpfdpnakkaaPlains
import Derived.Test.YtcjmcpfdpnakkaaMaps
import Derived.Test.YtcjmcpfdpnakkaaI01a
import Derived.Test.YtcjmcpfdpnakkaaI01b
import Derived.Test.YtcjmcpfdpnakkaaI01c
import Derived.Test.YtcjmcpfdpnakkaaIIdx
import Derived.Test.YtcjmcpfdpnakkaaIFlk
import Derived.Test.YtcjmcpfdpnakkaaITour
import Derived.Test.YtcjmcpfdpnakkaaIRen
import Derived.Test.YtcjmcpfdpnakkaaIFirst
import Derived.WalkKit
import Derived.WalkSpells
import Derived.WalkLawsBesides
import Derived.Deep.QuietTactic
import Derived.Deep.OwnRows
import Derived.BigQuiet
import Derived.KernelRfl
import Derived.Carry
import Derived.Deep.RegionHeld3
namespace Go.Proofs.Ytcjmcpfdpnakkaa
open Go.RowKit



end Go.Proofs.Ytcjmcpfdpnakkaa
