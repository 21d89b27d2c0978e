/- A closed fact of the program. -/
import Derived.Test.YtcjmcpfdpnakkaaRows
import Derived.JoinedOf
import Derived.KernelRfl
import Derived.RowKit
namespace Go.Proofs.Ytcjmcpfdpnakkaa
open Go.RowKit

theorem may_enter : Try.prog.mayEnter = true := by kernel_rfl

end Go.Proofs.Ytcjmcpfdpnakkaa
