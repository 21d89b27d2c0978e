/- A closed fact of the program. -/
import Derived.Test.YtcjmcpfdpnakkaaRows
import Derived.JoinedOf
import Derived.KernelRfl
import Derived.RowKit
namespace Go.Proofs.Ytcjmcpfdpnakkaa
open Go.RowKit

theorem lifts_final : Try.prog.liftsFinal = Rows.fnExactMachineDifferenceRow.lifted := by kernel_rfl

end Go.Proofs.Ytcjmcpfdpnakkaa
