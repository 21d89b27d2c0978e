/- A closed fact of the program. -/
import Derived.Test.YtcjmcpfdpnakkaaRows
import Derived.JoinedOf
import Derived.KernelRfl
import Derived.RowKit
namespace Go.Proofs.Ytcjmcpfdpnakkaa
open Go.RowKit

theorem make_is : Try.prog.make = some Rows.fnExactMachineDifferenceRow.make := by kernel_rfl

end Go.Proofs.Ytcjmcpfdpnakkaa
