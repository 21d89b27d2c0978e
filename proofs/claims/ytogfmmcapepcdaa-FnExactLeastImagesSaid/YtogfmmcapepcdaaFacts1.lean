/- A closed fact of the program. -/
import Derived.Test.YtogfmmcapepcdaaRows
import Derived.JoinedOf
import Derived.KernelRfl
import Derived.RowKit
namespace Go.Proofs.Ytogfmmcapepcdaa
open Go.RowKit

theorem may_enter : Try.prog.mayEnter = true := by kernel_rfl

end Go.Proofs.Ytogfmmcapepcdaa
