/- A closed fact of the program. -/
import Derived.Test.YtnoajdhofdfafaaRows
import Derived.JoinedOf
import Derived.KernelRfl
import Derived.RowKit
namespace Go.Proofs.Ytnoajdhofdfafaa
open Go.RowKit

theorem may_enter : Try.prog.mayEnter = true := by kernel_rfl

end Go.Proofs.Ytnoajdhofdfafaa
