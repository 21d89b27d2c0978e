/- A closed fact of the program. -/
import Derived.Test.YtoioebhalpcipaaRows
import Derived.JoinedOf
import Derived.KernelRfl
import Derived.RowKit
namespace Go.Proofs.Ytoioebhalpcipaa
open Go.RowKit

theorem lifts_final : Try.prog.liftsFinal = Rows.fnExactShortestForRow.lifted := by kernel_rfl

end Go.Proofs.Ytoioebhalpcipaa
