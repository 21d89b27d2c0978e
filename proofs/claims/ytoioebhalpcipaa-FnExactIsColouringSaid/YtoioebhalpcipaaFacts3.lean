/- A closed fact of the program. -/
import Derived.Test.YtoioebhalpcipaaRows
import Derived.JoinedOf
import Derived.KernelRfl
import Derived.RowKit
namespace Go.Proofs.Ytoioebhalpcipaa
open Go.RowKit

theorem make_is : Try.prog.make = some Rows.fnExactShortestForRow.make := by kernel_rfl

end Go.Proofs.Ytoioebhalpcipaa
