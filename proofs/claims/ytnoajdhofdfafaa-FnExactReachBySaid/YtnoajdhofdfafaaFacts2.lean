/- A closed fact of the program. -/
import Derived.Test.YtnoajdhofdfafaaRows
import Derived.JoinedOf
import Derived.KernelRfl
import Derived.RowKit
namespace Go.Proofs.Ytnoajdhofdfafaa
open Go.RowKit

theorem lifts_final : Try.prog.liftsFinal = Rows.fnExactSwapColoursRow.lifted := by kernel_rfl

end Go.Proofs.Ytnoajdhofdfafaa
