/- A closed fact of the program. -/
import Derived.Test.YtheimpgjkfphnaaRows
import Derived.JoinedOf
import Derived.KernelRfl
import Derived.RowKit
namespace Go.Proofs.Ytheimpgjkfphnaa
open Go.RowKit

theorem lifts_final : Try.prog.liftsFinal = Rows.fnExactSwapColoursRow.lifted := by kernel_rfl

end Go.Proofs.Ytheimpgjkfphnaa
