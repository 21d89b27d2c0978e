/- A closed fact of the program. -/
import Derived.Test.YtdaaglfemaoigaaRows
import Derived.JoinedOf
import Derived.KernelRfl
import Derived.RowKit
namespace Go.Proofs.Ytdaaglfemaoigaa
open Go.RowKit

theorem lifts_final : Try.prog.liftsFinal = Rows.fnExactSwapColoursRow.lifted := by kernel_rfl

end Go.Proofs.Ytdaaglfemaoigaa
