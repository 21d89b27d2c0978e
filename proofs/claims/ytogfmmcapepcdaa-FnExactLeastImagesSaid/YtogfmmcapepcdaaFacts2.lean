/- A closed fact of the program. -/
import Derived.Test.YtogfmmcapepcdaaRows
import Derived.JoinedOf
import Derived.KernelRfl
import Derived.RowKit
namespace Go.Proofs.Ytogfmmcapepcdaa
open Go.RowKit

theorem lifts_final : Try.prog.liftsFinal = Rows.fnExactLeastImagesRow.lifted := by kernel_rfl

end Go.Proofs.Ytogfmmcapepcdaa
