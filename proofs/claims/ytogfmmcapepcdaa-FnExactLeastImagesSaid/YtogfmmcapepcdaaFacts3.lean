/- A closed fact of the program. -/
import Derived.Test.YtogfmmcapepcdaaRows
import Derived.JoinedOf
import Derived.KernelRfl
import Derived.RowKit
namespace Go.Proofs.Ytogfmmcapepcdaa
open Go.RowKit

theorem make_is : Try.prog.make = some Rows.fnExactLeastImagesRow.make := by kernel_rfl

end Go.Proofs.Ytogfmmcapepcdaa
