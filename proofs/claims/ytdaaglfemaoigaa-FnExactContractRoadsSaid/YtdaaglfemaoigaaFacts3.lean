/- A closed fact of the program. -/
import Derived.Test.YtdaaglfemaoigaaRows
import Derived.JoinedOf
import Derived.KernelRfl
import Derived.RowKit
namespace Go.Proofs.Ytdaaglfemaoigaa
open Go.RowKit

theorem make_is : Try.prog.make = some Rows.fnExactSwapColoursRow.make := by kernel_rfl

end Go.Proofs.Ytdaaglfemaoigaa
