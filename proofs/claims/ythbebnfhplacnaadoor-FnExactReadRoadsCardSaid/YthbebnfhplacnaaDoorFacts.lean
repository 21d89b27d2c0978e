/- Parts of the proof that lean on no program: Facts1, Facts2, Facts3. -/
import Derived.Test.YthbebnfhplacnaaDoorRows
import Derived.WalkKit
import Derived.WalkSpells
import Derived.WalkLawsBesides
import Derived.Deep.QuietTactic
import Derived.Deep.OwnRows
import Derived.BigQuiet
import Derived.KernelRfl
import Derived.JoinedOf
import Derived.RowKit
namespace Go.Proofs.YthbebnfhplacnaaDoor
open Go.RowKit

section
theorem may_enter : Tryd.prog.mayEnter = true := by kernel_rfl
end
section
theorem lifts_final : Tryd.prog.liftsFinal = Rows.fnExactReadRoadsRow.lifted := by kernel_rfl
end
section
theorem make_is : Tryd.prog.make = some Rows.fnExactReadRoadsRow.make := by kernel_rfl
end

end Go.Proofs.YthbebnfhplacnaaDoor
