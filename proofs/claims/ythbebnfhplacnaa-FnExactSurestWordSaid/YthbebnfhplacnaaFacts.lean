/- Parts of the proof that lean on no program: Facts1, Facts2, Facts3. -/
import Derived.Test.YthbebnfhplacnaaRows
import Derived.WalkKit
import Derived.WalkSpells
import Derived.WalkLawsBesides
import Derived.Deep.QuietTactic
import Derived.Deep.OwnRows
import Derived.BigQuiet
import Derived.KernelRfl
import Derived.JoinedOf
import Derived.RowKit
namespace Go.Proofs.Ythbebnfhplacnaa
open Go.RowKit

section
theorem may_enter : Try.prog.mayEnter = true := by kernel_rfl
end
section
theorem lifts_final : Try.prog.liftsFinal = Rows.fnExactSurestWordRow.lifted := by kernel_rfl
end
section
theorem make_is : Try.prog.make = some Rows.fnExactSurestWordRow.make := by kernel_rfl
end

end Go.Proofs.Ythbebnfhplacnaa
