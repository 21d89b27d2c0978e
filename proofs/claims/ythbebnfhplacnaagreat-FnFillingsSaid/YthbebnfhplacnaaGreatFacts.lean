/- Parts of the proof that lean on no program: Facts1, Facts2, Facts3. -/
import Derived.Test.YthbebnfhplacnaaGreatRows
import Derived.WalkKit
import Derived.WalkSpells
import Derived.WalkLawsBesides
import Derived.Deep.QuietTactic
import Derived.Deep.OwnRows
import Derived.BigQuiet
import Derived.KernelRfl
import Derived.JoinedOf
import Derived.RowKit
namespace Go.Proofs.YthbebnfhplacnaaGreat
open Go.RowKit

section
theorem may_enter : Tryz.prog.mayEnter = true := by kernel_rfl
end
section
theorem lifts_final : Tryz.prog.liftsFinal = Rows.fnFillingsRow.lifted := by kernel_rfl
end
section
theorem make_is : Tryz.prog.make = some Rows.fnFillingsRow.make := by kernel_rfl
end

end Go.Proofs.YthbebnfhplacnaaGreat
