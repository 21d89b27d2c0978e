/- Whether a division is a congruence, by the reference and by the program. -/
import Derived.Test.YtoeckejcmojeaaaRows
import Derived.Test.YtoeckejcmojeaaaCore
import Derived.Test.YtoeckejcmojeaaaPlains
import Derived.Test.YtoeckejcmojeaaaPQuos
import Derived.Test.YtoeckejcmojeaaaSBase
import Derived.Test.YtoeckejcmojeaaaSDivs
import Derived.Test.YtoeckejcmojeaaaIBase
import Derived.Test.YtoeckejcmojeaaaI01c
import Derived.Test.YtoeckejcmojeaaaIDivs
import Derived.WalkKit
import Derived.WalkSpells
import Derived.WalkLawsBesides
import Derived.Deep.QuietTactic
import Derived.Deep.OwnRows
import Derived.BigQuiet
import Derived.KernelRfl
namespace Go.Proofs.Ytoeckejcmojeaaa
open Go.RowKit

theorem IsCongruence_code (a : Aut) (cl : List Int) : codeOf (autOk a) (isDiv cl a.n) = (IsCongruence a cl).2 := by
  unfold codeOf IsCongruence
  split
  · split <;> rfl
  · rfl

end Go.Proofs.Ytoeckejcmojeaaa
