/- Parts of the proof that lean on no program: I01d, I01e. -/
import Derived.Test.YtoeckejcmojeaaaRows
import Derived.Test.YtoeckejcmojeaaaCore
import Derived.Test.YtoeckejcmojeaaaPlains
import Derived.Test.YtoeckejcmojeaaaPQuos
import Derived.Test.YtoeckejcmojeaaaIBase
import Derived.Test.YtoeckejcmojeaaaI01c
import Derived.WalkKit
import Derived.WalkSpells
import Derived.WalkLawsBesides
import Derived.Deep.QuietTactic
import Derived.Deep.OwnRows
import Derived.BigQuiet
import Derived.KernelRfl
namespace Go.Proofs.Ytoeckejcmojeaaa
open Go.RowKit

section
theorem max_used (u c : Int) (h : 0 ≤ c ∧ c ≤ u) : (if u < c + 1 then c + 1 else u) = if c = u then u + 1 else u := by
  split <;> split <;> omega
end
section
end

end Go.Proofs.Ytoeckejcmojeaaa
