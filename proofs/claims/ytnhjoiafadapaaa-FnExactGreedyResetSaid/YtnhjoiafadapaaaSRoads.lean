/- The reference's roads of an automaton. -/
import Derived.Test.YtnhjoiafadapaaaRows
import Derived.Test.YtnhjoiafadapaaaCore
import Derived.Test.YtnhjoiafadapaaaInfos
import Derived.Test.YtnhjoiafadapaaaPlains
import Derived.Test.YtnhjoiafadapaaaJoins
import Derived.Test.YtnhjoiafadapaaaSBase
import Derived.Test.YtnhjoiafadapaaaSSort
import Derived.WalkKit
import Derived.WalkSpells
import Derived.WalkLawsBesides
import Derived.Deep.QuietTactic
import Derived.Deep.OwnRows
import Derived.BigQuiet
import Derived.KernelRfl
import Derived.Deep.RegionLaw
namespace Go.Proofs.Ytnhjoiafadapaaa
open Go.RowKit

theorem cell_box (w : World) (z : Value) (T : TypeId) : (w.alloc (.cells #[z] T)).cell? ⟨w.heap.size, 0, none⟩ = some z := by unfold World.cell?; rw [heap_alloc_new]; rfl

end Go.Proofs.Ytnhjoiafadapaaa
