/- Parts of the proof that lean on no program: SSort, SRoads, S05a. -/
import Derived.Test.YtoeckejcmojeaaaRows
import Derived.Test.YtoeckejcmojeaaaCore
import Derived.Test.YtoeckejcmojeaaaInfos
import Derived.Test.YtoeckejcmojeaaaPlains
import Derived.Test.YtoeckejcmojeaaaJoins
import Derived.Test.YtoeckejcmojeaaaSOwn
import Derived.Test.YtoeckejcmojeaaaSBase
import Derived.WalkKit
import Derived.WalkSpells
import Derived.WalkLawsBesides
import Derived.Deep.QuietTactic
import Derived.Deep.OwnRows
import Derived.BigQuiet
import Derived.KernelRfl
import Derived.Deep.RegionLaw
namespace Go.Proofs.Ytoeckejcmojeaaa
open Go.RowKit

section
end
section
theorem cell_box (w : World) (z : Value) (T : TypeId) : (w.alloc (.cells #[z] T)).cell? ⟨w.heap.size, 0, none⟩ = some z := by unfold World.cell?; rw [heap_alloc_new]; rfl
end
section
end

end Go.Proofs.Ytoeckejcmojeaaa
