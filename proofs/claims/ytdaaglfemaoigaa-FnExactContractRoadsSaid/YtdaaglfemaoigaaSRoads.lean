/- The reference's roads of an automaton. -/
import Derived.Test.YtdaaglfemaoigaaRows
import Derived.Test.YtdaaglfemaoigaaBase
import Derived.Test.YtdaaglfemaoigaaAut
import Derived.Test.YtdaaglfemaoigaaApp
import Derived.Test.YtdaaglfemaoigaaAppRows
import Derived.Test.YtdaaglfemaoigaaAppStep
import Derived.Test.YtdaaglfemaoigaaInfo
import Derived.Test.YtdaaglfemaoigaaPlain1
import Derived.Test.YtdaaglfemaoigaaPlainRun
import Derived.Test.YtdaaglfemaoigaaPlainSet
import Derived.Test.YtdaaglfemaoigaaPlainSort
import Derived.Test.YtdaaglfemaoigaaOwnC
import Derived.Test.YtdaaglfemaoigaaS00b
import Derived.Test.YtdaaglfemaoigaaSSort
import Derived.WalkKit
import Derived.WalkSpells
import Derived.WalkLawsBesides
import Derived.Deep.QuietTactic
import Derived.Deep.OwnRows
import Derived.BigQuiet
import Derived.KernelRfl
import Derived.Deep.RegionLaw
namespace Go.Proofs.Ytdaaglfemaoigaa
open Go.RowKit

theorem cell_box (w : World) (z : Value) (T : TypeId) : (w.alloc (.cells #[z] T)).cell? ⟨w.heap.size, 0, none⟩ = some z := by unfold World.cell?; rw [heap_alloc_new]; rfl

end Go.Proofs.Ytdaaglfemaoigaa
