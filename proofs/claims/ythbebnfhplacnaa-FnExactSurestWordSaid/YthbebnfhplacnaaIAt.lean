/- The program's colouring with a number. -/
import Derived.Test.YthbebnfhplacnaaRows
import Derived.Test.YthbebnfhplacnaaCore
import Derived.Test.YthbebnfhplacnaaInfos
import Derived.Test.YthbebnfhplacnaaPlains
import Derived.Test.YthbebnfhplacnaaMaps
import Derived.Test.YthbebnfhplacnaaArrs
import Derived.Test.YthbebnfhplacnaaJoins
import Derived.Test.YthbebnfhplacnaaIArrs
import Derived.Test.YthbebnfhplacnaaIBase
import Derived.Test.YthbebnfhplacnaaIRdss
import Derived.WalkKit
import Derived.WalkSpells
import Derived.WalkLawsBesides
import Derived.Deep.QuietTactic
import Derived.Deep.OwnRows
import Derived.BigQuiet
import Derived.KernelRfl
import Derived.Carry
import Derived.Deep.RegionLaw
import Derived.Deep.RegionHeld3
namespace Go.Proofs.Ythbebnfhplacnaa
open Go.RowKit

theorem OwnInts.madeZ (w : World) (T : TypeId) (n : Nat) (h : n ≤ 1099511627776) : OwnInts w.heap.size (w.heap.size + 1) (w.alloc (.cells (madeCells #[.int .i64 0] n) T)) (.slice (some ⟨w.heap.size, 0, none⟩) n n) (List.replicate n 0) := by
  have hr : (w.alloc (.cells (madeCells #[.int .i64 0] n) T)).rowIs w.heap.size T n (fun _ => .int .i64 0) := World.rowIs_made _ _ _ _
  refine ⟨some ⟨w.heap.size, 0, none⟩, n, by simp, by simpa using h, fun a ha => by cases ha; exact ⟨Nat.le_refl _, Nat.lt_succ_self _⟩, fun i hi => ⟨_, _, rfl, ?_, hr.frozen _⟩⟩
  have hi' : 0 + i < n := by simpa using hi
  rw [nth_eq _ _ hi, List.getElem_replicate]
  have := hr.cell hi'
  simpa using this

end Go.Proofs.Ythbebnfhplacnaa
