/- The program's tour of the sets to which words lead. -/
import Derived.Test.YtheimpgjkfphnaaRows
import Derived.Test.YtheimpgjkfphnaaBase
import Derived.Test.YtheimpgjkfphnaaAut
import Derived.Test.YtheimpgjkfphnaaApp
import Derived.Test.YtheimpgjkfphnaaAppRows
import Derived.Test.YtheimpgjkfphnaaAppStep
import Derived.Test.YtheimpgjkfphnaaInfo
import Derived.Test.YtheimpgjkfphnaaMapV
import Derived.Test.YtheimpgjkfphnaaTourV
import Derived.Test.YtheimpgjkfphnaaPlain1
import Derived.Test.YtheimpgjkfphnaaPlainRun
import Derived.Test.YtheimpgjkfphnaaPlainBits
import Derived.Test.YtheimpgjkfphnaaPlainTour
import Derived.Test.YtheimpgjkfphnaaI01a
import Derived.Test.YtheimpgjkfphnaaI01b
import Derived.Test.YtheimpgjkfphnaaIFlk
import Derived.Test.YtheimpgjkfphnaaIClone
import Derived.WalkKit
import Derived.WalkSpells
import Derived.WalkLawsBesides
import Derived.Deep.QuietTactic
import Derived.Deep.OwnRows
import Derived.BigQuiet
import Derived.KernelRfl
import Derived.Carry
import Derived.Deep.RegionHeld3
namespace Go.Proofs.Ytheimpgjkfphnaa
open Go.RowKit

theorem info_flock : (Try.prog.info? 102).map (fun i => (i.zero, i.size, i.bytes)) = some (some (.int .u64 0), 1, 8) := by kernel_rfl
theorem zero_ints (w : World) : (zeroValue 36).run Try.prog w = .ok (.slice none 0 0) w := by kernel_rfl
theorem law_flock : Go.Maps.Keyed Try.prog 102 := Go.Maps.int_keyed Try.underlying102
theorem key_flock (x : Nat) (h : x < 1024) : keyOf Try.prog 102 (.int .u64 (x : Nat)) = some (.int .u64 (x : Nat)) := Go.Maps.keyOf_int_mk Try.underlying102 (by simp [Lit.wf, IntKind.min, IntKind.max, IntKind.bits, IntKind.signed]; omega)

end Go.Proofs.Ytheimpgjkfphnaa
