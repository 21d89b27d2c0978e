/- The law of LeastKernels answers true. -/
import Derived.Test.YtoeckejcmojeaaaRows
import Derived.Test.YtoeckejcmojeaaaCore
import Derived.Test.YtoeckejcmojeaaaPlains
import Derived.Test.YtoeckejcmojeaaaPers
import Derived.Test.YtoeckejcmojeaaaPQuos
import Derived.Test.YtoeckejcmojeaaaPOrds
import Derived.Test.YtoeckejcmojeaaaPMerg
import Derived.Test.YtoeckejcmojeaaaPKerns
import Derived.Test.YtoeckejcmojeaaaWLeastKernels
import Derived.Test.YtoeckejcmojeaaaSKern
import Derived.Test.YtoeckejcmojeaaaIKern
import Derived.WalkKit
import Derived.WalkSpells
import Derived.WalkLawsBesides
import Derived.Deep.QuietTactic
import Derived.Deep.OwnRows
import Derived.BigQuiet
import Derived.KernelRfl
namespace Go.Proofs.Ytoeckejcmojeaaa
open Go.RowKit

theorem FnExactLeastKernels_any (v0 : Value) (a0 : Aut) (w : World) (h0 : AutAt w v0 a0) :
    Calls Try.prog 3 #[v0] w fun e w' => e = .returned (.bool true) ∧ New w w' :=
  FnExactLeastKernels_walk v0 a0 (LeastKernels a0).1 (LeastKernels a0).2 w h0 (fun w u0 k0 => specLeastKernels_any u0 a0 w k0) (fun w u0 k0 => implLeastKernels_any u0 a0 w k0) (LeastKernels_big a0)

end Go.Proofs.Ytoeckejcmojeaaa
