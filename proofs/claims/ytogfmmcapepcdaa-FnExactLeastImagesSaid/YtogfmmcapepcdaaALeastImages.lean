/- The law of LeastImages answers true. -/
import Derived.Test.YtogfmmcapepcdaaRows
import Derived.Test.YtogfmmcapepcdaaCore
import Derived.Test.YtogfmmcapepcdaaPlains
import Derived.Test.YtogfmmcapepcdaaPlainOrd
import Derived.Test.YtogfmmcapepcdaaPlainIns
import Derived.Test.YtogfmmcapepcdaaPlainImg
import Derived.Test.YtogfmmcapepcdaaWLeastImages
import Derived.Test.YtogfmmcapepcdaaSImg
import Derived.Test.YtogfmmcapepcdaaIImg
import Derived.WalkKit
import Derived.WalkSpells
import Derived.WalkLawsBesides
import Derived.Deep.QuietTactic
import Derived.Deep.OwnRows
import Derived.BigQuiet
import Derived.KernelRfl
namespace Go.Proofs.Ytogfmmcapepcdaa
open Go.RowKit

theorem FnExactLeastImages_any (v0 : Value) (a0 : Aut) (w : World) (h0 : AutAt w v0 a0) :
    Calls Try.prog 3 #[v0] w fun e w' => e = .returned (.bool true) ∧ New w w' :=
  FnExactLeastImages_walk v0 a0 (LeastImages a0).1 (LeastImages a0).2 w h0 (fun w u0 k0 => specLeastImages_any u0 a0 w k0) (fun w u0 k0 => implLeastImages_any u0 a0 w k0) (LeastImages_big a0)

end Go.Proofs.Ytogfmmcapepcdaa
