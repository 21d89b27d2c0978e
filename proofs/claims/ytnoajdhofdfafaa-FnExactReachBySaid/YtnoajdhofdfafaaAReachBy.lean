/- The law of ReachBy answers true. -/
import Derived.Test.YtnoajdhofdfafaaRows
import Derived.Test.YtnoajdhofdfafaaBase
import Derived.Test.YtnoajdhofdfafaaAut
import Derived.Test.YtnoajdhofdfafaaCho
import Derived.Test.YtnoajdhofdfafaaPlain1
import Derived.Test.YtnoajdhofdfafaaPlainRun
import Derived.Test.YtnoajdhofdfafaaPlainSet
import Derived.Test.YtnoajdhofdfafaaPlainPart
import Derived.Test.YtnoajdhofdfafaaPlainCho
import Derived.Test.YtnoajdhofdfafaaWReachBy
import Derived.Test.YtnoajdhofdfafaaSCho
import Derived.Test.YtnoajdhofdfafaaICho
import Derived.WalkKit
import Derived.WalkSpells
import Derived.WalkLawsBesides
import Derived.Deep.QuietTactic
import Derived.Deep.OwnRows
import Derived.BigQuiet
import Derived.KernelRfl
namespace Go.Proofs.Ytnoajdhofdfafaa
open Go.RowKit

theorem FnExactReachBy_any (v0 v1 v2 : Value) (a0 : Cho) (a1 a2 : List Int) (w : World) (h0 : ChoAt w v0 a0) (h1 : IntsAt w v1 a1) (h2 : IntsAt w v2 a2) :
    Calls Try.prog 4 #[v0, v1, v2] w fun e w' => e = .returned (.bool true) ∧ New w w' :=
  FnExactReachBy_walk v0 v1 v2 a0 a1 a2 (ReachBy a0 a1 a2).1 (ReachBy a0 a1 a2).2 w h0 h1 h2 (fun w u0 u1 u2 k0 k1 k2 => specReachBy_any u0 u1 u2 a0 a1 a2 w k0 k1 k2) (fun w u0 u1 u2 k0 k1 k2 => implReachBy_any u0 u1 u2 a0 a1 a2 w k0 k1 k2) (ReachBy_len _ _ _)

end Go.Proofs.Ytnoajdhofdfafaa
