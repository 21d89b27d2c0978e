/- The law of Directs answers true. -/
import Derived.Test.YtnoajdhofdfafaaRows
import Derived.Test.YtnoajdhofdfafaaBase
import Derived.Test.YtnoajdhofdfafaaAut
import Derived.Test.YtnoajdhofdfafaaCho
import Derived.Test.YtnoajdhofdfafaaPlain1
import Derived.Test.YtnoajdhofdfafaaPlainRun
import Derived.Test.YtnoajdhofdfafaaPlainSet
import Derived.Test.YtnoajdhofdfafaaPlainPart
import Derived.Test.YtnoajdhofdfafaaPlainCho
import Derived.Test.YtnoajdhofdfafaaWDirects
import Derived.Test.YtnoajdhofdfafaaSCho
import Derived.Test.YtnoajdhofdfafaaICho
import Derived.Test.YtnoajdhofdfafaaDirS
import Derived.Test.YtnoajdhofdfafaaDirI
import Derived.WalkKit
import Derived.WalkSpells
import Derived.WalkLawsBesides
import Derived.Deep.QuietTactic
import Derived.Deep.OwnRows
import Derived.BigQuiet
import Derived.KernelRfl
namespace Go.Proofs.Ytnoajdhofdfafaa
open Go.RowKit

theorem FnExactDirects_any (v0 v1 : Value) (a0 : Cho) (a1 : List Int) (z2 : Int) (w : World) (h0 : ChoAt w v0 a0) (h1 : IntsAt w v1 a1) :
    Calls Try.prog 5 #[v0, v1, .int .i64 z2] w fun e w' => e = .returned (.bool true) ∧ New w w' :=
  FnExactDirects_walk v0 v1 a0 a1 z2 (Directs a0 a1 z2).1 (Directs a0 a1 z2).2 w h0 h1 (fun w u0 u1 k0 k1 => specDirects_any u0 u1 a0 a1 z2 w k0 k1) (fun w u0 u1 k0 k1 => implDirects_any u0 u1 a0 a1 z2 w k0 k1)

end Go.Proofs.Ytnoajdhofdfafaa
