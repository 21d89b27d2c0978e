/- The law of IsColouring answers true. -/
import Derived.Test.YtoioebhalpcipaaRows
import Derived.Test.YtoioebhalpcipaaBase
import Derived.Test.YtoioebhalpcipaaAut
import Derived.Test.YtoioebhalpcipaaPlain1
import Derived.Test.YtoioebhalpcipaaPlainRun
import Derived.Test.YtoioebhalpcipaaPlainSort
import Derived.Test.YtoioebhalpcipaaPlainRoads
import Derived.Test.YtoioebhalpcipaaWIsColouring
import Derived.Test.YtoioebhalpcipaaSIsCol
import Derived.Test.YtoioebhalpcipaaIIsCol
import Derived.WalkKit
import Derived.WalkSpells
import Derived.WalkLawsBesides
import Derived.Deep.QuietTactic
import Derived.Deep.OwnRows
import Derived.BigQuiet
import Derived.KernelRfl
namespace Go.Proofs.Ytoioebhalpcipaa
open Go.RowKit

theorem FnExactIsColouring_any (v0 v1 : Value) (a0 a1 : Aut) (w : World) (h0 : AutAt w v0 a0) (h1 : AutAt w v1 a1) :
    Calls Try.prog 11 #[v0, v1] w fun e w' => e = .returned (.bool true) ∧ New w w' :=
  FnExactIsColouring_walk v0 v1 a0 a1 (IsColouring a0 a1).1 (IsColouring a0 a1).2 w h0 h1 (fun w u0 u1 k0 k1 => specIsColouring_any u0 u1 a0 a1 w k0 k1) (fun w u0 u1 k0 k1 => implIsColouring_any u0 u1 a0 a1 w k0 k1)

end Go.Proofs.Ytoioebhalpcipaa
