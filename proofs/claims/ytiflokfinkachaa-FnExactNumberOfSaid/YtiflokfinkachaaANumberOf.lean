/- The law of NumberOf answers true. -/
import Derived.Test.YtiflokfinkachaaRows
import Derived.Test.YtiflokfinkachaaCore
import Derived.Test.YtiflokfinkachaaPlains
import Derived.Test.YtiflokfinkachaaJoins
import Derived.Test.YtiflokfinkachaaPlainNum
import Derived.Test.YtiflokfinkachaaSArr
import Derived.Test.YtiflokfinkachaaSChoices
import Derived.Test.YtiflokfinkachaaSIsJoined
import Derived.Test.YtiflokfinkachaaSNumber
import Derived.Test.YtiflokfinkachaaINumber
import Derived.Test.YtiflokfinkachaaWNumberOf
import Derived.WalkKit
import Derived.WalkSpells
import Derived.WalkLawsBesides
import Derived.Deep.QuietTactic
import Derived.Deep.OwnRows
import Derived.BigQuiet
import Derived.KernelRfl
namespace Go.Proofs.Ytiflokfinkachaa
open Go.RowKit

theorem FnExactNumberOf_any (v0 v1 : Value) (a0 a1 : Aut) (w : World) (h0 : AutAt w v0 a0) (h1 : AutAt w v1 a1) :
    Calls Try.prog 8 #[v0, v1] w fun e w' => e = .returned (.bool true) ∧ New w w' :=
  FnExactNumberOf_walk v0 v1 a0 a1 (NumberOf a0 a1).1 (NumberOf a0 a1).2 w h0 h1 (fun w u0 u1 k0 k1 => specNumberOf_any u0 u1 a0 a1 w k0 k1) (fun w u0 u1 k0 k1 => implNumberOf_any u0 u1 a0 a1 w k0 k1)

end Go.Proofs.Ytiflokfinkachaa
