/- The law of IsJoined answers true. -/
import Derived.Test.YtiflokfinkachaaRows
import Derived.Test.YtiflokfinkachaaCore
import Derived.Test.YtiflokfinkachaaPlains
import Derived.Test.YtiflokfinkachaaJoins
import Derived.Test.YtiflokfinkachaaSArr
import Derived.Test.YtiflokfinkachaaSChoices
import Derived.Test.YtiflokfinkachaaSIsJoined
import Derived.Test.YtiflokfinkachaaIJoined
import Derived.Test.YtiflokfinkachaaWIsJoined
import Derived.WalkKit
import Derived.WalkSpells
import Derived.WalkLawsBesides
import Derived.Deep.QuietTactic
import Derived.Deep.OwnRows
import Derived.BigQuiet
import Derived.KernelRfl
namespace Go.Proofs.Ytiflokfinkachaa
open Go.RowKit

theorem FnExactIsJoined_any (v0 : Value) (a0 : Aut) (w : World) (h0 : AutAt w v0 a0) :
    Calls Try.prog 7 #[v0] w fun e w' => e = .returned (.bool true) ∧ New w w' :=
  FnExactIsJoined_walk v0 a0 (IsJoined a0).1 (IsJoined a0).2 w h0 (fun w u0 k0 => specIsJoined_any u0 a0 w k0) (fun w u0 k0 => implIsJoined_any u0 a0 w k0)

end Go.Proofs.Ytiflokfinkachaa
