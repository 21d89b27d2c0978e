/- The law of IsCareful answers true. -/
import Derived.Test.YtjchopnglcjnnaaRows
import Derived.Test.YtjchopnglcjnnaaBase
import Derived.Test.YtjchopnglcjnnaaAut
import Derived.Test.YtjchopnglcjnnaaPlain1
import Derived.Test.YtjchopnglcjnnaaPlainRun
import Derived.Test.YtjchopnglcjnnaaPlainPart
import Derived.Test.YtjchopnglcjnnaaWIsCareful
import Derived.Test.YtjchopnglcjnnaaS04a
import Derived.Test.YtjchopnglcjnnaaI04a
import Derived.WalkKit
import Derived.WalkSpells
import Derived.WalkLawsBesides
import Derived.Deep.QuietTactic
import Derived.Deep.OwnRows
import Derived.BigQuiet
import Derived.KernelRfl
namespace Go.Proofs.Ytjchopnglcjnnaa
open Go.RowKit

theorem FnExactIsCareful_any (v0 v1 : Value) (a0 : Aut) (a1 : List Int) (w : World) (h0 : AutAt w v0 a0) (h1 : IntsAt w v1 a1) :
    Calls Try.prog 3 #[v0, v1] w fun e w' => e = .returned (.bool true) ∧ New w w' :=
  FnExactIsCareful_walk v0 v1 a0 a1 (IsCareful a0 a1).1 (IsCareful a0 a1).2 w h0 h1 (fun w u0 u1 k0 k1 => specIsCareful_any u0 u1 a0 a1 w k0 k1) (fun w u0 u1 k0 k1 => implIsCareful_any u0 u1 a0 a1 w k0 k1)

end Go.Proofs.Ytjchopnglcjnnaa
