/- The law of IsCongruence answers true. -/
import Derived.Test.YtgkapgmgmekceaaRows
import Derived.Test.YtgkapgmgmekceaaBase
import Derived.Test.YtgkapgmgmekceaaAut
import Derived.Test.YtgkapgmgmekceaaPlainDiv
import Derived.Test.YtgkapgmgmekceaaWIsCongruence
import Derived.Test.YtgkapgmgmekceaaIsCong
import Derived.WalkKit
import Derived.WalkSpells
import Derived.WalkLawsBesides
import Derived.Deep.QuietTactic
import Derived.Deep.OwnRows
import Derived.BigQuiet
import Derived.KernelRfl
namespace Go.Proofs.Ytgkapgmgmekceaa
open Go.RowKit

theorem FnExactIsCongruence_any (v0 v1 : Value) (a0 : Aut) (a1 : List Int) (w : World) (h0 : AutAt w v0 a0) (h1 : IntsAt w v1 a1) :
    Calls Try.prog 6 #[v0, v1] w fun e w' => e = .returned (.bool true) ∧ New w w' :=
  FnExactIsCongruence_walk v0 v1 a0 a1 (IsCongruence a0 a1).1 (IsCongruence a0 a1).2 w h0 h1 (fun w u0 u1 k0 k1 => specIsCongruence_any u0 u1 a0 a1 w k0 k1) (fun w u0 u1 k0 k1 => implIsCongruence_any u0 u1 a0 a1 w k0 k1)

end Go.Proofs.Ytgkapgmgmekceaa
