/- The law of SameMachine answers true. -/
import Derived.Test.YtgkapgmgmekceaaRows
import Derived.Test.YtgkapgmgmekceaaBase
import Derived.Test.YtgkapgmgmekceaaMach
import Derived.Test.YtgkapgmgmekceaaWSameMachine
import Derived.Test.YtgkapgmgmekceaaSameMach
import Derived.WalkKit
import Derived.WalkSpells
import Derived.WalkLawsBesides
import Derived.Deep.QuietTactic
import Derived.Deep.OwnRows
import Derived.BigQuiet
import Derived.KernelRfl
namespace Go.Proofs.Ytgkapgmgmekceaa
open Go.RowKit

theorem FnExactSameMachine_any (v0 v1 : Value) (a0 a1 : Mach) (w : World) (h0 : MachAt w v0 a0) (h1 : MachAt w v1 a1) :
    Calls Try.prog 4 #[v0, v1] w fun e w' => e = .returned (.bool true) ∧ New w w' :=
  FnExactSameMachine_walk v0 v1 a0 a1 (decide (a0 = a1)) w h0 h1 (fun w u0 u1 k0 k1 => specSameMachine_any u0 u1 a0 a1 w k0 k1) (fun w u0 u1 k0 k1 => implSameMachine_any u0 u1 a0 a1 w k0 k1)

end Go.Proofs.Ytgkapgmgmekceaa
