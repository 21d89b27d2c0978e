/- The law of ValidMachine answers true. -/
import Derived.Test.YtgkapgmgmekceaaRows
import Derived.Test.YtgkapgmgmekceaaBase
import Derived.Test.YtgkapgmgmekceaaMach
import Derived.Test.YtgkapgmgmekceaaPMach
import Derived.Test.YtgkapgmgmekceaaWValidMachine
import Derived.Test.YtgkapgmgmekceaaS06b
import Derived.Test.YtgkapgmgmekceaaI06a
import Derived.WalkKit
import Derived.WalkSpells
import Derived.WalkLawsBesides
import Derived.Deep.QuietTactic
import Derived.Deep.OwnRows
import Derived.BigQuiet
import Derived.KernelRfl
namespace Go.Proofs.Ytgkapgmgmekceaa
open Go.RowKit

theorem FnExactValidMachine_any (v0 : Value) (a0 : Mach) (w : World) (h0 : MachAt w v0 a0) :
    Calls Try.prog 5 #[v0] w fun e w' => e = .returned (.bool true) ∧ New w w' :=
  FnExactValidMachine_walk v0 a0 (machOk a0) w h0 (fun w u0 k0 => specValidMachine_any u0 a0 w k0) (fun w u0 k0 => implValidMachine_any u0 a0 w k0)

end Go.Proofs.Ytgkapgmgmekceaa
