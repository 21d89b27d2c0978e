/- The law of TrimMachine answers true. -/
import Derived.Test.YtcjmcpfdpnakkaaRows
import Derived.Test.YtcjmcpfdpnakkaaCore
import Derived.Test.YtcjmcpfdpnakkaaPlains
import Derived.Test.YtcjmcpfdpnakkaaPlainApart
import Derived.Test.YtcjmcpfdpnakkaaPlainTrim
import Derived.Test.YtcjmcpfdpnakkaaWTrimMachine
import Derived.Test.YtcjmcpfdpnakkaaSTrim
import Derived.Test.YtcjmcpfdpnakkaaITrim2
import Derived.WalkKit
import Derived.WalkSpells
import Derived.WalkLawsBesides
import Derived.Deep.QuietTactic
import Derived.Deep.OwnRows
import Derived.BigQuiet
import Derived.KernelRfl
namespace Go.Proofs.Ytcjmcpfdpnakkaa
open Go.RowKit

theorem FnExactTrimMachine_any (v0 : Value) (a0 : Mach) (w : World) (h0 : MachAt w v0 a0) :
    Calls Try.prog 7 #[v0] w fun e w' => e = .returned (.bool true) ∧ New w w' :=
  FnExactTrimMachine_walk v0 a0 (TrimMachine a0).1 (TrimMachine a0).2 w h0 (fun w u0 k0 => specTrimMachine_any u0 a0 w k0) (fun w u0 k0 => implTrimMachine_any u0 a0 w k0) (Trim_big _)

end Go.Proofs.Ytcjmcpfdpnakkaa
