/- The law of MachineDifference answers true. -/
import Derived.Test.YtcjmcpfdpnakkaaRows
import Derived.Test.YtcjmcpfdpnakkaaBase
import Derived.Test.YtcjmcpfdpnakkaaAut
import Derived.Test.YtcjmcpfdpnakkaaMach
import Derived.Test.YtcjmcpfdpnakkaaPlain1
import Derived.Test.YtcjmcpfdpnakkaaPlainRun
import Derived.Test.YtcjmcpfdpnakkaaPMach
import Derived.Test.YtcjmcpfdpnakkaaPlainSet
import Derived.Test.YtcjmcpfdpnakkaaPlainBits
import Derived.Test.YtcjmcpfdpnakkaaPlainTour
import Derived.Test.YtcjmcpfdpnakkaaPlainFirst
import Derived.Test.YtcjmcpfdpnakkaaPlainBfs
import Derived.Test.YtcjmcpfdpnakkaaPlainApart
import Derived.Test.YtcjmcpfdpnakkaaWMachineDifference
import Derived.Test.YtcjmcpfdpnakkaaSApart3
import Derived.Test.YtcjmcpfdpnakkaaIApart3
import Derived.WalkKit
import Derived.WalkSpells
import Derived.WalkLawsBesides
import Derived.Deep.QuietTactic
import Derived.Deep.OwnRows
import Derived.BigQuiet
import Derived.KernelRfl
namespace Go.Proofs.Ytcjmcpfdpnakkaa
open Go.RowKit

theorem FnExactMachineDifference_any (v0 v1 : Value) (a0 a1 : Mach) (w : World) (h0 : MachAt w v0 a0) (h1 : MachAt w v1 a1) :
    Calls Try.prog 3 #[v0, v1] w fun e w' => e = .returned (.bool true) ∧ New w w' :=
  FnExactMachineDifference_walk v0 v1 a0 a1 (MachineDifference a0 a1).1 (MachineDifference a0 a1).2 w h0 h1 (fun w u0 u1 k0 k1 => specMachineDifference_any u0 u1 a0 a1 w k0 k1) (fun w u0 u1 k0 k1 => implMachineDifference_any u0 u1 a0 a1 w k0 k1) (MachineDifference_len _ _)

end Go.Proofs.Ytcjmcpfdpnakkaa
