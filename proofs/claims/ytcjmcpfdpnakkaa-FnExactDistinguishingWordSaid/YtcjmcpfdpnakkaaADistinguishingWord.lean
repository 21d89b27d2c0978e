/- The law of DistinguishingWord answers true. -/
import Derived.Test.YtcjmcpfdpnakkaaRows
import Derived.Test.YtcjmcpfdpnakkaaBase
import Derived.Test.YtcjmcpfdpnakkaaAut
import Derived.Test.YtcjmcpfdpnakkaaMach
import Derived.Test.YtcjmcpfdpnakkaaPlain1
import Derived.Test.YtcjmcpfdpnakkaaPlainRun
import Derived.Test.YtcjmcpfdpnakkaaPMach
import Derived.Test.YtcjmcpfdpnakkaaPlainSet
import Derived.Test.YtcjmcpfdpnakkaaPlainBits
import Derived.Test.YtcjmcpfdpnakkaaPlainTour
import Derived.Test.YtcjmcpfdpnakkaaPlainFirst
import Derived.Test.YtcjmcpfdpnakkaaPlainBfs
import Derived.Test.YtcjmcpfdpnakkaaPlainApart
import Derived.Test.YtcjmcpfdpnakkaaWDistinguishingWord
import Derived.Test.YtcjmcpfdpnakkaaSApart2
import Derived.Test.YtcjmcpfdpnakkaaIApart2
import Derived.WalkKit
import Derived.WalkSpells
import Derived.WalkLawsBesides
import Derived.Deep.QuietTactic
import Derived.Deep.OwnRows
import Derived.BigQuiet
import Derived.KernelRfl
namespace Go.Proofs.Ytcjmcpfdpnakkaa
open Go.RowKit

theorem FnExactDistinguishingWord_any (v0 : Value) (a0 : Mach) (z1 z2 : Int) (w : World) (h0 : MachAt w v0 a0) :
    Calls Try.prog 6 #[v0, .int .i64 z1, .int .i64 z2] w fun e w' => e = .returned (.bool true) ∧ New w w' :=
  FnExactDistinguishingWord_walk v0 a0 z1 z2 (DistinguishingWord a0 z1 z2).1 (DistinguishingWord a0 z1 z2).2 w h0 (fun w u0 k0 => specDistinguishingWord_any u0 a0 z1 z2 w k0) (fun w u0 k0 => implDistinguishingWord_any u0 a0 z1 z2 w k0) (DistinguishingWord_len _ _ _)

end Go.Proofs.Ytcjmcpfdpnakkaa
