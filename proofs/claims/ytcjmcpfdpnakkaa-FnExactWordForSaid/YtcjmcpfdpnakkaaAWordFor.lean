/- The law of WordFor answers true. -/
import Derived.Test.YtcjmcpfdpnakkaaRows
import Derived.Test.YtcjmcpfdpnakkaaCore
import Derived.Test.YtcjmcpfdpnakkaaPlains
import Derived.Test.YtcjmcpfdpnakkaaPlainMon
import Derived.Test.YtcjmcpfdpnakkaaWWordFor
import Derived.Test.YtcjmcpfdpnakkaaSMon2
import Derived.Test.YtcjmcpfdpnakkaaIMon2
import Derived.WalkKit
import Derived.WalkSpells
import Derived.WalkLawsBesides
import Derived.Deep.QuietTactic
import Derived.Deep.OwnRows
import Derived.BigQuiet
import Derived.KernelRfl
namespace Go.Proofs.Ytcjmcpfdpnakkaa
open Go.RowKit

theorem FnExactWordFor_any (v0 v1 : Value) (a0 : Aut) (a1 : List Int) (w : World) (h0 : AutAt w v0 a0) (h1 : IntsAt w v1 a1) :
    Calls Try.prog 5 #[v0, v1] w fun e w' => e = .returned (.bool true) ∧ New w w' :=
  FnExactWordFor_walk v0 v1 a0 a1 (WordFor a0 a1).1 (WordFor a0 a1).2 w h0 h1 (fun w u0 u1 k0 k1 => specWordFor_any u0 u1 a0 a1 w k0 k1) (fun w u0 u1 k0 k1 => implWordFor_any u0 u1 a0 a1 w k0 k1) (WordFor_len _ _)

end Go.Proofs.Ytcjmcpfdpnakkaa
