/- The law of CarefulImage answers true. -/
import Derived.Test.YtaaaeekdfmfooaaRows
import Derived.Test.YtaaaeekdfmfooaaBase
import Derived.Test.YtaaaeekdfmfooaaAut
import Derived.Test.YtaaaeekdfmfooaaPlain1
import Derived.Test.YtaaaeekdfmfooaaPlainRun
import Derived.Test.YtaaaeekdfmfooaaPlainSet
import Derived.Test.YtaaaeekdfmfooaaPlainPart
import Derived.Test.YtaaaeekdfmfooaaWCarefulImage
import Derived.Test.YtaaaeekdfmfooaaCare
import Derived.WalkKit
import Derived.WalkSpells
import Derived.WalkLawsBesides
import Derived.Deep.QuietTactic
import Derived.Deep.OwnRows
import Derived.BigQuiet
import Derived.KernelRfl
namespace Go.Proofs.Ytaaaeekdfmfooaa
open Go.RowKit

theorem FnExactCarefulImage_any (v0 v1 v2 : Value) (a0 : Aut) (a1 a2 : List Int) (w : World) (h0 : AutAt w v0 a0) (h1 : IntsAt w v1 a1) (h2 : IntsAt w v2 a2) :
    Calls Try.prog 4 #[v0, v1, v2] w fun e w' => e = .returned (.bool true) ∧ New w w' :=
  FnExactCarefulImage_walk v0 v1 v2 a0 a1 a2 (CarefulImage a0 a1 a2).1 (CarefulImage a0 a1 a2).2 w h0 h1 h2 (fun w u0 u1 u2 k0 k1 k2 => specCarefulImage_any u0 u1 u2 a0 a1 a2 w k0 k1 k2) (fun w u0 u1 u2 k0 k1 k2 => implCarefulImage_any u0 u1 u2 a0 a1 a2 w k0 k1 k2) (CarefulImage_len _ _ _)

end Go.Proofs.Ytaaaeekdfmfooaa
