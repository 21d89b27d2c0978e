/- The law of CountResets answers true. -/
import Derived.Test.YtheimpgjkfphnaaRows
import Derived.Test.YtheimpgjkfphnaaBase
import Derived.Test.YtheimpgjkfphnaaAut
import Derived.Test.YtheimpgjkfphnaaPlainCnt
import Derived.Test.YtheimpgjkfphnaaWCountResets
import Derived.Test.YtheimpgjkfphnaaSCnt
import Derived.Test.YtheimpgjkfphnaaICnt
import Derived.WalkKit
import Derived.WalkSpells
import Derived.WalkLawsBesides
import Derived.Deep.QuietTactic
import Derived.Deep.OwnRows
import Derived.BigQuiet
import Derived.KernelRfl
namespace Go.Proofs.Ytheimpgjkfphnaa
open Go.RowKit

theorem FnExactCountResets_any (v0 : Value) (a0 : Aut) (z1 : Int) (w : World) (h0 : AutAt w v0 a0) :
    Calls Try.prog 4 #[v0, .int .i64 z1] w fun e w' => e = .returned (.bool true) ∧ New w w' :=
  FnExactCountResets_walk v0 a0 z1 (CountResets a0 z1).1 (CountResets a0 z1).2 w h0 (fun w u0 k0 => specCountResets_any u0 a0 z1 w k0) (fun w u0 k0 => implCountResets_any u0 a0 z1 w k0)

end Go.Proofs.Ytheimpgjkfphnaa
