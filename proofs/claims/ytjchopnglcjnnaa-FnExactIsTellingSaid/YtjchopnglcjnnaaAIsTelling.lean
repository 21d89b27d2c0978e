/- The law of IsTelling answers true. -/
import Derived.Test.YtjchopnglcjnnaaRows
import Derived.Test.YtjchopnglcjnnaaBase
import Derived.Test.YtjchopnglcjnnaaAut
import Derived.Test.YtjchopnglcjnnaaMach
import Derived.Test.YtjchopnglcjnnaaPlain1
import Derived.Test.YtjchopnglcjnnaaPlainRun
import Derived.Test.YtjchopnglcjnnaaPlainOut
import Derived.Test.YtjchopnglcjnnaaWIsTelling
import Derived.Test.YtjchopnglcjnnaaS06d
import Derived.Test.YtjchopnglcjnnaaI06c
import Derived.WalkKit
import Derived.WalkSpells
import Derived.WalkLawsBesides
import Derived.Deep.QuietTactic
import Derived.Deep.OwnRows
import Derived.BigQuiet
import Derived.KernelRfl
namespace Go.Proofs.Ytjchopnglcjnnaa
open Go.RowKit

theorem FnExactIsTelling_any (v0 v1 : Value) (a0 : Mach) (a1 : List Int) (w : World) (h0 : MachAt w v0 a0) (h1 : IntsAt w v1 a1) :
    Calls Try.prog 13 #[v0, v1] w fun e w' => e = .returned (.bool true) ∧ New w w' :=
  FnExactIsTelling_walk v0 v1 a0 a1 (Tells a0 a1 true).1 (Tells a0 a1 true).2 w h0 h1 (fun w u0 u1 k0 k1 => specIsTelling_any u0 u1 a0 a1 w k0 k1) (fun w u0 u1 k0 k1 => implIsTelling_any u0 u1 a0 a1 w k0 k1)

end Go.Proofs.Ytjchopnglcjnnaa
