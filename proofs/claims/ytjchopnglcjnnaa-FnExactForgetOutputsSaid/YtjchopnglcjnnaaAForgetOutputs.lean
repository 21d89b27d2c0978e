/- The law of ForgetOutputs answers true. -/
import Derived.Test.YtjchopnglcjnnaaRows
import Derived.Test.YtjchopnglcjnnaaBase
import Derived.Test.YtjchopnglcjnnaaAut
import Derived.Test.YtjchopnglcjnnaaMach
import Derived.Test.YtjchopnglcjnnaaPlain1
import Derived.Test.YtjchopnglcjnnaaPlainRun
import Derived.Test.YtjchopnglcjnnaaPlainRen
import Derived.Test.YtjchopnglcjnnaaPlainOut
import Derived.Test.YtjchopnglcjnnaaWForgetOutputs
import Derived.Test.YtjchopnglcjnnaaSForget
import Derived.Test.YtjchopnglcjnnaaIForget
import Derived.WalkKit
import Derived.WalkSpells
import Derived.WalkLawsBesides
import Derived.Deep.QuietTactic
import Derived.Deep.OwnRows
import Derived.BigQuiet
import Derived.KernelRfl
namespace Go.Proofs.Ytjchopnglcjnnaa
open Go.RowKit

theorem FnExactForgetOutputs_any (v0 : Value) (a0 : Mach) (w : World) (h0 : MachAt w v0 a0) :
    Calls Try.prog 14 #[v0] w fun e w' => e = .returned (.bool true) ∧ New w w' :=
  FnExactForgetOutputs_walk v0 a0 (ForgetOutputs a0).1 (ForgetOutputs a0).2 w h0 (fun w u0 k0 => specForgetOutputs_any u0 a0 w k0) (fun w u0 k0 => implForgetOutputs_any u0 a0 w k0) (by
    unfold ForgetOutputs
    split
    · rename_i h
      exact autOk_big (machOk_parts h).1
    · simp [total])

end Go.Proofs.Ytjchopnglcjnnaa
