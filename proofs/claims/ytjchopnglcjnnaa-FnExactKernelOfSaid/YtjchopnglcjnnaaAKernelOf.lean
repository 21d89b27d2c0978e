/- The law of KernelOf answers true. -/
import Derived.Test.YtjchopnglcjnnaaRows
import Derived.Test.YtjchopnglcjnnaaBase
import Derived.Test.YtjchopnglcjnnaaAut
import Derived.Test.YtjchopnglcjnnaaPlain1
import Derived.Test.YtjchopnglcjnnaaPlainRun
import Derived.Test.YtjchopnglcjnnaaPlainTidy
import Derived.Test.YtjchopnglcjnnaaWKernelOf
import Derived.Test.YtjchopnglcjnnaaSTidy
import Derived.Test.YtjchopnglcjnnaaINum
import Derived.WalkKit
import Derived.WalkSpells
import Derived.WalkLawsBesides
import Derived.Deep.QuietTactic
import Derived.Deep.OwnRows
import Derived.BigQuiet
import Derived.KernelRfl
namespace Go.Proofs.Ytjchopnglcjnnaa
open Go.RowKit

theorem FnExactKernelOf_any (v0 v1 : Value) (a0 : Aut) (a1 : List Int) (w : World) (h0 : AutAt w v0 a0) (h1 : IntsAt w v1 a1) :
    Calls Try.prog 5 #[v0, v1] w fun e w' => e = .returned (.bool true) ∧ New w w' :=
  FnExactKernelOf_walk v0 v1 a0 a1 (KernelOf a0 a1).1 (KernelOf a0 a1).2 w h0 h1 (fun w u0 u1 k0 k1 => specKernelOf_any u0 u1 a0 a1 w k0 k1) (fun w u0 u1 k0 k1 => implKernelOf_any u0 u1 a0 a1 w k0 k1) (by
    unfold KernelOf
    split
    · split
      · rename_i h1 _
        have := autOk_n h1
        simp [tidyOf, tidyTo_len, actOf, iota_length]; omega
      · simp
    · simp)

end Go.Proofs.Ytjchopnglcjnnaa
