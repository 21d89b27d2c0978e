/- The law of ActionOf answers true. -/
import Derived.Test.YtgkapgmgmekceaaRows
import Derived.Test.YtgkapgmgmekceaaBase
import Derived.Test.YtgkapgmgmekceaaAut
import Derived.Test.YtgkapgmgmekceaaPlain1
import Derived.Test.YtgkapgmgmekceaaPlainRun
import Derived.Test.YtgkapgmgmekceaaWActionOf
import Derived.Test.YtgkapgmgmekceaaS01b
import Derived.Test.YtgkapgmgmekceaaI01c
import Derived.WalkKit
import Derived.WalkSpells
import Derived.WalkLawsBesides
import Derived.Deep.QuietTactic
import Derived.Deep.OwnRows
import Derived.BigQuiet
import Derived.KernelRfl
namespace Go.Proofs.Ytgkapgmgmekceaa
open Go.RowKit

theorem FnExactActionOf_any (v0 v1 : Value) (a0 : Aut) (a1 : List Int) (w : World) (h0 : AutAt w v0 a0) (h1 : IntsAt w v1 a1) :
    Calls Try.prog 7 #[v0, v1] w fun e w' => e = .returned (.bool true) ∧ New w w' :=
  FnExactActionOf_walk v0 v1 a0 a1 (ActionOf a0 a1).1 (ActionOf a0 a1).2 w h0 h1 (fun w u0 u1 k0 k1 => specActionOf_any u0 u1 a0 a1 w k0 k1) (fun w u0 u1 k0 k1 => implActionOf_any u0 u1 a0 a1 w k0 k1) (by
    unfold ActionOf
    split
    · rename_i h
      have := autOk_n h
      split
      · simp [actOf, iota_length]; omega
      · simp
    · simp)

end Go.Proofs.Ytgkapgmgmekceaa
