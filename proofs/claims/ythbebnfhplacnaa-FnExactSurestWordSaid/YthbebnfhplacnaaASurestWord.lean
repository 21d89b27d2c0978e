/- The law of SurestWord answers true. -/
import Derived.Test.YthbebnfhplacnaaRows
import Derived.Test.YthbebnfhplacnaaCore
import Derived.Test.YthbebnfhplacnaaPlains
import Derived.Test.YthbebnfhplacnaaDrawT
import Derived.Test.YthbebnfhplacnaaPlainReset
import Derived.Test.YthbebnfhplacnaaPlainFill
import Derived.Test.YthbebnfhplacnaaPlainSure
import Derived.Test.YthbebnfhplacnaaSSures
import Derived.Test.YthbebnfhplacnaaISures
import Derived.Test.YthbebnfhplacnaaWSurestWord
import Derived.WalkKit
import Derived.WalkSpells
import Derived.WalkLawsBesides
import Derived.Deep.QuietTactic
import Derived.Deep.OwnRows
import Derived.BigQuiet
import Derived.KernelRfl
namespace Go.Proofs.Ythbebnfhplacnaa
open Go.RowKit

theorem FnExactSurestWord_any (v0 : Value) (a0 : Aut) (w : World) (h0 : AutAt w v0 a0) :
    Calls Try.prog 3 #[v0] w fun e w' => e = .returned (.bool true) ∧ New w w' :=
  FnExactSurestWord_walk v0 a0 (SurestWord a0).1 (SurestWord a0).2 w h0 (fun w u0 k0 => specSurestWord_any u0 a0 w k0) (fun w u0 k0 => implSurestWord_any u0 a0 w k0) (Nat.le_trans SurestWord_len (by decide))

end Go.Proofs.Ythbebnfhplacnaa
