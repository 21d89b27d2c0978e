/- The law of SetWord answers true. -/
import Derived.Test.YtoioebhalpcipaaRows
import Derived.Test.YtoioebhalpcipaaBase
import Derived.Test.YtoioebhalpcipaaAut
import Derived.Test.YtoioebhalpcipaaPlain1
import Derived.Test.YtoioebhalpcipaaPlainRun
import Derived.Test.YtoioebhalpcipaaPlainSet
import Derived.Test.YtoioebhalpcipaaPlainBits
import Derived.Test.YtoioebhalpcipaaPlainTour
import Derived.Test.YtoioebhalpcipaaPlainFirst
import Derived.Test.YtoioebhalpcipaaWSetWord
import Derived.Test.YtoioebhalpcipaaSFor
import Derived.Test.YtoioebhalpcipaaIFor
import Derived.WalkKit
import Derived.WalkSpells
import Derived.WalkLawsBesides
import Derived.Deep.QuietTactic
import Derived.Deep.OwnRows
import Derived.BigQuiet
import Derived.KernelRfl
namespace Go.Proofs.Ytoioebhalpcipaa
open Go.RowKit

theorem SetWord_len (a : Aut) (set : List Int) : (SetWord a set).1.length ≤ 1048576 := by
  unfold SetWord
  split
  · rename_i ha
    have han := autOk_n ha
    split
    · rename_i hs
      exact told_len _ _ (Nat.le_trans (firstWord_len (tourOk ha _ (full_lt a.n)) han.2 _) (by decide))
    · simp
  · simp
theorem FnExactSetWord_any (v0 v1 : Value) (a0 : Aut) (a1 : List Int) (w : World) (h0 : AutAt w v0 a0) (h1 : IntsAt w v1 a1) :
    Calls Try.prog 5 #[v0, v1] w fun e w' => e = .returned (.bool true) ∧ New w w' :=
  FnExactSetWord_walk v0 v1 a0 a1 (SetWord a0 a1).1 (SetWord a0 a1).2 w h0 h1 (fun w u0 u1 k0 k1 => specSetWord_any u0 u1 a0 a1 w k0 k1) (fun w u0 u1 k0 k1 => implSetWord_any u0 u1 a0 a1 w k0 k1) (SetWord_len _ _)

end Go.Proofs.Ytoioebhalpcipaa
