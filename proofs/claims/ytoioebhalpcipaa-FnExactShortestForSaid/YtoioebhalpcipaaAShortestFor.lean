/- The law of ShortestFor answers true. -/
import Derived.Test.YtoioebhalpcipaaRows
import Derived.Test.YtoioebhalpcipaaBase
import Derived.Test.YtoioebhalpcipaaAut
import Derived.Test.YtoioebhalpcipaaPlain1
import Derived.Test.YtoioebhalpcipaaPlainRun
import Derived.Test.YtoioebhalpcipaaPlainSet
import Derived.Test.YtoioebhalpcipaaPlainBits
import Derived.Test.YtoioebhalpcipaaPlainTour
import Derived.Test.YtoioebhalpcipaaPlainFirst
import Derived.Test.YtoioebhalpcipaaWShortestFor
import Derived.Test.YtoioebhalpcipaaSFor
import Derived.Test.YtoioebhalpcipaaIFor
import Derived.WalkKit
import Derived.WalkSpells
import Derived.WalkLawsBesides
import Derived.Deep.QuietTactic
import Derived.Deep.OwnRows
import Derived.BigQuiet
import Derived.KernelRfl
namespace Go.Proofs.Ytoioebhalpcipaa
open Go.RowKit

theorem ShortestFor_len (a : Aut) (set : List Int) : (ShortestFor a set).1.length ≤ 1048576 := by
  unfold ShortestFor
  split
  · rename_i ha
    have han := autOk_n ha
    split
    · rename_i hs
      exact told_len _ _ (Nat.le_trans (firstWord_len (tourOk ha _ (orB_set hs)) han.2 _) (by decide))
    · simp
  · simp
theorem FnExactShortestFor_any (v0 v1 : Value) (a0 : Aut) (a1 : List Int) (w : World) (h0 : AutAt w v0 a0) (h1 : IntsAt w v1 a1) :
    Calls Try.prog 3 #[v0, v1] w fun e w' => e = .returned (.bool true) ∧ New w w' :=
  FnExactShortestFor_walk v0 v1 a0 a1 (ShortestFor a0 a1).1 (ShortestFor a0 a1).2 w h0 h1 (fun w u0 u1 k0 k1 => specShortestFor_any u0 u1 a0 a1 w k0 k1) (fun w u0 u1 k0 k1 => implShortestFor_any u0 u1 a0 a1 w k0 k1) (ShortestFor_len _ _)

end Go.Proofs.Ytoioebhalpcipaa
