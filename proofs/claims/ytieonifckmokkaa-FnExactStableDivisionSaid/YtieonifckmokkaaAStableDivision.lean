/- The law of StableDivision answers true. -/
import Derived.Test.YtieonifckmokkaaRows
import Derived.Test.YtieonifckmokkaaCore
import Derived.Test.YtieonifckmokkaaPlains
import Derived.Test.YtieonifckmokkaaPers
import Derived.Test.YtieonifckmokkaaPlainMerges
import Derived.Test.YtieonifckmokkaaPlainStab
import Derived.Test.YtieonifckmokkaaSStable2
import Derived.Test.YtieonifckmokkaaIStable2
import Derived.Test.YtieonifckmokkaaWStableDivision
import Derived.WalkKit
import Derived.WalkSpells
import Derived.WalkLawsBesides
import Derived.Deep.QuietTactic
import Derived.Deep.OwnRows
import Derived.BigQuiet
import Derived.KernelRfl
namespace Go.Proofs.Ytieonifckmokkaa
open Go.RowKit

theorem FnExactStableDivision_any (v0 : Value) (a0 : Aut) (w : World) (h0 : AutAt w v0 a0) :
    Calls Try.prog 9 #[v0] w fun e w' => e = .returned (.bool true) ∧ New w w' :=
  FnExactStableDivision_walk v0 a0 (StableDivision a0).1 (StableDivision a0).2 w h0 (fun w u0 k0 => specStableDivision_any u0 a0 w k0) (fun w u0 k0 => implStableDivision_any u0 a0 w k0) (by
    unfold StableDivision
    split
    · rename_i ha
      have hn := autOk_n ha
      have h1 := mrgTo_len a0.n.toNat (stOf a0) _ (Nat.le_refl _)
      show (tidyOf _).length ≤ _
      unfold tidyOf
      rw [tidyTo_len, h1]
      omega
    · simp)

end Go.Proofs.Ytieonifckmokkaa
