/- The reference's merging words and shortest words to a state. -/
import Derived.Test.YtnhjoiafadapaaaRows
import Derived.Test.YtnhjoiafadapaaaCore
import Derived.Test.YtnhjoiafadapaaaInfos
import Derived.Test.YtnhjoiafadapaaaPlains
import Derived.Test.YtnhjoiafadapaaaMaps
import Derived.Test.YtnhjoiafadapaaaSWalks
import Derived.Test.YtnhjoiafadapaaaSBase
import Derived.WalkKit
import Derived.WalkSpells
import Derived.WalkLawsBesides
import Derived.Deep.QuietTactic
import Derived.Deep.OwnRows
import Derived.BigQuiet
import Derived.KernelRfl
namespace Go.Proofs.Ytnhjoiafadapaaa
open Go.RowKit

theorem pair_lt (s t n : Int) (h1 : 0 ≤ s ∧ s < n) (h2 : 0 ≤ t ∧ t < n) : pairOf s t < 2 ^ n.toNat :=
  Nat.or_lt_two_pow (Nat.pow_lt_pow_right (by decide) (by omega)) (Nat.pow_lt_pow_right (by decide) (by omega))
theorem pair_w64 (s t : Nat) (hs : s < 10) (ht : t < 10) : bits .or .i64 (Go.RowKit.wrap64 ((2 : Int) ^ s)) (Go.RowKit.wrap64 ((2 : Int) ^ t)) = ((2 ^ s ||| 2 ^ t : Nat) : Int) := by
  rw [two_pow_wrap s (by omega), or_w64 _ _ (pow10 s hs) ht]

end Go.Proofs.Ytnhjoiafadapaaa
