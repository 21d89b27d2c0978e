/- The reference's outputs of a machine for a word. -/
import Derived.Test.YtnhjoiafadapaaaRows
import Derived.Test.YtnhjoiafadapaaaCore
import Derived.Test.YtnhjoiafadapaaaInfos
import Derived.Test.YtnhjoiafadapaaaPlains
import Derived.Test.YtnhjoiafadapaaaSBase
import Derived.Test.YtnhjoiafadapaaaS06b
import Derived.WalkKit
import Derived.WalkSpells
import Derived.WalkLawsBesides
import Derived.Deep.QuietTactic
import Derived.Deep.OwnRows
import Derived.BigQuiet
import Derived.KernelRfl
import Derived.Deep.RegionHeld3
namespace Go.Proofs.Ytnhjoiafadapaaa
open Go.RowKit

set_option maxHeartbeats 400000 in
theorem l06State_any (p : Value) (m : Mach) (s : Int) (w : World) (hp : PMach w p m) (h0 : 0 ≤ m.n) (h1 : m.n ≤ 1048576) :
    Calls Try.prog 54 #[p, .int .i64 s] w fun e w' => e = .returned (.bool (inB s 0 (m.n - 1))) ∧ w' = w := by
  obtain ⟨b, r1, r2, rfl, c0, c1, c2, c3, hr1, hr2⟩ := hp
  go_enter Try.func54, Try.ntmps54
  go_wp2_with (go_at_call 105; refine (l00In_any _ _ _ _).mono ?_; rintro e w' ⟨rfl, rfl⟩)
  go_ret
  exact ⟨rfl, rfl⟩

end Go.Proofs.Ytnhjoiafadapaaa
