/- The laws' own tests: are bytes too many, are two lists equal. -/
import Derived.Test.YtoeckejcmojeaaaGreatRows
import Derived.Test.YtoeckejcmojeaaaGreatCore
import Derived.Test.YtoeckejcmojeaaaGreatMaps
import Derived.Test.YtoeckejcmojeaaaGreatArrs
import Derived.Test.YtoeckejcmojeaaaGreatPlains
import Derived.Test.YtoeckejcmojeaaaGreatSDraw
import Derived.WalkKit
import Derived.WalkSpells
import Derived.WalkLawsBesides
import Derived.Deep.QuietTactic
import Derived.Deep.OwnRows
import Derived.BigQuiet
import Derived.KernelRfl
import Derived.Deep.RegionHeld3
namespace Go.Proofs.YtoeckejcmojeaaaGreat
open Go.RowKit

set_option maxRecDepth 20000 in
set_option maxHeartbeats 1000000 in
theorem a2Long_any (v1 v2 : Value) (n1 n2 : Nat) (w : World) (h1 : BytesAt w v1 n1) (h2 : BytesAt w v2 n2) :
    Calls Tryz.prog 19 #[v1, v2] w fun e w' => e = .returned (.bool (decide (3000 < n1 ∨ 3000 < n2))) ∧ w' = w := by
  obtain ⟨A1, c1, rfl, hl1, _⟩ := h1
  obtain ⟨A2, c2, rfl, hl2, _⟩ := h2
  by_cases q1 : 3000 < n1
  · have b1 : (3000 : Int) < (n1 : Int) := by omega
    rw [show decide (3000 < n1 ∨ 3000 < n2) = true by simp [q1]]
    go_enter Tryz.func19, Tryz.ntmps19
    go_wp2_with fail
    go_ret
    exact ⟨rfl, rfl⟩
  · have b1 : ¬ (3000 : Int) < (n1 : Int) := by omega
    by_cases q2 : 3000 < n2
    · have b2 : (3000 : Int) < (n2 : Int) := by omega
      rw [show decide (3000 < n1 ∨ 3000 < n2) = true by simp [q2]]
      go_enter Tryz.func19, Tryz.ntmps19
      go_wp2_with fail
      go_ret
      exact ⟨rfl, rfl⟩
    · have b2 : ¬ (3000 : Int) < (n2 : Int) := by omega
      rw [show decide (3000 < n1 ∨ 3000 < n2) = false by simp [q1, q2]]
      go_enter Tryz.func19, Tryz.ntmps19
      go_wp2_with fail
      go_ret
      exact ⟨rfl, rfl⟩

end Go.Proofs.YtoeckejcmojeaaaGreat
