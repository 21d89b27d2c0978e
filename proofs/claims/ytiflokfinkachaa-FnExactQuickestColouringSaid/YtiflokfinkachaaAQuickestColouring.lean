/- The law of QuickestColouring answers true. -/
import Derived.Test.YtiflokfinkachaaRows
import Derived.Test.YtiflokfinkachaaCore
import Derived.Test.YtiflokfinkachaaPlains
import Derived.Test.YtiflokfinkachaaJoins
import Derived.Test.YtiflokfinkachaaQuicks
import Derived.Test.YtiflokfinkachaaSArr
import Derived.Test.YtiflokfinkachaaSChoices
import Derived.Test.YtiflokfinkachaaSRef
import Derived.Test.YtiflokfinkachaaSQuick
import Derived.Test.YtiflokfinkachaaIQuick2
import Derived.Test.YtiflokfinkachaaWQuickestColouring
import Derived.WalkKit
import Derived.WalkSpells
import Derived.WalkLawsBesides
import Derived.Deep.QuietTactic
import Derived.Deep.OwnRows
import Derived.BigQuiet
import Derived.KernelRfl
namespace Go.Proofs.Ytiflokfinkachaa
open Go.RowKit

theorem quick_len (r : Aut) : (QuickestColouring r).2.1.length ≤ 1048576 := by
  obtain ⟨F, hF⟩ : ∃ F, F = colW r := ⟨_, rfl⟩
  unfold QuickestColouring
  rw [← hF]
  split
  · rename_i hok
    have hf := roads_facts hok
    have hl : ∀ N, (F N).1.length ≤ 1024 := fun N => by rw [hF]; exact colW_len hf N
    split
    · simp
    · split
      · simp
      · rename_i hq
        show (quickWord F (colCount r)).length ≤ 1048576
        unfold quickWord
        rw [if_neg hq]
        have := hl (quickAt F (colCount r)).toNat
        omega
  · simp
theorem FnExactQuickestColouring_any (v0 : Value) (a0 : Aut) (w : World) (h0 : AutAt w v0 a0) :
    Calls Try.prog 6 #[v0] w fun e w' => e = .returned (.bool true) ∧ New w w' :=
  FnExactQuickestColouring_walk v0 a0 (QuickestColouring a0).1 (QuickestColouring a0).2.1 (QuickestColouring a0).2.2 w h0 (fun w u0 k0 => specQuickestColouring_any u0 a0 w k0) (fun w u0 k0 => implQuickestColouring_any u0 a0 w k0) (quick_len a0)

end Go.Proofs.Ytiflokfinkachaa
