/- Parts of the proof that lean on no program: IQuick, IQuick2, IFirstReset, IFirstReset2. -/
import Derived.Test.YthbebnfhplacnaaGreatRows
import Derived.Test.YthbebnfhplacnaaGreatCore
import Derived.Test.YthbebnfhplacnaaGreatInfos
import Derived.Test.YthbebnfhplacnaaGreatPlains
import Derived.Test.YthbebnfhplacnaaGreatJoins
import Derived.Test.YthbebnfhplacnaaGreatQuicks
import Derived.Test.YthbebnfhplacnaaGreatMaps
import Derived.Test.YthbebnfhplacnaaGreatArrs
import Derived.Test.YthbebnfhplacnaaGreatIArrs
import Derived.Test.YthbebnfhplacnaaGreatIColG
import Derived.Test.YthbebnfhplacnaaGreatIRdss
import Derived.Test.YthbebnfhplacnaaGreatITours
import Derived.Test.YthbebnfhplacnaaGreatPlainReset
import Derived.WalkKit
import Derived.WalkSpells
import Derived.WalkLawsBesides
import Derived.Deep.QuietTactic
import Derived.Deep.OwnRows
import Derived.BigQuiet
import Derived.KernelRfl
import Derived.Carry
import Derived.Deep.RegionHeld3
import Derived.Laws.EntriesVeiled
namespace Go.Proofs.YthbebnfhplacnaaGreat
open Go.RowKit

section
theorem survey_vals {r : Aut} (hf : RoadsFacts r) (n : Nat) : ((colW r n).2 = true → (surveyOf (colN r n)).1 = 1 ∧ (surveyOf (colN r n)).2 = ((colW r n).1.length : Int)) ∧ ((colW r n).2 = false → ¬ (surveyOf (colN r n)).1 = 1) := by
  constructor
  · intro h
    have := survey_yes (a := colN r n) h
    rw [this]
    exact ⟨rfl, rfl⟩
  · intro h
    exact survey_no (colN_ok hf n) (colN_n hf n) h
end
section
theorem colCode_true {r : Aut} (h : colCode r = 0) : roadsOk r = true ∧ ¬ 50000 < colCount r := by
  unfold colCode at h
  split at h
  · rename_i h1
    refine ⟨h1, ?_⟩
    split at h
    · cases h
    · assumption
  · cases h
theorem reset_colN {r : Aut} (hf : RoadsFacts r) (N : Nat) (hw : (colW r N).2 = true) : ShortestReset (colN r N) = ((colW r N).1, 0) := by
  unfold ShortestReset
  rw [if_pos (colN_ok hf N)]
  show told (colW r N) = _
  unfold told
  rw [if_pos hw]
end
section
end
section
theorem hitTo_end {f : Nat → List Int × Bool} {N C : Nat} (hN : N ≤ C) (h : N < C → 0 < N ∧ (!(f (N - 1)).2) = false) : hitTo f N = hitTo f C := by
  rcases Nat.lt_or_ge N C with q | q
  · obtain ⟨h0, h1⟩ := h q
    have hp : 0 ≤ hitTo f N := by
      rcases Int.lt_or_le (hitTo f N) 0 with e | e
      · have := (hitTo_neg f N).1 e (N - 1) (by omega)
        rw [this] at h1; cases h1
      · exact e
    have := hitTo_stay hp (C - N)
    rw [show N + (C - N) = C by omega] at this
    exact this.symm
  · rw [show N = C by omega]
end

end Go.Proofs.YthbebnfhplacnaaGreat
