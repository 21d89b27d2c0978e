/- The reference's automaton of a machine. -/
import Derived.Test.YtdaaglfemaoigaaRows
import Derived.Test.YtdaaglfemaoigaaBase
import Derived.Test.YtdaaglfemaoigaaAut
import Derived.Test.YtdaaglfemaoigaaMach
import Derived.Test.YtdaaglfemaoigaaApp
import Derived.Test.YtdaaglfemaoigaaAppRows
import Derived.Test.YtdaaglfemaoigaaInfo
import Derived.Test.YtdaaglfemaoigaaPlain1
import Derived.Test.YtdaaglfemaoigaaPlainRun
import Derived.Test.YtdaaglfemaoigaaPMach
import Derived.Test.YtdaaglfemaoigaaPlainOut
import Derived.Test.YtdaaglfemaoigaaS06b
import Derived.Test.YtdaaglfemaoigaaSOwn
import Derived.WalkKit
import Derived.WalkSpells
import Derived.WalkLawsBesides
import Derived.Deep.QuietTactic
import Derived.Deep.OwnRows
import Derived.BigQuiet
import Derived.KernelRfl
import Derived.Deep.RegionHeld3
namespace Go.Proofs.Ytdaaglfemaoigaa
open Go.RowKit

def ForgetOutputs (m : Mach) : Aut × Int := if machOk m = true then (m.aut, 0) else (⟨0, []⟩, 1)
theorem machOk_small {m : Mach} (h : machOk m = true) : m.nx.length ≤ 3 ∧ ∀ i, i < m.nx.length → (nth m.nx i).length ≤ 10 := by
  have ha := (machOk_parts h).1
  have h1 := autOk_l ha
  have h2 := autOk_n ha
  refine ⟨h1.2, fun i hi => ?_⟩
  have h3 := (autOk_row ha i hi).1
  have e : m.aut.n = m.n := rfl
  have e2 : m.aut.nx = m.nx := rfl
  rw [e2] at h3; omega

end Go.Proofs.Ytdaaglfemaoigaa
