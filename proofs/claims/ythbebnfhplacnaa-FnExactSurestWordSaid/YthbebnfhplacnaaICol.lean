/- The program's calls of a function for all colourings. -/
import Derived.Test.YthbebnfhplacnaaRows
import Derived.Test.YthbebnfhplacnaaCore
import Derived.Test.YthbebnfhplacnaaInfos
import Derived.Test.YthbebnfhplacnaaPlains
import Derived.Test.YthbebnfhplacnaaJoins
import Derived.Test.YthbebnfhplacnaaQuicks
import Derived.Test.YthbebnfhplacnaaMaps
import Derived.Test.YthbebnfhplacnaaArrs
import Derived.Test.YthbebnfhplacnaaIBase
import Derived.Test.YthbebnfhplacnaaIArrs
import Derived.Test.YthbebnfhplacnaaIAt
import Derived.Test.YthbebnfhplacnaaIRdss
import Derived.Test.YthbebnfhplacnaaISurvey
import Derived.WalkKit
import Derived.WalkSpells
import Derived.WalkLawsBesides
import Derived.Deep.QuietTactic
import Derived.Deep.OwnRows
import Derived.BigQuiet
import Derived.KernelRfl
import Derived.Laws.EntriesVeiled
namespace Go.Proofs.Ythbebnfhplacnaa
open Go.RowKit

def colCode (r : Aut) : Int := if roadsOk r = true then (if 50000 < colCount r then 3 else 0) else 1
theorem RowsAt.solidOld {w0 w : World} {S : Nat → Prop} {v : Value} {xss : List (List Int)} (h : RowsAt w0 v xss) (hn : New w0 w) (hS : ∀ q, S q → w0.heap.size ≤ q) : Solid S w (fun w => RowsAt w v xss) := fun _ hb => h.new (But.new hn hb hS)

end Go.Proofs.Ythbebnfhplacnaa
