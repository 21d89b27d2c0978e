/- The law of RoadsOf answers true, whatever its two functions return, if they return the same. -/
import Derived.Test.YthbebnfhplacnaaDoorRows
import Derived.Test.YthbebnfhplacnaaDoorCore
import Derived.Test.YthbebnfhplacnaaDoorLLaws
import Derived.Test.YthbebnfhplacnaaDoorLAut
import Derived.Test.YthbebnfhplacnaaDoorMLaws
import Derived.Test.YthbebnfhplacnaaDoorMAut
import Derived.WalkKit
import Derived.WalkSpells
import Derived.WalkLawsBesides
import Derived.Deep.QuietTactic
import Derived.Deep.OwnRows
import Derived.BigQuiet
import Derived.KernelRfl
import Derived.Deep.RegionHeld3
namespace Go.Proofs.YthbebnfhplacnaaDoor
open Go.RowKit



end Go.Proofs.YthbebnfhplacnaaDoor
