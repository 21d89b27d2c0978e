/- The reference's roads of which an automaton is a colouring. -/
import Derived.Test.YthbebnfhplacnaaDoorRows
import Derived.Test.YthbebnfhplacnaaDoorCore
import Derived.Test.YthbebnfhplacnaaDoorInfos
import Derived.Test.YthbebnfhplacnaaDoorPlains
import Derived.Test.YthbebnfhplacnaaDoorJoins
import Derived.Test.YthbebnfhplacnaaDoorSBase
import Derived.Test.YthbebnfhplacnaaDoorSRdss
import Derived.WalkKit
import Derived.WalkSpells
import Derived.WalkLawsBesides
import Derived.Deep.QuietTactic
import Derived.Deep.OwnRows
import Derived.BigQuiet
import Derived.KernelRfl
import Derived.Deep.RegionHeld3
namespace Go.Proofs.YthbebnfhplacnaaDoor
open Go.RowKit



end Go.Proofs.YthbebnfhplacnaaDoor
