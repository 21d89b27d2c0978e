/- The law of IdentifyingWord answers true. -/
import Derived.Test.YtnhjoiafadapaaaRows
import Derived.Test.YtnhjoiafadapaaaCore
import Derived.Test.YtnhjoiafadapaaaPlains
import Derived.Test.YtnhjoiafadapaaaPlainApart
import Derived.Test.YtnhjoiafadapaaaPlainIdent
import Derived.Test.YtnhjoiafadapaaaSIdent
import Derived.Test.YtnhjoiafadapaaaIIdent
import Derived.Test.YtnhjoiafadapaaaWIdentifyingWord
import Derived.WalkKit
import Derived.WalkSpells
import Derived.WalkLawsBesides
import Derived.Deep.QuietTactic
import Derived.Deep.OwnRows
import Derived.BigQuiet
import Derived.KernelRfl
namespace Go.Proofs.Ytnhjoiafadapaaa
open Go.RowKit

theorem FnExactIdentifyingWord_any (v0 : Value) (m0 : Mach) (s : Int) (w : World) (h0 : MachAt w v0 m0) :
    Calls Try.prog 4 #[v0, .int .i64 s] w fun e w' => e = .returned (.bool true) ∧ New w w' :=
  FnExactIdentifyingWord_walk v0 m0 s (IdentifyingWord m0 s).1 (IdentifyingWord m0 s).2 w h0 (fun w u0 k0 => specIdentifyingWord_any u0 m0 s w k0) (fun w u0 k0 => implIdentifyingWord_any u0 m0 s w k0) (IdentifyingWord_len m0 s)

end Go.Proofs.Ytnhjoiafadapaaa
