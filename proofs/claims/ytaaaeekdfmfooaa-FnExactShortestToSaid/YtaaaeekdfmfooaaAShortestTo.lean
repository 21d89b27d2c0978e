/- The law of ShortestTo answers true. -/
import Derived.Test.YtaaaeekdfmfooaaRows
import Derived.Test.YtaaaeekdfmfooaaBase
import Derived.Test.YtaaaeekdfmfooaaAut
import Derived.Test.YtaaaeekdfmfooaaPlain1
import Derived.Test.YtaaaeekdfmfooaaPlainRun
import Derived.Test.YtaaaeekdfmfooaaPlainSet
import Derived.Test.YtaaaeekdfmfooaaPlainBits
import Derived.Test.YtaaaeekdfmfooaaPlainTour
import Derived.Test.YtaaaeekdfmfooaaPlainFirst
import Derived.Test.YtaaaeekdfmfooaaWShortestTo
import Derived.Test.YtaaaeekdfmfooaaSMerge
import Derived.Test.YtaaaeekdfmfooaaIMerge
import Derived.WalkKit
import Derived.WalkSpells
import Derived.WalkLawsBesides
import Derived.Deep.QuietTactic
import Derived.Deep.OwnRows
import Derived.BigQuiet
import Derived.KernelRfl
namespace Go.Proofs.Ytaaaeekdfmfooaa
open Go.RowKit

theorem ShortestTo_len (a : Aut) (s : Int) : (ShortestTo a s).1.length ≤ 1048576 := by
  unfold ShortestTo
  split
  · rename_i ha
    have han := autOk_n ha
    split
    · exact told_len _ _ (Nat.le_trans (firstWord_len (tourOk ha _ (full_lt a.n)) han.2 _) (by decide))
    · simp
  · simp
theorem FnExactShortestTo_any (v0 : Value) (a0 : Aut) (z1 : Int) (w : World) (h0 : AutAt w v0 a0) :
    Calls Try.prog 8 #[v0, .int .i64 z1] w fun e w' => e = .returned (.bool true) ∧ New w w' :=
  FnExactShortestTo_walk v0 a0 z1 (ShortestTo a0 z1).1 (ShortestTo a0 z1).2 w h0 (fun w u0 k0 => specShortestTo_any u0 a0 z1 w k0) (fun w u0 k0 => implShortestTo_any u0 a0 z1 w k0) (ShortestTo_len _ _)

end Go.Proofs.Ytaaaeekdfmfooaa
