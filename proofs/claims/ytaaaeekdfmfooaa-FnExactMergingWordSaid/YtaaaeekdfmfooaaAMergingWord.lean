/- The law of MergingWord answers true. -/
import Derived.Test.YtaaaeekdfmfooaaRows
import Derived.Test.YtaaaeekdfmfooaaBase
import Derived.Test.YtaaaeekdfmfooaaAut
import Derived.Test.YtaaaeekdfmfooaaPlain1
import Derived.Test.YtaaaeekdfmfooaaPlainRun
import Derived.Test.YtaaaeekdfmfooaaPlainSet
import Derived.Test.YtaaaeekdfmfooaaPlainBits
import Derived.Test.YtaaaeekdfmfooaaPlainTour
import Derived.Test.YtaaaeekdfmfooaaPlainFirst
import Derived.Test.YtaaaeekdfmfooaaWMergingWord
import Derived.Test.YtaaaeekdfmfooaaSMerge
import Derived.Test.YtaaaeekdfmfooaaIMerge
import Derived.WalkKit
import Derived.WalkSpells
import Derived.WalkLawsBesides
import Derived.Deep.QuietTactic
import Derived.Deep.OwnRows
import Derived.BigQuiet
import Derived.KernelRfl
namespace Go.Proofs.Ytaaaeekdfmfooaa
open Go.RowKit

theorem MergingWord_len (a : Aut) (s t : Int) : (MergingWord a s t).1.length ≤ 1048576 := by
  unfold MergingWord
  split
  · rename_i ha
    have han := autOk_n ha
    split
    · rename_i hs
      rw [Bool.and_eq_true, inB_iff, inB_iff] at hs
      exact told_len _ _ (Nat.le_trans (firstWord_len (tourOk ha _ (pair_lt s t a.n (by omega) (by omega))) han.2 _) (by decide))
    · simp
  · simp
theorem FnExactMergingWord_any (v0 : Value) (a0 : Aut) (z1 z2 : Int) (w : World) (h0 : AutAt w v0 a0) :
    Calls Try.prog 5 #[v0, .int .i64 z1, .int .i64 z2] w fun e w' => e = .returned (.bool true) ∧ New w w' :=
  FnExactMergingWord_walk v0 a0 z1 z2 (MergingWord a0 z1 z2).1 (MergingWord a0 z1 z2).2 w h0 (fun w u0 k0 => specMergingWord_any u0 a0 z1 z2 w k0) (fun w u0 k0 => implMergingWord_any u0 a0 z1 z2 w k0) (MergingWord_len _ _ _)

end Go.Proofs.Ytaaaeekdfmfooaa
