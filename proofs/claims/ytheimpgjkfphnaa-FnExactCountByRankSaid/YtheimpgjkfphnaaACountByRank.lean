/- The law of CountByRank answers true. -/
import Derived.Test.YtheimpgjkfphnaaRows
import Derived.Test.YtheimpgjkfphnaaBase
import Derived.Test.YtheimpgjkfphnaaAut
import Derived.Test.YtheimpgjkfphnaaPlainCnt
import Derived.Test.YtheimpgjkfphnaaWCountByRank
import Derived.Test.YtheimpgjkfphnaaSRankCnt
import Derived.Test.YtheimpgjkfphnaaIRankCnt
import Derived.WalkKit
import Derived.WalkSpells
import Derived.WalkLawsBesides
import Derived.Deep.QuietTactic
import Derived.Deep.OwnRows
import Derived.BigQuiet
import Derived.KernelRfl
namespace Go.Proofs.Ytheimpgjkfphnaa
open Go.RowKit

theorem CountByRank_len (a : Aut) (len : Int) : (CountByRank a len).1.length ≤ 1048576 := by
  unfold CountByRank
  split
  · rename_i ha
    have := autOk_n ha
    split
    · simp; omega
    · simp
  · simp
theorem FnExactCountByRank_any (v0 : Value) (a0 : Aut) (z1 : Int) (w : World) (h0 : AutAt w v0 a0) :
    Calls Try.prog 5 #[v0, .int .i64 z1] w fun e w' => e = .returned (.bool true) ∧ New w w' :=
  FnExactCountByRank_walk v0 a0 z1 (CountByRank a0 z1).1 (CountByRank a0 z1).2 w h0 (fun w u0 k0 => specCountByRank_any u0 a0 z1 w k0) (fun w u0 k0 => implCountByRank_any u0 a0 z1 w k0) (CountByRank_len _ _)

end Go.Proofs.Ytheimpgjkfphnaa
