/- The law of RestrictTo answers true. -/
import Derived.Test.YtaaaeekdfmfooaaRows
import Derived.Test.YtaaaeekdfmfooaaBase
import Derived.Test.YtaaaeekdfmfooaaAut
import Derived.Test.YtaaaeekdfmfooaaPlain1
import Derived.Test.YtaaaeekdfmfooaaPlainRun
import Derived.Test.YtaaaeekdfmfooaaPlainSet
import Derived.Test.YtaaaeekdfmfooaaPlainRen
import Derived.Test.YtaaaeekdfmfooaaWRestrictTo
import Derived.Test.YtaaaeekdfmfooaaRestrict
import Derived.WalkKit
import Derived.WalkSpells
import Derived.WalkLawsBesides
import Derived.Deep.QuietTactic
import Derived.Deep.OwnRows
import Derived.BigQuiet
import Derived.KernelRfl
namespace Go.Proofs.Ytaaaeekdfmfooaa
open Go.RowKit

theorem RestrictTo_big (a : Aut) (set : List Int) : (RestrictTo a set).1.nx.length ≤ 1048576 ∧ total (RestrictTo a set).1.nx ≤ 1073741824 := by
  unfold RestrictTo
  split
  · rename_i ha
    have hal := autOk_l ha
    have han := autOk_n ha
    split
    · rename_i hs
      have := setB_len hs (by omega)
      split
      · simp [total]
      · split
        · have h := total_bound (renOf a set).nx 10 (fun i hi => by
            simp [renOf] at hi
            unfold renOf
            rw [nth_map _ _ _ hi]
            simp [renRow]; omega)
          have h2 : (renOf a set).nx.length = a.nx.length := by simp [renOf]
          show (renOf a set).nx.length ≤ _ ∧ total (renOf a set).nx ≤ _
          omega
        · simp [total]
    · simp [total]
  · simp [total]
theorem FnExactRestrictTo_any (v0 v1 : Value) (a0 : Aut) (a1 : List Int) (w : World) (h0 : AutAt w v0 a0) (h1 : IntsAt w v1 a1) :
    Calls Try.prog 3 #[v0, v1] w fun e w' => e = .returned (.bool true) ∧ New w w' :=
  FnExactRestrictTo_walk v0 v1 a0 a1 (RestrictTo a0 a1).1 (RestrictTo a0 a1).2 w h0 h1 (fun w u0 u1 k0 k1 => specRestrictTo_any u0 u1 a0 a1 w k0 k1) (fun w u0 u1 k0 k1 => implRestrictTo_any u0 u1 a0 a1 w k0 k1) (RestrictTo_big _ _)

end Go.Proofs.Ytaaaeekdfmfooaa
