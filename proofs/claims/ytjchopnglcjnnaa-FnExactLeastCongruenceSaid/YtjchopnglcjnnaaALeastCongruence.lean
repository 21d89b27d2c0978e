/- The law of LeastCongruence answers true. -/
import Derived.Test.YtjchopnglcjnnaaRows
import Derived.Test.YtjchopnglcjnnaaBase
import Derived.Test.YtjchopnglcjnnaaAut
import Derived.Test.YtjchopnglcjnnaaPlain1
import Derived.Test.YtjchopnglcjnnaaPlainRun
import Derived.Test.YtjchopnglcjnnaaPlainSet
import Derived.Test.YtjchopnglcjnnaaPlainTidy
import Derived.Test.YtjchopnglcjnnaaPlainCong
import Derived.Test.YtjchopnglcjnnaaWLeastCongruence
import Derived.Test.YtjchopnglcjnnaaSCong
import Derived.Test.YtjchopnglcjnnaaICong
import Derived.WalkKit
import Derived.WalkSpells
import Derived.WalkLawsBesides
import Derived.Deep.QuietTactic
import Derived.Deep.OwnRows
import Derived.BigQuiet
import Derived.KernelRfl
namespace Go.Proofs.Ytjchopnglcjnnaa
open Go.RowKit

theorem LeastCongruence_len (a : Aut) (s t : Int) : (LeastCongruence a s t).1.length ≤ 1048576 := by
  unfold LeastCongruence LeastCongruenceR
  split
  · rename_i ha
    have han := autOk_n ha
    split
    · show (lcOf a s.toNat t.toNat).length ≤ _
      by_cases h : ∃ m, Final a s.toNat t.toNat m
      · obtain ⟨m, hm⟩ := h
        rw [lcOf_eq hm]
        unfold tidyOf
        rw [tidyTo_len, hm.len]; omega
      · unfold lcOf; rw [dif_neg h]; simp
    · simp
  · simp
theorem FnExactLeastCongruence_any (v0 : Value) (a0 : Aut) (z1 z2 : Int) (w : World) (h0 : AutAt w v0 a0) :
    Calls Try.prog 9 #[v0, .int .i64 z1, .int .i64 z2] w fun e w' => e = .returned (.bool true) ∧ New w w' :=
  FnExactLeastCongruence_walk v0 a0 z1 z2 (LeastCongruence a0 z1 z2).1 (LeastCongruence a0 z1 z2).2 w h0 (fun w u0 k0 => specLeastCongruence_any u0 a0 z1 z2 w k0) (fun w u0 k0 => implLeastCongruence_any u0 a0 z1 z2 w k0) (LeastCongruence_len _ _ _)

end Go.Proofs.Ytjchopnglcjnnaa
