/- The law of OutputsOf answers true. -/
import Derived.Test.YtjchopnglcjnnaaRows
import Derived.Test.YtjchopnglcjnnaaBase
import Derived.Test.YtjchopnglcjnnaaAut
import Derived.Test.YtjchopnglcjnnaaMach
import Derived.Test.YtjchopnglcjnnaaPlain1
import Derived.Test.YtjchopnglcjnnaaPlainRun
import Derived.Test.YtjchopnglcjnnaaPlainOut
import Derived.Test.YtjchopnglcjnnaaWOutputsOf
import Derived.Test.YtjchopnglcjnnaaS06c
import Derived.Test.YtjchopnglcjnnaaI06b
import Derived.WalkKit
import Derived.WalkSpells
import Derived.WalkLawsBesides
import Derived.Deep.QuietTactic
import Derived.Deep.OwnRows
import Derived.BigQuiet
import Derived.KernelRfl
namespace Go.Proofs.Ytjchopnglcjnnaa
open Go.RowKit

theorem FnExactOutputsOf_any (v0 v2 : Value) (a0 : Mach) (z1 : Int) (a2 : List Int) (w : World) (h0 : MachAt w v0 a0) (h2 : IntsAt w v2 a2) :
    Calls Try.prog 8 #[v0, .int .i64 z1, v2] w fun e w' => e = .returned (.bool true) ∧ New w w' :=
  FnExactOutputsOf_walk v0 v2 a0 z1 a2 (OutputsOf a0 z1 a2).1 (OutputsOf a0 z1 a2).2.1 (OutputsOf a0 z1 a2).2.2 w h0 h2 (fun w u0 u2 k0 k2 => specOutputsOf_any u0 u2 a0 z1 a2 w k0 k2) (fun w u0 u2 k0 k2 => implOutputsOf_any u0 u2 a0 z1 a2 w k0 k2) (by
    unfold OutputsOf
    split
    · split
      · rename_i h
        rw [Bool.and_eq_true] at h
        have := ((wordOk_iff _ _).1 h.2).1
        show (outsTo _ _ _ _).length ≤ _
        rw [outsTo_len]; omega
      · simp
    · simp)

end Go.Proofs.Ytjchopnglcjnnaa
