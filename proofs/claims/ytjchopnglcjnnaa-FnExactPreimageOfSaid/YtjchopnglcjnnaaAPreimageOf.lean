/- The law of PreimageOf answers true. -/
import Derived.Test.YtjchopnglcjnnaaRows
import Derived.Test.YtjchopnglcjnnaaBase
import Derived.Test.YtjchopnglcjnnaaAut
import Derived.Test.YtjchopnglcjnnaaPlain1
import Derived.Test.YtjchopnglcjnnaaPlainRun
import Derived.Test.YtjchopnglcjnnaaPlainSet
import Derived.Test.YtjchopnglcjnnaaWPreimageOf
import Derived.Test.YtjchopnglcjnnaaPre
import Derived.Test.YtjchopnglcjnnaaI01p
import Derived.WalkKit
import Derived.WalkSpells
import Derived.WalkLawsBesides
import Derived.Deep.QuietTactic
import Derived.Deep.OwnRows
import Derived.BigQuiet
import Derived.KernelRfl
namespace Go.Proofs.Ytjchopnglcjnnaa
open Go.RowKit

theorem FnExactPreimageOf_any (v0 v1 v2 : Value) (a0 : Aut) (a1 a2 : List Int) (w : World) (h0 : AutAt w v0 a0) (h1 : IntsAt w v1 a1) (h2 : IntsAt w v2 a2) :
    Calls Try.prog 6 #[v0, v1, v2] w fun e w' => e = .returned (.bool true) ∧ New w w' :=
  FnExactPreimageOf_walk v0 v1 v2 a0 a1 a2 (PreimageOf a0 a1 a2).1 (PreimageOf a0 a1 a2).2 w h0 h1 h2 (fun w u0 u1 u2 k0 k1 k2 => specPreimageOf_any u0 u1 u2 a0 a1 a2 w k0 k1 k2) (fun w u0 u1 u2 k0 k1 k2 => implPreimageOf_any u0 u1 u2 a0 a1 a2 w k0 k1 k2) (by
    have := preOf_len a0 a1 a2
    unfold PreimageOf
    split
    · rename_i h
      have := autOk_n h
      split
      · simp; omega
      · simp
    · simp)

end Go.Proofs.Ytjchopnglcjnnaa
