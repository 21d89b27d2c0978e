/- The law of ReachedSets answers true. -/
import Derived.Test.YtcjmcpfdpnakkaaRows
import Derived.Test.YtcjmcpfdpnakkaaCore
import Derived.Test.YtcjmcpfdpnakkaaPlains
import Derived.Test.YtcjmcpfdpnakkaaPlainOrd
import Derived.Test.YtcjmcpfdpnakkaaWReachedSets
import Derived.Test.YtcjmcpfdpnakkaaSReach2
import Derived.Test.YtcjmcpfdpnakkaaIReach
import Derived.WalkKit
import Derived.WalkSpells
import Derived.WalkLawsBesides
import Derived.Deep.QuietTactic
import Derived.Deep.OwnRows
import Derived.BigQuiet
import Derived.KernelRfl
namespace Go.Proofs.Ytcjmcpfdpnakkaa
open Go.RowKit

theorem ReachedSets_big (a : Aut) : (ReachedSets a).1.length ≤ 1048576 ∧ total (ReachedSets a).1 ≤ 1073741824 := by
  unfold ReachedSets
  split
  · rename_i ha
    have hlen := (tourOk ha (full a.n) (full_lt a.n)).len (autOk_n ha).2
    generalize tourOf a.nx (full a.n) = T at hlen ⊢
    have hl : (buildR longLt (T.sets.map setOf)).length ≤ 1024 := by rw [buildR_len]; simpa using hlen
    have hp := (buildR_ok long_total (T.sets.map setOf)).2
    have ht := total_bound (buildR longLt (T.sets.map setOf)) 10 (fun i hi => by
      have := hp.subset (nth_mem _ _ hi)
      obtain ⟨x, _, hx⟩ := List.mem_map.1 this
      rw [← hx]; exact setOf_len x)
    refine ⟨Nat.le_trans hl (by decide), ?_⟩
    show total (buildR longLt (T.sets.map setOf)) ≤ _
    omega
  · simp [total]
theorem FnExactReachedSets_any (v0 : Value) (a0 : Aut) (w : World) (h0 : AutAt w v0 a0) :
    Calls Try.prog 11 #[v0] w fun e w' => e = .returned (.bool true) ∧ New w w' :=
  FnExactReachedSets_walk v0 a0 (ReachedSets a0).1 (ReachedSets a0).2 w h0 (fun w u0 k0 => specReachedSets_any u0 a0 w k0) (fun w u0 k0 => implReachedSets_any u0 a0 w k0) (ReachedSets_big a0)

end Go.Proofs.Ytcjmcpfdpnakkaa
