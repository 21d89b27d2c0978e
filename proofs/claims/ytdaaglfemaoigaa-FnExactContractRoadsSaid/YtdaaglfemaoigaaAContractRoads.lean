/- The law of ContractRoads answers true. -/
import Derived.Test.YtdaaglfemaoigaaRows
import Derived.Test.YtdaaglfemaoigaaBase
import Derived.Test.YtdaaglfemaoigaaAut
import Derived.Test.YtdaaglfemaoigaaPlain1
import Derived.Test.YtdaaglfemaoigaaPlainRun
import Derived.Test.YtdaaglfemaoigaaPlainSet
import Derived.Test.YtdaaglfemaoigaaPlainSort
import Derived.Test.YtdaaglfemaoigaaPlainDiv
import Derived.Test.YtdaaglfemaoigaaPlainQuo
import Derived.Test.YtdaaglfemaoigaaPlainRoads
import Derived.Test.YtdaaglfemaoigaaPlainCtr
import Derived.Test.YtdaaglfemaoigaaWContractRoads
import Derived.Test.YtdaaglfemaoigaaSCtr
import Derived.Test.YtdaaglfemaoigaaICtr
import Derived.WalkKit
import Derived.WalkSpells
import Derived.WalkLawsBesides
import Derived.Deep.QuietTactic
import Derived.Deep.OwnRows
import Derived.BigQuiet
import Derived.KernelRfl
namespace Go.Proofs.Ytdaaglfemaoigaa
open Go.RowKit

theorem total_le_rows3 (xss : List (List Int)) (k : Nat) (h : ∀ i, i < xss.length → (nth xss i).length ≤ k) : ∀ n, n ≤ xss.length → total (xss.take n) ≤ n * k
  | 0, _ => by simp [total]
  | n + 1, hn => by
    have ih := total_le_rows3 xss k h n (by omega)
    rw [total_take_succ xss n (by omega)]
    have := h n (by omega)
    rw [Nat.succ_mul]; omega
theorem ContractRoads_big (r : Aut) (cl : List Int) : (ContractRoads r cl).1.nx.length ≤ 1048576 ∧ total (ContractRoads r cl).1.nx ≤ 1073741824 := by
  unfold ContractRoads
  split
  · rename_i ha
    split
    · rename_i hd
      obtain ⟨f1, f2, f3, f4, f5⟩ := ctr_facts ha hd
      unfold ctrOut
      split
      · rename_i acc hacc
        obtain ⟨h1, h2⟩ := ctrTo_le _ _ hacc
        have h := total_le_rows3 acc 3 (fun i hi => by
          obtain ⟨s, hs, he⟩ := h2 i hi
          rw [he, ledOf_len]; exact (f4 s hs).2) _ (Nat.le_refl _)
        rw [List.take_length] at h
        show acc.length ≤ _ ∧ total acc ≤ _
        omega
      · simp [total]
    · simp [total]
  · simp [total]
theorem FnExactContractRoads_any (v0 v1 : Value) (a0 : Aut) (a1 : List Int) (w : World) (h0 : AutAt w v0 a0) (h1 : IntsAt w v1 a1) :
    Calls Try.prog 12 #[v0, v1] w fun e w' => e = .returned (.bool true) ∧ New w w' :=
  FnExactContractRoads_walk v0 v1 a0 a1 (ContractRoads a0 a1).1 (ContractRoads a0 a1).2 w h0 h1 (fun w u0 u1 k0 k1 => specContractRoads_any u0 u1 a0 a1 w k0 k1) (fun w u0 u1 k0 k1 => implContractRoads_any u0 u1 a0 a1 w k0 k1) (ContractRoads_big _ _)

end Go.Proofs.Ytdaaglfemaoigaa
