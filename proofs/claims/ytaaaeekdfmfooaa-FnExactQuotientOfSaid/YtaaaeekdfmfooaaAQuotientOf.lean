/- The law of QuotientOf answers true. -/
import Derived.Test.YtaaaeekdfmfooaaRows
import Derived.Test.YtaaaeekdfmfooaaBase
import Derived.Test.YtaaaeekdfmfooaaAut
import Derived.Test.YtaaaeekdfmfooaaPlain1
import Derived.Test.YtaaaeekdfmfooaaPlainRun
import Derived.Test.YtaaaeekdfmfooaaPlainSet
import Derived.Test.YtaaaeekdfmfooaaPlainDiv
import Derived.Test.YtaaaeekdfmfooaaPlainTidy
import Derived.Test.YtaaaeekdfmfooaaPlainQuo
import Derived.Test.YtaaaeekdfmfooaaWQuotientOf
import Derived.Test.YtaaaeekdfmfooaaSQuo
import Derived.Test.YtaaaeekdfmfooaaIQuo
import Derived.WalkKit
import Derived.WalkSpells
import Derived.WalkLawsBesides
import Derived.Deep.QuietTactic
import Derived.Deep.OwnRows
import Derived.BigQuiet
import Derived.KernelRfl
namespace Go.Proofs.Ytaaaeekdfmfooaa
open Go.RowKit

theorem total_le10 (xss : List (List Int)) (k : Nat) (h : ∀ i, i < xss.length → (nth xss i).length ≤ k) : ∀ n, n ≤ xss.length → total (xss.take n) ≤ n * k
  | 0, _ => by simp [total]
  | n + 1, hn => by
    have ih := total_le10 xss k h n (by omega)
    rw [total_take_succ xss n (by omega)]
    have := h n (by omega)
    rw [Nat.succ_mul]; omega
theorem QuotientOf_big (a : Aut) (cl : List Int) : (QuotientOf a cl).1.nx.length ≤ 1048576 ∧ total (QuotientOf a cl).1.nx ≤ 1073741824 := by
  unfold QuotientOf
  split
  · rename_i ha
    have hal := autOk_l ha
    have han := autOk_n ha
    split
    · rename_i hd
      have hN := cls_le hd
      split
      · have h := total_le10 (quoOf a cl).nx 11 (fun i hi => by
          simp [quoOf] at hi
          unfold quoOf
          rw [nth_map _ _ _ hi]
          simp [quoRow, iota_length]; omega) (quoOf a cl).nx.length (Nat.le_refl _)
        rw [List.take_length] at h
        have h2 : (quoOf a cl).nx.length = a.nx.length := by simp [quoOf]
        show (quoOf a cl).nx.length ≤ _ ∧ total (quoOf a cl).nx ≤ _
        omega
      · simp [total]
    · simp [total]
  · simp [total]
theorem FnExactQuotientOf_any (v0 v1 : Value) (a0 : Aut) (a1 : List Int) (w : World) (h0 : AutAt w v0 a0) (h1 : IntsAt w v1 a1) :
    Calls Try.prog 10 #[v0, v1] w fun e w' => e = .returned (.bool true) ∧ New w w' :=
  FnExactQuotientOf_walk v0 v1 a0 a1 (QuotientOf a0 a1).1 (QuotientOf a0 a1).2 w h0 h1 (fun w u0 u1 k0 k1 => specQuotientOf_any u0 u1 a0 a1 w k0 k1) (fun w u0 u1 k0 k1 => implQuotientOf_any u0 u1 a0 a1 w k0 k1) (QuotientOf_big _ _)

end Go.Proofs.Ytaaaeekdfmfooaa
