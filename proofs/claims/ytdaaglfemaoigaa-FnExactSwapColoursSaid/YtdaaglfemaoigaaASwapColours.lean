/- The law of SwapColours answers true. -/
import Derived.Test.YtdaaglfemaoigaaRows
import Derived.Test.YtdaaglfemaoigaaBase
import Derived.Test.YtdaaglfemaoigaaAut
import Derived.Test.YtdaaglfemaoigaaPlain1
import Derived.Test.YtdaaglfemaoigaaPlainRun
import Derived.Test.YtdaaglfemaoigaaPlainSet
import Derived.Test.YtdaaglfemaoigaaPlainRen
import Derived.Test.YtdaaglfemaoigaaPlainSwap
import Derived.Test.YtdaaglfemaoigaaWSwapColours
import Derived.Test.YtdaaglfemaoigaaSSwap
import Derived.Test.YtdaaglfemaoigaaISwap2
import Derived.WalkKit
import Derived.WalkSpells
import Derived.WalkLawsBesides
import Derived.Deep.QuietTactic
import Derived.Deep.OwnRows
import Derived.BigQuiet
import Derived.KernelRfl
namespace Go.Proofs.Ytdaaglfemaoigaa
open Go.RowKit

theorem swap_rows_ok (a : Aut) (k : Nat) (_hl : a.nx.length ≤ 3) (h : ∀ i, i < a.nx.length → (nth a.nx i).length ≤ k) (s x y : Int) (hx : x.toNat < a.nx.length) (hy : y.toNat < a.nx.length) : (swapOf a s x y).nx.length = a.nx.length ∧ ∀ i, i < a.nx.length → (nth (swapOf a s x y).nx i).length ≤ k := by
  unfold swapOf
  refine ⟨by simp [putAt_len], fun i hi => ?_⟩
  show (nth (putAt _ _ _ _) i).length ≤ k
  rw [putAt_rowlen _ _ _ _ _ (by rw [putAt_len]; exact hy), putAt_rowlen _ _ _ _ _ hx]
  exact h i hi
theorem total_le_rows (xss : List (List Int)) (k : Nat) (h : ∀ i, i < xss.length → (nth xss i).length ≤ k) : ∀ n, n ≤ xss.length → total (xss.take n) ≤ n * k
  | 0, _ => by simp [total]
  | n + 1, hn => by
    have ih := total_le_rows xss k h n (by omega)
    rw [total_take_succ xss n (by omega)]
    have := h n (by omega)
    rw [Nat.succ_mul]; omega
theorem SwapColours_big (a : Aut) (s x y : Int) : (SwapColours a s x y).1.nx.length ≤ 1048576 ∧ total (SwapColours a s x y).1.nx ≤ 1073741824 := by
  unfold SwapColours
  split
  · rename_i ha
    have hal := autOk_l ha
    have han := autOk_n ha
    split
    · rename_i hs
      unfold swapIn at hs
      rw [Bool.and_eq_true, Bool.and_eq_true, inB_iff, inB_iff, inB_iff] at hs
      obtain ⟨h1, h2⟩ := swap_rows_ok a 10 hal.2 (fun i hi => by have := (autOk_row ha i hi).1; omega) s x y (by omega) (by omega)
      have h := total_le_rows (swapOf a s x y).nx 10 (fun i hi => h2 i (by omega)) _ (Nat.le_refl _)
      rw [List.take_length] at h
      show (swapOf a s x y).nx.length ≤ _ ∧ total (swapOf a s x y).nx ≤ _
      omega
    · simp [total]
  · simp [total]
theorem FnExactSwapColours_any (v0 : Value) (a0 : Aut) (z1 z2 z3 : Int) (w : World) (h0 : AutAt w v0 a0) :
    Calls Try.prog 3 #[v0, .int .i64 z1, .int .i64 z2, .int .i64 z3] w fun e w' => e = .returned (.bool true) ∧ New w w' :=
  FnExactSwapColours_walk v0 a0 z1 z2 z3 (SwapColours a0 z1 z2 z3).1 (SwapColours a0 z1 z2 z3).2 w h0 (fun w u0 k0 => specSwapColours_any u0 a0 z1 z2 z3 w k0) (fun w u0 k0 => implSwapColours_any u0 a0 z1 z2 z3 w k0) (SwapColours_big _ _ _ _)

end Go.Proofs.Ytdaaglfemaoigaa
