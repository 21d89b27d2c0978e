/- The law of FirstFilling answers true. -/
import Derived.Test.YtieonifckmokkaaRows
import Derived.Test.YtieonifckmokkaaCore
import Derived.Test.YtieonifckmokkaaPlains
import Derived.Test.YtieonifckmokkaaDrawT
import Derived.Test.YtieonifckmokkaaPlainReset
import Derived.Test.YtieonifckmokkaaPlainFill
import Derived.Test.YtieonifckmokkaaSFill2
import Derived.Test.YtieonifckmokkaaIFirstFill
import Derived.Test.YtieonifckmokkaaWFirstFilling
import Derived.WalkKit
import Derived.WalkSpells
import Derived.WalkLawsBesides
import Derived.Deep.QuietTactic
import Derived.Deep.OwnRows
import Derived.BigQuiet
import Derived.KernelRfl
namespace Go.Proofs.Ytieonifckmokkaa
open Go.RowKit

theorem total_le_fill (xss : List (List Int)) (k : Nat) (h : ∀ i, i < xss.length → (nth xss i).length ≤ k) : ∀ n, n ≤ xss.length → total (xss.take n) ≤ n * k
  | 0, _ => by simp [total]
  | n + 1, hn => by
    have ih := total_le_fill xss k h n (by omega)
    rw [total_take_succ xss n (by omega)]
    have := h n (by omega)
    rw [Nat.succ_mul]; omega
theorem FirstFilling_big (p : Aut) : (FirstFilling p).1.nx.length ≤ 1048576 ∧ total (FirstFilling p).1.nx ≤ 1073741824 := by
  unfold FirstFilling
  split
  · rename_i hok
    have hf := part_facts hok
    split
    · simp [total]
    · split
      · simp [total]
      · have ha := fillN_ok hf (hitTo (fillW p) (fillCount p)).toNat
        have hal := autOk_l ha
        have han := autOk_n ha
        have h := total_le_fill (fillN p (hitTo (fillW p) (fillCount p)).toNat).nx 10 (fun i hi => by have := (autOk_row ha i hi).1; omega) _ (Nat.le_refl _)
        rw [List.take_length] at h
        show (fillN p (hitTo (fillW p) (fillCount p)).toNat).nx.length ≤ _ ∧ total (fillN p (hitTo (fillW p) (fillCount p)).toNat).nx ≤ _
        omega
  · simp [total]
theorem FnExactFirstFilling_any (v0 : Value) (a0 : Aut) (w : World) (h0 : AutAt w v0 a0) :
    Calls Try.prog 5 #[v0] w fun e w' => e = .returned (.bool true) ∧ New w w' :=
  FnExactFirstFilling_walk v0 a0 (FirstFilling a0).1 (FirstFilling a0).2 w h0 (fun w u0 k0 => specFirstFilling_any u0 a0 w k0) (fun w u0 k0 => implFirstFilling_any u0 a0 w k0) (FirstFilling_big _)

end Go.Proofs.Ytieonifckmokkaa
