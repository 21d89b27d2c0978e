/- Words and sets are drawn; parts of lists; the same choices. -/
import Derived.Test.YthbebnfhplacnaaGreatRows
import Derived.Test.YthbebnfhplacnaaGreatCore
import Derived.Test.YthbebnfhplacnaaGreatInfos
import Derived.Test.YthbebnfhplacnaaGreatPlains
import Derived.Test.YthbebnfhplacnaaGreatArrs
import Derived.Test.YthbebnfhplacnaaGreatSDraw
import Derived.Test.YthbebnfhplacnaaGreatDrawT
import Derived.Test.YthbebnfhplacnaaGreatSBase
import Derived.WalkKit
import Derived.WalkSpells
import Derived.WalkLawsBesides
import Derived.Deep.QuietTactic
import Derived.Deep.OwnRows
import Derived.BigQuiet
import Derived.KernelRfl
import Derived.Carry
import Derived.Deep.RegionHeld3
namespace Go.Proofs.YthbebnfhplacnaaGreat
open Go.RowKit

set_option maxHeartbeats 400000 in
theorem f6big_any (v : Value) (n : Nat) (w : World) (h : BytesAt w v n) :
    Calls Tryz.prog 4 #[v] w fun e w' => e = .returned (.bool (decide (4096 < n))) ∧ w' = w := by
  obtain ⟨A, c, rfl, _, _⟩ := h
  by_cases hl : 4096 < n
  · have hi : (4096 : Int) < (n : Int) := by omega
    rw [decide_eq_true hl]
    go_enter Tryz.func4, Tryz.ntmps4
    go_wp2_with fail
    go_ret
    exact ⟨rfl, rfl⟩
  · have hi : ¬ (4096 : Int) < (n : Int) := by omega
    rw [decide_eq_false hl]
    go_enter Tryz.func4, Tryz.ntmps4
    go_wp2_with fail
    go_ret
    exact ⟨rfl, rfl⟩
/-- Rising numbers from 0 on below a bound. -/
def risTo (x : Nat) (xs : List Int) : Prop := (∀ i, i < xs.length → 0 ≤ nth xs i ∧ nth xs i < (x : Int)) ∧ ∀ i, i + 1 < xs.length → nth xs i < nth xs (i + 1)
theorem risTo_nil (x : Nat) : risTo x [] := ⟨fun i hi => by simp at hi, fun i hi => by simp at hi⟩
theorem risTo.mono {x y : Nat} {xs : List Int} (h : risTo x xs) (hxy : x ≤ y) : risTo y xs := ⟨fun i hi => by have := h.1 i hi; omega, h.2⟩
theorem risTo.snoc {x : Nat} {xs : List Int} (h : risTo x xs) : risTo (x + 1) (xs ++ [(x : Int)]) := by
  refine ⟨fun i hi => ?_, fun i hi => ?_⟩
  · rw [List.length_append, List.length_singleton] at hi
    by_cases e : i < xs.length
    · rw [nth_append_left _ _ _ e]; have := h.1 i e; omega
    · have e2 : i = xs.length := by omega
      subst e2
      rw [nth_append_here]; omega
  · rw [List.length_append, List.length_singleton] at hi
    rw [nth_append_left _ _ _ (by omega)]
    by_cases e : i + 1 < xs.length
    · rw [nth_append_left _ _ _ e]; exact h.2 i e
    · have e2 : i + 1 = xs.length := by omega
      rw [e2, nth_append_here]
      exact (h.1 i (by omega)).2
theorem risTo.set {x : Nat} {xs : List Int} (h : risTo x xs) : setB xs (x : Int) = true := by
  unfold setB
  rw [riseB_iff]
  intro i hi
  unfold riseAt
  rw [Bool.and_eq_true, inB_iff]
  refine ⟨by have := h.1 i hi; omega, ?_⟩
  cases i with
  | zero => rfl
  | succ i => simpa using h.2 i hi

end Go.Proofs.YthbebnfhplacnaaGreat
