/- The law of RoadsOf answers true. -/
import Derived.Test.YthbebnfhplacnaaDoorRows
import Derived.Test.YthbebnfhplacnaaDoorCore
import Derived.Test.YthbebnfhplacnaaDoorPlains
import Derived.Test.YthbebnfhplacnaaDoorJoins
import Derived.Test.YthbebnfhplacnaaDoorWRoadsOf
import Derived.Test.YthbebnfhplacnaaDoorSRoadsOf
import Derived.Test.YthbebnfhplacnaaDoorIRdss
import Derived.WalkKit
import Derived.WalkSpells
import Derived.WalkLawsBesides
import Derived.Deep.QuietTactic
import Derived.Deep.OwnRows
import Derived.BigQuiet
import Derived.KernelRfl
namespace Go.Proofs.YthbebnfhplacnaaDoor
open Go.RowKit

theorem total_le_mul (xss : List (List Int)) (n : Nat) (h : ∀ i, i < xss.length → (nth xss i).length ≤ n) : total xss ≤ xss.length * n := by
  have key : ∀ k, k ≤ xss.length → total (xss.take k) ≤ k * n := by
    intro k
    induction k with
    | zero => intro _; simp [total]
    | succ k ih =>
      intro hk
      have h1 := total_take_succ xss k (by omega)
      have h2 := ih (by omega)
      have h3 := h k (by omega)
      rw [Nat.add_mul]; omega
  have := key xss.length (Nat.le_refl _)
  rwa [List.take_length] at this
theorem RoadsOf_small (a : Aut) : (RoadsOf a).1.nx.length ≤ 1048576 ∧ total (RoadsOf a).1.nx ≤ 1073741824 := by
  unfold RoadsOf
  split
  · rename_i ha
    have han := autOk_n ha
    have hal := autOk_l ha
    split
    · simp [total]
    · have hl : (roadsOf a).nx.length = a.n.toNat := by simp [roadsOf, iota]
      have ht := total_le_mul (roadsOf a).nx 3 (fun i hi => by
        have : nth (roadsOf a).nx i ∈ (roadsOf a).nx := nth_mem _ _ hi
        obtain ⟨s, _, e⟩ := List.mem_map.1 this
        rw [← e, insAll_len, leadsOf_len]; omega)
      rw [hl] at ht
      show (roadsOf a).nx.length ≤ 1048576 ∧ total (roadsOf a).nx ≤ 1073741824
      refine ⟨by rw [hl]; omega, ?_⟩
      have : a.n.toNat * 3 ≤ 10 * 3 := Nat.mul_le_mul_right _ (by omega)
      omega
  · simp [total]

end Go.Proofs.YthbebnfhplacnaaDoor
