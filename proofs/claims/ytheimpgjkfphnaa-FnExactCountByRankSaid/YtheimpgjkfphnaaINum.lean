/- The program's divisions with their classes numbered in order; the kernel of a word. -/
import Derived.Test.YtheimpgjkfphnaaRows
import Derived.Test.YtheimpgjkfphnaaBase
import Derived.Test.YtheimpgjkfphnaaAut
import Derived.Test.YtheimpgjkfphnaaApp
import Derived.Test.YtheimpgjkfphnaaAppRows
import Derived.Test.YtheimpgjkfphnaaInfo
import Derived.Test.YtheimpgjkfphnaaMapV
import Derived.Test.YtheimpgjkfphnaaPlain1
import Derived.Test.YtheimpgjkfphnaaPlainRun
import Derived.Test.YtheimpgjkfphnaaPlainTidy
import Derived.Test.YtheimpgjkfphnaaI01a
import Derived.Test.YtheimpgjkfphnaaI01b
import Derived.Test.YtheimpgjkfphnaaI01c
import Derived.WalkKit
import Derived.WalkSpells
import Derived.WalkLawsBesides
import Derived.Deep.QuietTactic
import Derived.Deep.OwnRows
import Derived.BigQuiet
import Derived.KernelRfl
import Derived.Carry
namespace Go.Proofs.Ytheimpgjkfphnaa
open Go.RowKit

/-- What the map of numbers holds. -/
def numF (acc : List Int) : Lit → Option Value
  | .int .i64 x => if hasB acc x = true then some (.int .i64 (placeOf acc x)) else none
  | _ => none
theorem numF_put (acc : List Int) (x : Int) (h : hasB acc x = false) (kl : Lit) : putF (numF acc) (.int .i64 x) (.int .i64 (acc.length : Nat)) kl = numF (acc ++ [x]) kl := by
  have hx : x ∉ acc := by rw [← hasB_iff, h]; simp
  unfold putF
  by_cases e : kl = .int .i64 x
  · subst e
    rw [if_pos rfl]
    simp only [numF]
    rw [if_pos ((hasB_iff _ _).2 (by simp)), placeOf_new _ _ hx]
  · rw [if_neg e]
    cases kl with
    | int q y =>
      cases q with
      | i64 =>
        have hne : y ≠ x := fun h => e (by rw [h])
        simp only [numF]
        have h1 : hasB (acc ++ [x]) y = hasB acc y := by rw [Bool.eq_iff_iff, hasB_iff, hasB_iff]; simp [hne]
        rw [h1]
        by_cases h2 : hasB acc y = true
        · rw [if_pos h2, if_pos h2, placeOf_left _ _ _ ((hasB_iff _ _).1 h2)]
        · rw [if_neg h2, if_neg h2]
      | _ => rfl
    | _ => rfl
theorem MapAt.len {P : Program} {K : TypeId} {w : World} {b s : Nat} {F : Lit → Option Value} (h : MapAt P K w b s F) {t e : TypeId} (ht : P.underlying t = some (.map K e)) (ty : TypeId) : Sem.run P (Builtin.len_ #[t] ty #[.map (some b)]) w = .ok (.int .i64 (s : Nat)) w := by
  obtain ⟨D, h1, h2, _⟩ := h
  have := h1.len ht ty
  rw [h2] at this
  exact this
theorem zero_i64 (w : World) : (zeroValue 2).run Try.prog w = .ok (.int .i64 0) w := by kernel_rfl

end Go.Proofs.Ytheimpgjkfphnaa
