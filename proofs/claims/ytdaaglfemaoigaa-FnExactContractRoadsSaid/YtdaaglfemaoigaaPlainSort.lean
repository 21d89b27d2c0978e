/- Lists that are put in order, element by element. -/
import Derived.Test.YtdaaglfemaoigaaBase
import Derived.Test.YtdaaglfemaoigaaAut
import Derived.Test.YtdaaglfemaoigaaPlain1
import Derived.Test.YtdaaglfemaoigaaPlainRun
import Derived.Test.YtdaaglfemaoigaaPlainSet
import Derived.WalkKit
import Derived.WalkSpells
import Derived.WalkLawsBesides
import Derived.Deep.QuietTactic
import Derived.Deep.OwnRows
import Derived.BigQuiet
import Derived.KernelRfl
namespace Go.Proofs.Ytdaaglfemaoigaa
open Go.RowKit

/-- The elements at j and j + 1 change places. -/
def swapAt (xs : List Int) (j : Nat) : List Int := (xs.set (j + 1) (nth xs j)).set j (nth xs (j + 1))
/-- The element at j goes down to its place. -/
def downAt : Nat → List Int → List Int
  | 0, xs => xs
  | j + 1, xs => if nth xs (j + 1) < nth xs j then downAt j (swapAt xs j) else xs
/-- The first i + 1 elements are put in order. -/
def insTo (xs : List Int) : Nat → List Int
  | 0 => xs
  | i + 1 => downAt (i + 1) (insTo xs i)
def insAll (xs : List Int) : List Int := insTo xs (xs.length - 1)
theorem swapAt_len (xs : List Int) (j : Nat) : (swapAt xs j).length = xs.length := by simp [swapAt]
theorem downAt_len : ∀ (j : Nat) (xs : List Int), (downAt j xs).length = xs.length
  | 0, xs => rfl
  | j + 1, xs => by
    unfold downAt
    split
    · rw [downAt_len j, swapAt_len]
    · rfl
theorem insTo_len (xs : List Int) : ∀ i, (insTo xs i).length = xs.length
  | 0 => rfl
  | i + 1 => by rw [insTo, downAt_len, insTo_len xs i]
theorem insAll_len (xs : List Int) : (insAll xs).length = xs.length := insTo_len xs _
theorem downAt_go (j : Nat) (xs : List Int) (h : nth xs (j + 1) < nth xs j) : downAt (j + 1) xs = downAt j (swapAt xs j) := by rw [downAt, if_pos h]
theorem downAt_stay (j : Nat) (xs : List Int) (h : ¬ nth xs (j + 1) < nth xs j) : downAt (j + 1) xs = xs := by rw [downAt, if_neg h]
theorem swapAt_mem (xs : List Int) (j : Nat) (hj : j + 1 < xs.length) (x : Int) (h : x ∈ swapAt xs j) : x ∈ xs := by
  unfold swapAt at h
  rcases List.mem_or_eq_of_mem_set h with h | h
  · rcases List.mem_or_eq_of_mem_set h with h | h
    · exact h
    · subst h; exact nth_mem _ _ (by omega)
  · subst h; exact nth_mem _ _ hj
theorem downAt_mem : ∀ (j : Nat) (xs : List Int), j < xs.length → ∀ x, x ∈ downAt j xs → x ∈ xs
  | 0, xs, _, x, h => h
  | j + 1, xs, hj, x, h => by
    unfold downAt at h
    split at h
    · exact swapAt_mem xs j hj x (downAt_mem j _ (by rw [swapAt_len]; omega) x h)
    · exact h
theorem insTo_mem (xs : List Int) : ∀ i, i < xs.length → ∀ x, x ∈ insTo xs i → x ∈ xs
  | 0, _, x, h => h
  | i + 1, hi, x, h => by
    rw [insTo] at h
    exact insTo_mem xs i (by omega) x (downAt_mem (i + 1) _ (by rw [insTo_len]; exact hi) x h)
theorem insAll_mem (xs : List Int) (x : Int) (h : x ∈ insAll xs) : x ∈ xs := by
  unfold insAll at h
  by_cases e : xs.length = 0
  · rw [e] at h; exact h
  · exact insTo_mem xs _ (by omega) x h
-- the states to which the letters lead from a state
def leadsOf (nx : List (List Int)) (s : Int) : List Int := nx.map fun row => nth row s.toNat
theorem leadsOf_len (nx : List (List Int)) (s : Int) : (leadsOf nx s).length = nx.length := by simp [leadsOf]
def roadsOf (a : Aut) : Aut := ⟨a.n, (iota 0 a.n.toNat).map fun s => insAll (leadsOf a.nx s)⟩
def RoadsOf (a : Aut) : Aut × Int := if autOk a = true then (if 7 < a.n then (⟨0, []⟩, 3) else (roadsOf a, 0)) else (⟨0, []⟩, 1)

end Go.Proofs.Ytdaaglfemaoigaa
