/- Divisions with their classes numbered in order. -/
import Derived.Test.YtdaaglfemaoigaaBase
import Derived.Test.YtdaaglfemaoigaaAut
import Derived.Test.YtdaaglfemaoigaaPlain1
import Derived.Test.YtdaaglfemaoigaaPlainRun
import Derived.Test.YtdaaglfemaoigaaPlainSet
import Derived.Test.YtdaaglfemaoigaaPlainRen
import Derived.Test.YtdaaglfemaoigaaAppRows
import Derived.WalkKit
import Derived.WalkSpells
import Derived.WalkLawsBesides
import Derived.Deep.QuietTactic
import Derived.Deep.OwnRows
import Derived.BigQuiet
import Derived.KernelRfl
namespace Go.Proofs.Ytdaaglfemaoigaa
open Go.RowKit

def addNew (acc : List Int) (x : Int) : List Int := if hasB acc x = true then acc else acc ++ [x]
/-- The different numbers of a list, in the order in which they come. -/
def firsts (xs : List Int) : List Int := xs.foldl addNew []
theorem firsts_snoc (xs : List Int) (x : Int) : firsts (xs ++ [x]) = addNew (firsts xs) x := by simp [firsts]
theorem firsts_take (xs : List Int) (k : Nat) (h : k < xs.length) : firsts (xs.take (k + 1)) = addNew (firsts (xs.take k)) (nth xs k) := by
  rw [take_succ_nth xs k h, firsts_snoc]
theorem mem_addNew (acc : List Int) (x y : Int) : y ∈ addNew acc x ↔ y ∈ acc ∨ y = x := by
  unfold addNew
  split
  · rename_i h
    rw [hasB_iff] at h
    constructor
    · exact Or.inl
    · rintro (h1 | rfl)
      · exact h1
      · exact h
  · simp
theorem mem_firsts (xs : List Int) (y : Int) : y ∈ firsts xs ↔ y ∈ xs := by
  have key : ∀ zs : List Int, y ∈ firsts zs.reverse ↔ y ∈ zs.reverse := by
    intro zs
    induction zs with
    | nil => simp [firsts]
    | cons z r ih => rw [List.reverse_cons, firsts_snoc, mem_addNew, ih]; simp
  have := key xs.reverse
  rwa [List.reverse_reverse] at this
theorem hasB_firsts (xs : List Int) (y : Int) : hasB (firsts xs) y = hasB xs y := by
  rw [Bool.eq_iff_iff, hasB_iff, hasB_iff, mem_firsts]
theorem firsts_len (xs : List Int) : (firsts xs).length ≤ xs.length := by
  have key : ∀ zs : List Int, (firsts zs.reverse).length ≤ zs.length := by
    intro zs
    induction zs with
    | nil => simp [firsts]
    | cons z r ih =>
      rw [List.reverse_cons, firsts_snoc]
      unfold addNew
      split
      · simp; omega
      · simp; omega
  have := key xs.reverse
  rw [List.reverse_reverse] at this
  simpa using this
theorem placeOf_mem (xs : List Int) (x : Int) (h : x ∈ xs) : ∃ i, i < xs.length ∧ nth xs i = x ∧ placeOf xs x = i ∧ ∀ j, j < i → nth xs j ≠ x := by
  unfold placeOf
  cases e : xs.findIdx? (fun y => decide (y = x)) with
  | none =>
    rw [List.findIdx?_eq_none_iff] at e
    have := e x h
    simp at this
  | some i =>
    rw [List.findIdx?_eq_some_iff_getElem] at e
    obtain ⟨h1, h2, h3⟩ := e
    refine ⟨i, h1, by rw [nth_eq _ _ h1]; simpa using h2, rfl, fun j hj => ?_⟩
    have := h3 j hj
    rw [nth_eq _ _ (by omega)]; simpa using this
theorem placeOf_not (xs : List Int) (x : Int) (h : x ∉ xs) : placeOf xs x = -1 := by
  unfold placeOf
  have : xs.findIdx? (fun y => decide (y = x)) = none := by
    rw [List.findIdx?_eq_none_iff]
    intro y hy
    simp; rintro rfl; exact h hy
  rw [this]
theorem placeOf_of (xs : List Int) (x : Int) (i : Nat) (hi : i < xs.length) (h : nth xs i = x) (hj : ∀ j, j < i → nth xs j ≠ x) : placeOf xs x = i := by
  obtain ⟨k, k1, k2, k3, k4⟩ := placeOf_mem xs x (by rw [← h]; exact nth_mem _ _ hi)
  rw [k3]
  rcases Nat.lt_trichotomy k i with h1 | h1 | h1
  · exact absurd k2 (hj k h1)
  · rw [h1]
  · exact absurd h (k4 i h1)
theorem placeOf_left (a b : List Int) (x : Int) (h : x ∈ a) : placeOf (a ++ b) x = placeOf a x := by
  obtain ⟨i, h1, h2, h3, h4⟩ := placeOf_mem a x h
  rw [h3]
  exact placeOf_of _ _ i (by simp; omega) (by rw [nth_append_left _ _ _ h1]; exact h2) (fun j hj => by rw [nth_append_left _ _ _ (by omega)]; exact h4 j hj)
theorem placeOf_new (a : List Int) (x : Int) (h : x ∉ a) : placeOf (a ++ [x]) x = a.length :=
  placeOf_of _ _ _ (by simp) (nth_append_here _ _) (fun j hj e => h (by rw [nth_append_left _ _ _ hj] at e; rw [← e]; exact nth_mem _ _ hj))
theorem placeOf_addNew (acc : List Int) (x y : Int) (h : y ∈ acc) : placeOf (addNew acc x) y = placeOf acc y := by
  unfold addNew
  split
  · rfl
  · exact placeOf_left _ _ _ h
theorem placeOf_firsts (xs : List Int) (x : Int) (k : Nat) (hx : x ∈ xs.take k) : ∀ d, k + d ≤ xs.length → placeOf (firsts (xs.take (k + d))) x = placeOf (firsts (xs.take k)) x
  | 0, _ => rfl
  | d + 1, hd => by
    rw [← Nat.add_assoc, firsts_take _ _ (by omega), placeOf_addNew, placeOf_firsts xs x k hx d (by omega)]
    rw [mem_firsts]
    have : (xs.take k) = (xs.take (k + d)).take k := by rw [List.take_take, Nat.min_eq_left (by omega)]
    rw [this] at hx
    exact List.mem_of_mem_take hx
def tidyTo (xs : List Int) (k : Nat) : List Int := (List.range k).map fun i => placeOf (firsts (xs.take (i + 1))) (nth xs i)
/-- The division with the same classes, numbered in order. -/
def tidyOf (xs : List Int) : List Int := tidyTo xs xs.length
theorem tidyTo_succ (xs : List Int) (k : Nat) : tidyTo xs (k + 1) = tidyTo xs k ++ [placeOf (firsts (xs.take (k + 1))) (nth xs k)] := list_range_snoc _ _
theorem tidyTo_len (xs : List Int) (k : Nat) : (tidyTo xs k).length = k := by simp [tidyTo]
theorem nth_tidyTo (xs : List Int) (k i : Nat) (h : i < k) : nth (tidyTo xs k) i = placeOf (firsts (xs.take (i + 1))) (nth xs i) := by
  rw [nth_eq _ _ (by rw [tidyTo_len]; exact h)]; simp [tidyTo]
theorem nth_mem_take (xs : List Int) (i k : Nat) (h : i < k) (hk : k ≤ xs.length) : nth xs i ∈ xs.take k := by
  have : nth (xs.take k) i = nth xs i := by simp [nth, h]
  rw [← this]; exact nth_mem _ _ (by simp; omega)
theorem placeOf_lt (acc : List Int) (x : Int) : -1 ≤ placeOf acc x ∧ placeOf acc x < acc.length ∨ placeOf acc x = -1 := by
  by_cases h : x ∈ acc
  · obtain ⟨i, h1, _, h3, _⟩ := placeOf_mem acc x h
    left; omega
  · right; exact placeOf_not _ _ h
theorem placeOf_le (acc : List Int) (x : Int) : -1 ≤ placeOf acc x ∧ placeOf acc x ≤ acc.length := by
  rcases placeOf_lt acc x with h | h <;> omega
theorem placeOf_nonneg (acc : List Int) (x : Int) (h : x ∈ acc) : 0 ≤ placeOf acc x := by
  obtain ⟨i, _, _, h3, _⟩ := placeOf_mem acc x h; omega
def KernelOf (a : Aut) (ws : List Int) : List Int × Int := if autOk a = true then (if wordOk a ws = true then (tidyOf (actOf a ws), 0) else ([], 2)) else ([], 1)

end Go.Proofs.Ytdaaglfemaoigaa
