/- The merging words of all pairs of states. -/
import Derived.Test.YtnhjoiafadapaaaCore
import Derived.Test.YtnhjoiafadapaaaPlains
import Derived.Test.YtnhjoiafadapaaaMaps
import Derived.Test.YtnhjoiafadapaaaArrs
import Derived.WalkKit
import Derived.WalkSpells
import Derived.WalkLawsBesides
import Derived.Deep.QuietTactic
import Derived.Deep.OwnRows
import Derived.BigQuiet
import Derived.KernelRfl
namespace Go.Proofs.Ytnhjoiafadapaaa
open Go.RowKit

/-- The merging word of two states, if there is one. -/
def mw (nx : List (List Int)) (s t : Nat) : List Int × Bool := firstWord smallB (tourOf nx (pairOf s t))
def mwRow (nx : List (List Int)) (s k : Nat) : List (List Int × Bool) := (List.range k).map fun t => mw nx s t
def mwTo (nx : List (List Int)) (n k : Nat) : List (List (List Int × Bool)) := (List.range k).map fun s => mwRow nx s n
/-- The merging words of all pairs. -/
def mwTab (a : Aut) : List (List (List Int × Bool)) := mwTo a.nx a.n.toNat a.n.toNat
/-- A word, or nothing. -/
def WordAt (w : World) (v : Value) (x : List Int × Bool) : Prop := IntsAt w v x.1 ∧ (x.2 = false → v = .slice none 0 0)
theorem mwRow_succ (nx : List (List Int)) (s k : Nat) : mwRow nx s (k + 1) = mwRow nx s k ++ [mw nx s k] := by unfold mwRow; rw [List.range_succ, List.map_append]; rfl
theorem mwTo_succ (nx : List (List Int)) (n k : Nat) : mwTo nx n (k + 1) = mwTo nx n k ++ [mwRow nx k n] := by unfold mwTo; rw [List.range_succ, List.map_append]; rfl
theorem mwRow_len (nx : List (List Int)) (s k : Nat) : (mwRow nx s k).length = k := by simp [mwRow]
theorem mwTo_len (nx : List (List Int)) (n k : Nat) : (mwTo nx n k).length = k := by simp [mwTo]
theorem nth_mwRow (nx : List (List Int)) (s k t : Nat) (h : t < k) : nth (mwRow nx s k) t = mw nx s t := by
  unfold mwRow; rw [nth_map _ _ _ (by simpa using h), nth_eq _ _ (by simpa using h)]; simp
theorem nth_mwTo (nx : List (List Int)) (n k s : Nat) (h : s < k) : nth (mwTo nx n k) s = mwRow nx s n := by
  unfold mwTo; rw [nth_map _ _ _ (by simpa using h), nth_eq _ _ (by simpa using h)]; simp
theorem told_first (T : Tour) : (told (firstWord smallB T)).1 = (firstWord smallB T).1 ∧ ((firstWord smallB T).2 = false ↔ (told (firstWord smallB T)).2 ≠ 0) := by
  unfold told firstWord
  cases T.sets.findIdx? smallB with
  | some i => simp
  | none => simp
theorem told_mw (nx : List (List Int)) (s t : Nat) : (told (mw nx s t)).1 = (mw nx s t).1 ∧ ((mw nx s t).2 = false ↔ (told (mw nx s t)).2 ≠ 0) := told_first _
theorem pair_small_all : ∀ s t : Fin 10, s ≠ t → smallB (2 ^ s.val ||| 2 ^ t.val) = false := by decide +kernel
theorem pair_small {s t : Nat} (hs : s < 10) (ht : t < 10) (hne : s ≠ t) : smallB (pairOf (s : Int) (t : Int)) = false :=
  pair_small_all ⟨s, hs⟩ ⟨t, ht⟩ (fun e => hne (by injection e))
theorem small_one : ∀ f : Fin 1024, smallB f.val = decide ((setOf f.val).length ≤ 1) := by decide +kernel
/-- The length of a merging word, -1 where there is none. -/
def mwLen (x : List Int × Bool) : Int := if x.2 = true then (x.1.length : Int) else -1
def tabRow (nx : List (List Int)) (s k : Nat) : List Int := (List.range k).map fun t => mwLen (mw nx s t)
def tabTo (nx : List (List Int)) (n k : Nat) : List (List Int) := (List.range k).map fun s => tabRow nx s n
/-- The lengths of all merging words. -/
def tabOf (a : Aut) : List (List Int) := tabTo a.nx a.n.toNat a.n.toNat
theorem tabRow_succ (nx : List (List Int)) (s k : Nat) : tabRow nx s (k + 1) = tabRow nx s k ++ [mwLen (mw nx s k)] := by unfold tabRow; rw [List.range_succ, List.map_append]; rfl
theorem tabTo_succ (nx : List (List Int)) (n k : Nat) : tabTo nx n (k + 1) = tabTo nx n k ++ [tabRow nx k n] := by unfold tabTo; rw [List.range_succ, List.map_append]; rfl
theorem tabRow_len (nx : List (List Int)) (s k : Nat) : (tabRow nx s k).length = k := by simp [tabRow]
theorem tabTo_len (nx : List (List Int)) (n k : Nat) : (tabTo nx n k).length = k := by simp [tabTo]
theorem nth_tabRow (nx : List (List Int)) (s k t : Nat) (h : t < k) : nth (tabRow nx s k) t = mwLen (mw nx s t) := by
  unfold tabRow; rw [nth_map _ _ _ (by simpa using h), nth_eq _ _ (by simpa using h)]; simp
theorem nth_tabTo (nx : List (List Int)) (n k s : Nat) (h : s < k) : nth (tabTo nx n k) s = tabRow nx s n := by
  unfold tabTo; rw [nth_map _ _ _ (by simpa using h), nth_eq _ _ (by simpa using h)]; simp
theorem mw_len {a : Aut} (ha : autOk a = true) {s t : Nat} (hs : s < a.n.toNat) (ht : t < a.n.toNat) : (mw a.nx s t).1.length ≤ 1024 := by
  have hn := autOk_n ha
  have hlt : pairOf (s : Int) (t : Int) < 2 ^ a.n.toNat := Nat.or_lt_two_pow (Nat.pow_lt_pow_right (by decide) (by omega)) (Nat.pow_lt_pow_right (by decide) (by omega))
  exact firstWord_len (tourOk ha _ hlt) hn.2 smallB

end Go.Proofs.Ytnhjoiafadapaaa
