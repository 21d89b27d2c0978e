/- The first word that leads to a set of which something is so; the least number of states. -/
import Derived.Test.YtcjmcpfdpnakkaaBase
import Derived.Test.YtcjmcpfdpnakkaaAut
import Derived.Test.YtcjmcpfdpnakkaaPlain1
import Derived.Test.YtcjmcpfdpnakkaaPlainRun
import Derived.Test.YtcjmcpfdpnakkaaPlainSet
import Derived.Test.YtcjmcpfdpnakkaaPlainBits
import Derived.Test.YtcjmcpfdpnakkaaPlainTour
import Derived.WalkKit
import Derived.WalkSpells
import Derived.WalkLawsBesides
import Derived.Deep.QuietTactic
import Derived.Deep.OwnRows
import Derived.BigQuiet
import Derived.KernelRfl
namespace Go.Proofs.Ytcjmcpfdpnakkaa
open Go.RowKit

def firstWord (p : Nat → Bool) (t : Tour) : List Int × Bool := match t.sets.findIdx? p with
  | some i => (nth t.words i, true)
  | none => ([], false)
theorem firstWord_hit (p : Nat → Bool) (t : Tour) (k : Nat) (hk : k < t.sets.length) (h : p (nth t.sets k) = true) (hb : ∀ j, j < k → p (nth t.sets j) = false) : firstWord p t = (nth t.words k, true) := by
  have : t.sets.findIdx? p = some k := by
    rw [List.findIdx?_eq_some_iff_getElem]
    refine ⟨hk, by rw [← nth_eq t.sets k hk]; exact h, fun j hj => ?_⟩
    rw [← nth_eq t.sets j (by omega)]; simp [hb j hj]
  simp [firstWord, this]
theorem firstWord_none (p : Nat → Bool) (t : Tour) (hb : ∀ j, j < t.sets.length → p (nth t.sets j) = false) : firstWord p t = ([], false) := by
  have : t.sets.findIdx? p = none := by
    rw [List.findIdx?_eq_none_iff]
    intro x hx; obtain ⟨i, hi, rfl⟩ := mem_nth t.sets x hx; exact hb i hi
  simp [firstWord, this]
theorem firstWord_len {a : Aut} {t : Tour} (h : TOk a t) (hn : a.n ≤ 10) (p : Nat → Bool) : (firstWord p t).1.length ≤ 1024 := by
  have hl := h.len hn
  unfold firstWord
  split
  · rename_i i e
    rw [List.findIdx?_eq_some_iff_getElem] at e
    obtain ⟨hi, _⟩ := e
    have := h.wl i hi
    show (nth t.words i).length ≤ 1024
    omega
  · simp
def told (r : List Int × Bool) : List Int × Int := if r.2 = true then (r.1, 0) else ([], 6)
theorem told_len (r : List Int × Bool) (n : Nat) (h : r.1.length ≤ n) : (told r).1.length ≤ n := by
  unfold told; split
  · exact h
  · simp
theorem tTo_first (nx : List (List Int)) (f : Nat) : ∀ k, 0 < (tTo nx f k).sets.length ∧ nth (tTo nx f k).sets 0 = f
  | 0 => by simp [tTo_zero, tStart, nth]
  | k + 1 => by
    obtain ⟨h1, h2⟩ := tTo_first nx f k
    rw [tTo_succ]
    split
    · obtain ⟨h3, h4⟩ := tRow_sets nx k (tTo nx f k) nx.length
      exact ⟨by omega, by rw [h4 0 h1, h2]⟩
    · exact ⟨h1, h2⟩
theorem tour_first (nx : List (List Int)) (f : Nat) : nth (tourOf nx f).sets 0 = f := (tTo_first nx f 1024).2
/-- The least number of states, of m and the first k sets. -/
def leastTo (sets : List Nat) (m : Nat) (k : Nat) : Nat := (sets.take k).foldl (fun m f => min m (setOf f).length) m
theorem leastTo_zero (sets : List Nat) (m : Nat) : leastTo sets m 0 = m := rfl
theorem leastTo_succ (sets : List Nat) (m k : Nat) (h : k < sets.length) : leastTo sets m (k + 1) = min (leastTo sets m k) (setOf (nth sets k)).length := by
  unfold leastTo
  rw [take_succ_nth sets k h, List.foldl_append]; rfl
theorem leastTo_le (sets : List Nat) (m : Nat) : ∀ k, leastTo sets m k ≤ m := by
  intro k
  induction k with
  | zero => exact Nat.le_refl _
  | succ k ih =>
    by_cases h : k < sets.length
    · rw [leastTo_succ _ _ _ h]; omega
    · have : leastTo sets m (k + 1) = leastTo sets m k := by
        unfold leastTo; rw [List.take_of_length_le (by omega), List.take_of_length_le (by omega)]
      omega
/-- The least number of states to which words lead from a set. -/
def leastOf (nx : List (List Int)) (f : Nat) : Nat := leastTo (tourOf nx f).sets (setOf f).length (tourOf nx f).sets.length
def RankOfSet (a : Aut) (set : List Int) : Int × Int := if autOk a = true then (if setB set a.n = true then ((leastOf a.nx (orB set) : Nat), 0) else (0, 2)) else (0, 1)
def ShortestTo (a : Aut) (s : Int) : List Int × Int := if autOk a = true then (if inB s 0 (a.n - 1) = true then told (firstWord (fun f => f == 2 ^ s.toNat) (tourOf a.nx (full a.n))) else ([], 2)) else ([], 1)
def ShortestFor (a : Aut) (set : List Int) : List Int × Int := if autOk a = true then (if setB set a.n = true then told (firstWord smallB (tourOf a.nx (orB set))) else ([], 2)) else ([], 1)
def SetWord (a : Aut) (set : List Int) : List Int × Int := if autOk a = true then (if setB set a.n = true then told (firstWord (fun f => f == orB set) (tourOf a.nx (full a.n))) else ([], 2)) else ([], 1)
/-- The pair of two states, as bits. -/
def pairOf (s t : Int) : Nat := 2 ^ s.toNat ||| 2 ^ t.toNat
def MergingWord (a : Aut) (s t : Int) : List Int × Int := if autOk a = true then (if (inB s 0 (a.n - 1) && inB t 0 (a.n - 1)) = true then told (firstWord smallB (tourOf a.nx (pairOf s t))) else ([], 2)) else ([], 1)

end Go.Proofs.Ytcjmcpfdpnakkaa
