/- The number of a colouring. -/
import Derived.Test.YtiflokfinkachaaCore
import Derived.Test.YtiflokfinkachaaPlains
import Derived.Test.YtiflokfinkachaaJoins
import Derived.WalkKit
import Derived.WalkSpells
import Derived.WalkLawsBesides
import Derived.Deep.QuietTactic
import Derived.Deep.OwnRows
import Derived.BigQuiet
import Derived.KernelRfl
namespace Go.Proofs.Ytiflokfinkachaa
open Go.RowKit

def numTo (cs : List (List (List Int))) (f : Nat → List Int) : Nat → Int
  | 0 => 0
  | s + 1 => numTo cs f s * ((nth cs s).length : Int) + findL (nth cs s) (f s)
theorem findL_range (xss : List (List Int)) (xs : List Int) : -1 ≤ findL xss xs ∧ findL xss xs ≤ xss.length := by
  by_cases h : xs ∈ xss
  · obtain ⟨k, hk, e, _⟩ := findL_mem h; omega
  · rw [findL_not h]; omega
theorem numTo_range {cs : List (List (List Int))} {f : Nat → List Int} (h : ∀ s, s < cs.length → (nth cs s).length ≤ 6) : ∀ s, s ≤ cs.length → -((13 ^ s : Nat) : Int) ≤ numTo cs f s ∧ numTo cs f s ≤ ((13 ^ s : Nat) : Int)
  | 0, _ => by simp [numTo]
  | s + 1, hs => by
    have ih := numTo_range (f := f) h s (by omega)
    have h1 := h s (by omega)
    have h2 := findL_range (nth cs s) (f s)
    have h3 : 1 ≤ 13 ^ s := Nat.one_le_pow _ _ (by decide)
    obtain ⟨L, hL⟩ : ∃ L, L = (nth cs s).length := ⟨_, rfl⟩
    obtain ⟨F, hF⟩ : ∃ F, F = findL (nth cs s) (f s) := ⟨_, rfl⟩
    obtain ⟨Q, hQ⟩ : ∃ Q, Q = 13 ^ s := ⟨_, rfl⟩
    obtain ⟨X, hX⟩ : ∃ X, X = numTo cs f s := ⟨_, rfl⟩
    rw [Nat.pow_succ]
    unfold numTo
    rw [← hL] at h1 h2
    rw [← hF] at h2
    rw [← hQ] at ih h3
    rw [← hX] at ih
    rw [← hL, ← hF, ← hQ, ← hX]
    have key : X * (L : Int) ≤ 6 * (Q : Int) ∧ -(6 * (Q : Int)) ≤ X * (L : Int) := by
      have hl : L = 0 ∨ L = 1 ∨ L = 2 ∨ L = 3 ∨ L = 4 ∨ L = 5 ∨ L = 6 := by omega
      rcases hl with h | h | h | h | h | h | h <;> subst h <;> simp <;> omega
    omega
theorem numTo_big {cs : List (List (List Int))} {f : Nat → List Int} (h : ∀ s, s < cs.length → (nth cs s).length ≤ 6) (h7 : cs.length ≤ 7) (s : Nat) (hs : s ≤ cs.length) : -100000000 ≤ numTo cs f s ∧ numTo cs f s ≤ 100000000 := by
  have := numTo_range (f := f) h s hs
  have h2 : 13 ^ s ≤ 13 ^ 7 := Nat.pow_le_pow_right (by decide) (by omega)
  have h3 : (13 : Nat) ^ 7 = 62748517 := by decide
  omega
theorem choices_six {r : Aut} (hr : RoadsFacts r) (p : Nat) (h : p < (choicesOf r).length) : (nth (choicesOf r) p).length ≤ 6 := by
  rw [choices_len] at h
  rw [nth_choices _ _ h]
  have h1 := arr_len (nth r.nx p).length (nth r.nx p)
  have h2 : ∀ n, n ≤ 3 → arrB n ≤ 6 := by decide
  have h3 := h2 (nth r.nx p).length (by rw [hr.row p h]; exact hr.l3)
  show (arrF (nth r.nx p).length (nth r.nx p)).length ≤ 6
  omega
def numOf (r a : Aut) : Int := numTo (choicesOf r) (fun s => leadsOf a.nx s) r.nx.length
def NumberOf (r a : Aut) : Int × Int := if (roadsOk r && autOk a) = true then (if decide (r = roadsOf a) = true then (numOf r a, 0) else (0, 4)) else (0, 1)
theorem coloured_n {r a : Aut} (ha : autOk a = true) (h : r = roadsOf a) : (r.nx.length : Int) = a.n := by
  have hn := autOk_n ha
  subst h
  unfold roadsOf
  simp [iota]
  omega

end Go.Proofs.Ytiflokfinkachaa
