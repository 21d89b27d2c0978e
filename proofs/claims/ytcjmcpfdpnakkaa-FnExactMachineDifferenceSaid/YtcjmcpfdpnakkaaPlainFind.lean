/- The place of a list among lists. -/
import Derived.Test.YtcjmcpfdpnakkaaBase
import Derived.WalkKit
import Derived.WalkSpells
import Derived.WalkLawsBesides
import Derived.Deep.QuietTactic
import Derived.Deep.OwnRows
import Derived.BigQuiet
import Derived.KernelRfl
namespace Go.Proofs.Ytcjmcpfdpnakkaa
open Go.RowKit

def findL (xss : List (List Int)) (xs : List Int) : Int := match xss.findIdx? (fun r => decide (r = xs)) with
  | some i => (i : Int)
  | none => -1
theorem findL_hit (xss : List (List Int)) (xs : List Int) (k : Nat) (hk : k < xss.length) (h : nth xss k = xs) (hb : ∀ j, j < k → nth xss j ≠ xs) : findL xss xs = k := by
  have : xss.findIdx? (fun r => decide (r = xs)) = some k := by
    rw [List.findIdx?_eq_some_iff_getElem]
    refine ⟨hk, by rw [← nth_eq xss k hk, h]; simp, fun j hj => ?_⟩
    rw [← nth_eq xss j (by omega)]
    simp [hb j hj]
  unfold findL
  rw [this]
theorem findL_none (xss : List (List Int)) (xs : List Int) (hb : ∀ j, j < xss.length → nth xss j ≠ xs) : findL xss xs = -1 := by
  have : xss.findIdx? (fun r => decide (r = xs)) = none := by
    rw [List.findIdx?_eq_none_iff]
    intro r hr
    obtain ⟨i, hi, rfl⟩ := mem_nth xss r hr
    simp [hb i hi]
  unfold findL
  rw [this]
theorem findL_mem {xss : List (List Int)} {xs : List Int} (h : xs ∈ xss) : ∃ k, k < xss.length ∧ findL xss xs = k ∧ nth xss k = xs := by
  cases e : xss.findIdx? (fun r => decide (r = xs)) with
  | none =>
    rw [List.findIdx?_eq_none_iff] at e
    have := e xs h
    simp at this
  | some k =>
    have e' := e
    rw [List.findIdx?_eq_some_iff_getElem] at e
    obtain ⟨hk, h1, _⟩ := e
    refine ⟨k, hk, ?_, ?_⟩
    · unfold findL; rw [e']
    · rw [nth_eq _ _ hk]; simpa using h1
theorem findL_not {xss : List (List Int)} {xs : List Int} (h : xs ∉ xss) : findL xss xs = -1 :=
  findL_none _ _ fun _j hj e => h (e ▸ nth_mem _ _ hj)

end Go.Proofs.Ytcjmcpfdpnakkaa
