/- Right roads, and colourings of them. -/
import Derived.Test.YtdaaglfemaoigaaRows
import Derived.Test.YtdaaglfemaoigaaBase
import Derived.Test.YtdaaglfemaoigaaPlain1
import Derived.Test.YtdaaglfemaoigaaPlainRun
import Derived.Test.YtdaaglfemaoigaaPlainSet
import Derived.Test.YtdaaglfemaoigaaPlainSort
import Derived.WalkKit
import Derived.WalkSpells
import Derived.WalkLawsBesides
import Derived.Deep.QuietTactic
import Derived.Deep.OwnRows
import Derived.BigQuiet
import Derived.KernelRfl
namespace Go.Proofs.Ytdaaglfemaoigaa
open Go.RowKit

/-- Whether an element is within bounds, and not less than the one before it. -/
def upAt (xs : List Int) (n : Int) (k : Nat) : Bool := inB (nth xs k) 0 (n - 1) && (decide (k = 0) || decide (nth xs (k - 1) ≤ nth xs k))
def upB (xs : List Int) : Bool := (List.range xs.length).all fun k => decide (k = 0) || decide (nth xs (k - 1) ≤ nth xs k)
def roadRow (l : Nat) (n : Int) (xs : List Int) : Bool := decide (xs.length = l) && (List.range xs.length).all (upAt xs n)
def roadsOk (r : Aut) : Bool := inB r.n 1 7 && decide ((r.nx.length : Int) = r.n) && inB ((nth r.nx 0).length : Int) 1 3 && r.nx.all (roadRow (nth r.nx 0).length r.n)
theorem roadRow_iff (l : Nat) (n : Int) (xs : List Int) : roadRow l n xs = true ↔ xs.length = l ∧ ∀ k, k < xs.length → upAt xs n k = true := by
  simp [roadRow]
theorem roadRow_len {l : Nat} {n : Int} {xs : List Int} (h : ¬ xs.length = l) : roadRow l n xs = false := by simp [roadRow, h]
theorem roadRow_at {l : Nat} {n : Int} {xs : List Int} {k : Nat} (hk : k < xs.length) (h : upAt xs n k = false) : roadRow l n xs = false := by
  cases he : roadRow l n xs with
  | false => rfl
  | true => have := ((roadRow_iff l n xs).1 he).2 k hk; rw [h] at this; cases this
theorem upB_iff (xs : List Int) : upB xs = true ↔ ∀ k, k < xs.length → 0 < k → nth xs (k - 1) ≤ nth xs k := by
  simp only [upB, List.all_eq_true, List.mem_range, Bool.or_eq_true, decide_eq_true_eq]
  constructor
  · intro h k hk h0
    rcases h k hk with e | e
    · omega
    · exact e
  · intro h k hk
    by_cases h0 : k = 0
    · exact Or.inl h0
    · exact Or.inr (h k hk (by omega))
theorem upB_false {xs : List Int} {k : Nat} (hk : k < xs.length) (h0 : 0 < k) (h : nth xs k < nth xs (k - 1)) : upB xs = false := by
  cases he : upB xs with
  | false => rfl
  | true => have := (upB_iff xs).1 he k hk h0; omega
theorem roadRow_eq (l : Nat) (n : Int) (xs : List Int) : roadRow l n xs = (decide (xs.length = l) && allIn xs 0 (n - 1) && upB xs) := by
  rw [Bool.eq_iff_iff, roadRow_iff]
  simp only [Bool.and_eq_true, decide_eq_true_eq, allIn_iff, upB_iff, upAt, Bool.or_eq_true]
  constructor
  · rintro ⟨h1, h2⟩
    refine ⟨⟨h1, fun i hi => (h2 i hi).1⟩, fun k hk h0 => ?_⟩
    rcases (h2 k hk).2 with e | e
    · omega
    · exact e
  · rintro ⟨⟨h1, h2⟩, h3⟩
    refine ⟨h1, fun k hk => ⟨h2 k hk, ?_⟩⟩
    by_cases h0 : k = 0
    · exact Or.inl h0
    · exact Or.inr (h3 k hk (by omega))
theorem roadsOk_iff (r : Aut) : roadsOk r = true ↔ (1 ≤ r.n ∧ r.n ≤ 7) ∧ (r.nx.length : Int) = r.n ∧ (1 ≤ (nth r.nx 0).length ∧ (nth r.nx 0).length ≤ 3) ∧ ∀ i, i < r.nx.length → roadRow (nth r.nx 0).length r.n (nth r.nx i) = true := by
  simp only [roadsOk, Bool.and_eq_true, decide_eq_true_eq, inB_iff]
  have : (r.nx.all (roadRow (nth r.nx 0).length r.n) = true) ↔ ∀ i, i < r.nx.length → roadRow (nth r.nx 0).length r.n (nth r.nx i) = true := by
    rw [List.all_eq_true]
    constructor
    · intro h i hi; exact h _ (nth_mem _ _ hi)
    · intro h x hx; obtain ⟨i, hi, rfl⟩ := mem_nth _ x hx; exact h i hi
  rw [this]
  constructor
  · rintro ⟨⟨⟨h1, h2⟩, h3⟩, h4⟩; exact ⟨by omega, h2, by omega, h4⟩
  · rintro ⟨h1, h2, h3, h4⟩; exact ⟨⟨⟨by omega, h2⟩, by omega⟩, h4⟩
theorem roadsOk_row {r : Aut} {i : Nat} (hi : i < r.nx.length) (h : roadRow (nth r.nx 0).length r.n (nth r.nx i) = false) : roadsOk r = false := by
  cases he : roadsOk r with
  | false => rfl
  | true => have := ((roadsOk_iff r).1 he).2.2.2 i hi; rw [h] at this; cases this
/-- Whether an automaton is a colouring of roads, with a code. -/
def IsColouring (r a : Aut) : Bool × Int := if roadsOk r && autOk a then (decide (r = roadsOf a), 0) else (false, 1)

end Go.Proofs.Ytdaaglfemaoigaa
