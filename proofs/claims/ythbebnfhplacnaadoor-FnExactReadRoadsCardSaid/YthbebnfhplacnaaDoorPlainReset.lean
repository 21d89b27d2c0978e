/- The first colouring that can be reset, and how many can be. -/
import Derived.Test.YthbebnfhplacnaaDoorCore
import Derived.Test.YthbebnfhplacnaaDoorPlains
import Derived.Test.YthbebnfhplacnaaDoorJoins
import Derived.Test.YthbebnfhplacnaaDoorQuicks
import Derived.WalkKit
import Derived.WalkSpells
import Derived.WalkLawsBesides
import Derived.Deep.QuietTactic
import Derived.Deep.OwnRows
import Derived.BigQuiet
import Derived.KernelRfl
namespace Go.Proofs.YthbebnfhplacnaaDoor
open Go.RowKit

/-- The first number below n for which there is a word, -1 if there is none. -/
def hitTo (f : Nat → List Int × Bool) : Nat → Int
  | 0 => -1
  | n + 1 => if hitTo f n < 0 ∧ (f n).2 = true then (n : Int) else hitTo f n
theorem hitTo_range (f : Nat → List Int × Bool) : ∀ n, -1 ≤ hitTo f n ∧ hitTo f n < n
  | 0 => by simp [hitTo]
  | n + 1 => by
    have ih := hitTo_range f n
    unfold hitTo
    split <;> omega
theorem hitTo_neg (f : Nat → List Int × Bool) : ∀ n, hitTo f n < 0 ↔ ∀ m, m < n → (f m).2 = false
  | 0 => by simp [hitTo]
  | n + 1 => by
    have ih := hitTo_neg f n
    unfold hitTo
    constructor
    · intro h m hm
      split at h
      · omega
      · rename_i hq
        have h1 := ih.1 h
        rcases Nat.lt_succ_iff_lt_or_eq.1 hm with q | q
        · exact h1 m q
        · subst q
          cases hb : (f m).2 with
          | false => rfl
          | true => exact absurd ⟨h, hb⟩ hq
    · intro h
      have h1 := ih.2 (fun m hm => h m (by omega))
      rw [if_neg (fun q => by rw [h n (by omega)] at q; cases q.2)]
      exact h1
theorem hitTo_stay {f : Nat → List Int × Bool} {n : Nat} (h : 0 ≤ hitTo f n) : ∀ d, hitTo f (n + d) = hitTo f n
  | 0 => rfl
  | d + 1 => by
    have ih := hitTo_stay h d
    rw [← Nat.add_assoc]
    show (if _ then _ else _) = _
    rw [ih, if_neg (by omega)]
theorem hitTo_hit (f : Nat → List Int × Bool) : ∀ n, 0 ≤ hitTo f n → (f (hitTo f n).toNat).2 = true ∧ ∀ m : Nat, (m : Int) < hitTo f n → (f m).2 = false
  | 0, h => by simp [hitTo] at h
  | n + 1, h => by
    have ih := hitTo_hit f n
    unfold hitTo at h ⊢
    split
    · rename_i hq
      refine ⟨by simpa using hq.2, fun m hm => (hitTo_neg f n).1 hq.1 m (by omega)⟩
    · rename_i hq
      rw [if_neg hq] at h
      exact ih h
theorem hitTo_no {f : Nat → List Int × Bool} {n : Nat} (h : (f n).2 = false) : hitTo f (n + 1) = hitTo f n := by
  show (if _ then _ else _) = _
  rw [if_neg (fun q => by rw [h] at q; cases q.2)]
theorem hitTo_yes {f : Nat → List Int × Bool} {n : Nat} (h0 : hitTo f n < 0) (h : (f n).2 = true) : hitTo f (n + 1) = (n : Int) := by
  show (if _ then _ else _) = _
  rw [if_pos ⟨h0, h⟩]
/-- How many numbers below n have a word. -/
def hits (f : Nat → List Int × Bool) : Nat → Nat
  | 0 => 0
  | n + 1 => if (f n).2 = true then hits f n + 1 else hits f n
theorem hits_le (f : Nat → List Int × Bool) : ∀ n, hits f n ≤ n
  | 0 => Nat.le_refl _
  | n + 1 => by
    have := hits_le f n
    unfold hits
    split <;> omega
theorem hits_zero (f : Nat → List Int × Bool) : ∀ n, hits f n = 0 ↔ hitTo f n < 0
  | 0 => by simp [hits, hitTo]
  | n + 1 => by
    have ih := hits_zero f n
    have hr := hitTo_range f n
    unfold hits hitTo
    cases hb : (f n).2 with
    | false => simp; exact ih
    | true =>
      simp
      by_cases h : hitTo f n < 0
      · rw [if_pos h]; omega
      · rw [if_neg h]; omega
/-- The quickest is not longer than any, and the first of those. -/
theorem quickAt_least (f : Nat → List Int × Bool) : ∀ n m, m < n → (f m).2 = true → 0 ≤ quickAt f n ∧ ((f (quickAt f n).toNat).1.length < (f m).1.length ∨ ((f (quickAt f n).toNat).1.length = (f m).1.length ∧ quickAt f n ≤ m))
  | 0, m, h, _ => by omega
  | n + 1, m, h, hm => by
    have hr := quickAt_range f n
    by_cases hq : (f n).2 = true ∧ (quickAt f n < 0 ∨ (f n).1.length < (f (quickAt f n).toNat).1.length)
    · rw [quickAt_yes hq, Int.toNat_natCast]
      refine ⟨by omega, ?_⟩
      rcases Nat.lt_succ_iff_lt_or_eq.1 h with q | q
      · obtain ⟨h0, h1⟩ := quickAt_least f n m q hm
        left
        rcases hq.2 with e | e
        · omega
        · omega
      · subst q; right; exact ⟨rfl, Int.le_refl _⟩
    · rw [quickAt_no hq]
      rcases Nat.lt_succ_iff_lt_or_eq.1 h with q | q
      · exact quickAt_least f n m q hm
      · subst q
        have h1 : ¬ (quickAt f m < 0 ∨ (f m).1.length < (f (quickAt f m).toNat).1.length) := fun e => hq ⟨hm, e⟩
        refine ⟨by omega, ?_⟩
        omega
theorem quick_neg (f : Nat → List Int × Bool) (n : Nat) : quickAt f n < 0 ↔ hitTo f n < 0 := by
  rw [hitTo_neg]
  constructor
  · intro h m hm
    cases hb : (f m).2 with
    | false => rfl
    | true => have := (quickAt_least f n m hm hb).1; omega
  · intro h
    rcases Int.lt_or_le (quickAt f n) 0 with q | q
    · exact q
    · have h1 := quickAt_hit f n q
      have h2 := quickAt_range f n
      rw [h _ (by omega)] at h1
      cases h1
def FirstReset (r : Aut) : Int × Int :=
  if roadsOk r = true then (if 50000 < colCount r then (0, 3) else (if hitTo (colW r) (colCount r) < 0 then (0, 6) else (hitTo (colW r) (colCount r), 0))) else (0, 1)
def CountReset (r : Aut) : Int × Int := if roadsOk r = true then (if 50000 < colCount r then (0, 3) else ((hits (colW r) (colCount r) : Nat), 0)) else (0, 1)
theorem nth_swapAt (xs : List Int) (j k : Nat) (hj : j + 1 < xs.length) : nth (swapAt xs j) k = if k = j then nth xs (j + 1) else if k = j + 1 then nth xs j else nth xs k := by
  unfold swapAt
  rw [nth_set _ _ _ _ (by simp; omega), nth_set _ _ _ _ (by omega)]
theorem downAt_sorted : ∀ (j : Nat) (xs : List Int) (M : Nat), M < xs.length → j ≤ M →
    (∀ k, 1 ≤ k → k ≤ M → k ≠ j → k ≠ j + 1 → nth xs (k - 1) ≤ nth xs k) → (j + 1 ≤ M → nth xs j ≤ nth xs (j + 1)) → (1 ≤ j → j + 1 ≤ M → nth xs (j - 1) ≤ nth xs (j + 1)) →
    ∀ k, 1 ≤ k → k ≤ M → nth (downAt j xs) (k - 1) ≤ nth (downAt j xs) k
  | 0, xs, M, hM, _, h1, h2, _, k, k1, k2 => by
    by_cases e : k = 1
    · subst e; exact h2 k2
    · exact h1 k k1 k2 (by omega) (by omega)
  | j + 1, xs, M, hM, hj, h1, h2, h3, k, k1, k2 => by
    by_cases hq : nth xs (j + 1) < nth xs j
    · rw [downAt_go j xs hq]
      have sw := fun i => nth_swapAt xs j i (by omega)
      refine downAt_sorted j (swapAt xs j) M (by rw [swapAt_len]; exact hM) (by omega) ?_ ?_ ?_ k k1 k2
      · intro i i1 i2 n1 n2
        rw [sw, sw, if_neg (by omega), if_neg n1, if_neg n2]
        by_cases e : i = j + 1 + 1
        · subst e
          rw [if_pos (by omega)]
          have := h3 (by omega) (by omega)
          rwa [show j + 1 - 1 = j by omega] at this
        · rw [if_neg (by omega)]
          exact h1 i i1 i2 (by omega) e
      · intro _
        rw [sw, sw, if_pos rfl, if_neg (by omega), if_pos rfl]
        omega
      · intro j1 _
        rw [sw, sw, if_neg (by omega), if_neg (by omega), if_neg (by omega), if_pos rfl]
        exact h1 j j1 (by omega) (by omega) (by omega)
    · rw [downAt_stay j xs hq]
      by_cases e : k = j + 1
      · subst e; rw [show j + 1 - 1 = j by omega]; omega
      · by_cases e2 : k = j + 1 + 1
        · subst e2; exact h2 k2
        · exact h1 k k1 k2 e e2
theorem insTo_sorted (xs : List Int) : ∀ i, i < xs.length → ∀ k, 1 ≤ k → k ≤ i → nth (insTo xs i) (k - 1) ≤ nth (insTo xs i) k
  | 0, _, k, k1, k2 => by omega
  | i + 1, hi, k, k1, k2 => by
    have ih := insTo_sorted xs i (by omega)
    rw [insTo]
    refine downAt_sorted (i + 1) (insTo xs i) (i + 1) (by rw [insTo_len]; exact hi) (Nat.le_refl _) (fun m m1 m2 n1 _ => ih m m1 (by omega)) (fun h => by omega) (fun _ h => by omega) k k1 k2
theorem insAll_sorted (xs : List Int) (k : Nat) (k1 : 1 ≤ k) (k2 : k < (insAll xs).length) : nth (insAll xs) (k - 1) ≤ nth (insAll xs) k := by
  rw [insAll_len] at k2
  exact insTo_sorted xs (xs.length - 1) (by omega) k k1 (by omega)
theorem nth_roadsOf {a : Aut} (s : Nat) (hs : s < a.n.toNat) : nth (roadsOf a).nx s = insAll (leadsOf a.nx (s : Int)) := by
  unfold roadsOf
  simp only []
  rw [nth_map _ _ _ (by simpa [iota] using hs), nth_iota _ _ _ hs]
  simp
/-- The roads of a right automaton of few states are right. -/
theorem roadsOf_ok {a : Aut} (ha : autOk a = true) (h7 : a.n ≤ 7) : roadsOk (roadsOf a) = true := by
  have hn := autOk_n ha
  have hl := autOk_l ha
  have hlen : (roadsOf a).nx.length = a.n.toNat := by simp [roadsOf, iota]
  have hn' : (roadsOf a).n = a.n := rfl
  have h0 := nth_roadsOf (a := a) 0 (by omega)
  have hl0 : (nth (roadsOf a).nx 0).length = a.nx.length := by rw [h0, insAll_len]; simp [leadsOf]
  unfold roadsOk
  simp only [Bool.and_eq_true, inB_iff, decide_eq_true_eq, List.all_eq_true]
  refine ⟨⟨⟨⟨by rw [hn']; omega, by rw [hn']; omega⟩, by rw [hlen, hn']; omega⟩, by rw [hl0]; omega, by rw [hl0]; omega⟩, ?_⟩
  intro row hrow
  obtain ⟨s, hs, rfl⟩ := mem_nth _ _ hrow
  rw [hlen] at hs
  rw [roadRow_iff, hl0, nth_roadsOf s hs]
  refine ⟨by rw [insAll_len]; simp [leadsOf], fun k hk => ?_⟩
  unfold upAt
  rw [Bool.and_eq_true, inB_iff, Bool.or_eq_true, decide_eq_true_eq, decide_eq_true_eq, hn']
  have hm := insAll_mem _ _ (nth_mem _ _ hk)
  unfold leadsOf at hm
  obtain ⟨r, hr, e⟩ := List.mem_map.1 hm
  obtain ⟨l, hl2, rfl⟩ := mem_nth _ _ hr
  obtain ⟨q1, q2⟩ := autOk_row ha l hl2
  have q3 := q2 s (by omega)
  unfold leadsOf
  rw [← e]
  refine ⟨?_, ?_⟩
  · rw [Int.toNat_natCast]; omega
  · by_cases e0 : k = 0
    · exact Or.inl e0
    · right
      have := insAll_sorted (a.nx.map fun row => nth row (s : Int).toNat) k (by omega) hk
      rw [e]
      exact this

end Go.Proofs.YthbebnfhplacnaaDoor
