/- The sets to which words lead, in the order of their first words. -/
import Derived.Test.YtcjmcpfdpnakkaaBase
import Derived.Test.YtcjmcpfdpnakkaaAut
import Derived.Test.YtcjmcpfdpnakkaaPlain1
import Derived.Test.YtcjmcpfdpnakkaaPlainRun
import Derived.Test.YtcjmcpfdpnakkaaPlainSet
import Derived.Test.YtcjmcpfdpnakkaaPlainBits
import Derived.WalkKit
import Derived.WalkSpells
import Derived.WalkLawsBesides
import Derived.Deep.QuietTactic
import Derived.Deep.OwnRows
import Derived.BigQuiet
import Derived.KernelRfl
namespace Go.Proofs.Ytcjmcpfdpnakkaa
open Go.RowKit

structure Tour where
  sets : List Nat
  words : List (List Int)
  before : List Int
  letters : List Int
def tStep (nx : List (List Int)) (i l : Nat) (t : Tour) : Tour :=
  if t.sets.contains (moved (nth nx l) (nth t.sets i)) = true then t
  else ⟨t.sets ++ [moved (nth nx l) (nth t.sets i)], t.words ++ [nth t.words i ++ [(l : Int)]], t.before ++ [(i : Int)], t.letters ++ [(l : Int)]⟩
def tRow (nx : List (List Int)) (i : Nat) (t : Tour) (k : Nat) : Tour := (List.range k).foldl (fun t l => tStep nx i l t) t
def tStart (f : Nat) : Tour := ⟨[f], [[]], [-1], [0]⟩
def tTo (nx : List (List Int)) (f k : Nat) : Tour := (List.range k).foldl (fun t i => if i < t.sets.length then tRow nx i t nx.length else t) (tStart f)
/-- All sets to which words lead from one. -/
def tourOf (nx : List (List Int)) (f : Nat) : Tour := tTo nx f 1024
theorem tRow_zero (nx : List (List Int)) (i : Nat) (t : Tour) : tRow nx i t 0 = t := rfl
theorem tRow_succ (nx : List (List Int)) (i : Nat) (t : Tour) (k : Nat) : tRow nx i t (k + 1) = tStep nx i k (tRow nx i t k) := by simp [tRow, List.range_succ]
theorem tTo_zero (nx : List (List Int)) (f : Nat) : tTo nx f 0 = tStart f := rfl
theorem tTo_succ (nx : List (List Int)) (f k : Nat) : tTo nx f (k + 1) = if k < (tTo nx f k).sets.length then tRow nx k (tTo nx f k) nx.length else tTo nx f k := by
  unfold tTo; rw [List.range_succ, List.foldl_append]; rfl
theorem tTo_stop (nx : List (List Int)) (f k : Nat) (h : (tTo nx f k).sets.length ≤ k) : ∀ d, tTo nx f (k + d) = tTo nx f k
  | 0 => rfl
  | d + 1 => by
    have ih := tTo_stop nx f k h d
    rw [← Nat.add_assoc, tTo_succ, ih, if_neg (by omega)]
theorem nodup_bound : ∀ (N : Nat) (xs : List Nat), xs.Nodup → (∀ x, x ∈ xs → x < N) → xs.length ≤ N
  | 0, xs, _, h => by
    cases xs with
    | nil => simp
    | cons x r => exact absurd (h x (by simp)) (by omega)
  | N + 1, xs, hd, h => by
    by_cases hm : N ∈ xs
    · have h1 := nodup_bound N (xs.erase N) (hd.erase N) (fun x hx => by
        have h2 := (List.Nodup.mem_erase_iff hd).1 hx
        have h3 := h x h2.2
        have h4 := h2.1
        omega)
      have h2 := List.length_erase_of_mem hm
      have h3 : 0 < xs.length := List.length_pos_of_mem hm
      omega
    · have := nodup_bound N xs hd (fun x hx => by
        have h3 := h x hx
        have : x ≠ N := fun e => hm (e ▸ hx)
        omega)
      omega
/-- What holds of a tour at each moment. -/
structure TOk (a : Aut) (t : Tour) : Prop where
  nodup : t.sets.Nodup
  lt : ∀ x, x ∈ t.sets → x < 2 ^ a.n.toNat
  lw : t.words.length = t.sets.length
  lb : t.before.length = t.sets.length
  ll : t.letters.length = t.sets.length
  pos : 0 < t.sets.length
  lets : ∀ i, i < t.sets.length → 0 ≤ nth t.letters i ∧ nth t.letters i < a.nx.length
  chain : ∀ i, i < t.sets.length → (nth t.before i = -1 ∧ nth t.words i = []) ∨ (∃ j : Nat, j < i ∧ nth t.before i = j ∧ nth t.words i = nth t.words j ++ [nth t.letters i])
  wl : ∀ i, i < t.sets.length → (nth t.words i).length ≤ i
theorem TOk.len {a : Aut} {t : Tour} (h : TOk a t) (hn : a.n ≤ 10) : t.sets.length ≤ 1024 := by
  have := nodup_bound _ _ h.nodup h.lt
  have h2 := pow10' a.n.toNat (by omega)
  omega
theorem TOk.start {a : Aut} (ha : 1 ≤ a.nx.length) (f : Nat) (hf : f < 2 ^ a.n.toNat) : TOk a (tStart f) where
  nodup := by simp [tStart]
  lt := by simp [tStart]; exact hf
  lw := rfl
  lb := rfl
  ll := rfl
  pos := by simp [tStart]
  lets := by
    intro i hi
    simp [tStart] at hi
    subst hi
    simp [tStart, nth]; omega
  chain := by
    intro i hi
    simp [tStart] at hi
    subst hi
    left; exact ⟨rfl, rfl⟩
  wl := by
    intro i hi
    simp [tStart] at hi
    subst hi
    simp [tStart, nth]
theorem contains_iff (xs : List Nat) (x : Nat) : xs.contains x = true ↔ x ∈ xs := by simp
theorem tStep_has (nx : List (List Int)) (i l : Nat) (t : Tour) (h : t.sets.contains (moved (nth nx l) (nth t.sets i)) = true) : tStep nx i l t = t := by unfold tStep; rw [if_pos h]
theorem tStep_new (nx : List (List Int)) (i l : Nat) (t : Tour) (h : t.sets.contains (moved (nth nx l) (nth t.sets i)) = false) :
    tStep nx i l t = ⟨t.sets ++ [moved (nth nx l) (nth t.sets i)], t.words ++ [nth t.words i ++ [(l : Int)]], t.before ++ [(i : Int)], t.letters ++ [(l : Int)]⟩ := by unfold tStep; rw [if_neg (by rw [h]; simp)]
theorem moved_ok {a : Aut} (ha : autOk a = true) (l f : Nat) (hl : l < a.nx.length) (hf : f < 2 ^ a.n.toNat) : moved (nth a.nx l) f < 2 ^ a.n.toNat := by
  have h1 := autOk_n ha
  obtain ⟨h2, h3⟩ := autOk_row ha l hl
  rw [moved_eq (nth a.nx l) hf (by omega)]
  refine moveB_lt _ _ _ _ fun i hi _ => ?_
  have := h3 i (by omega)
  omega
theorem TOk.step {a : Aut} (ha : autOk a = true) {t : Tour} (h : TOk a t) (i l : Nat) (hi : i < t.sets.length) (hl : l < a.nx.length) : TOk a (tStep a.nx i l t) := by
  cases hc : t.sets.contains (moved (nth a.nx l) (nth t.sets i)) with
  | true => rw [tStep_has _ _ _ _ hc]; exact h
  | false =>
    rw [tStep_new _ _ _ _ hc]
    have hnot : moved (nth a.nx l) (nth t.sets i) ∉ t.sets := by rw [← contains_iff, hc]; simp
    have hmv := moved_ok ha l (nth t.sets i) hl (h.lt _ (nth_mem _ _ hi))
    refine ⟨?_, ?_, by simp [h.lw], by simp [h.lb], by simp [h.ll], by simp, ?_, ?_, ?_⟩
    · rw [List.nodup_append]
      refine ⟨h.nodup, by simp, ?_⟩
      intro x hx y hy
      simp at hy
      subst hy
      rintro rfl
      exact hnot hx
    · intro x hx
      rcases List.mem_append.1 hx with h1 | h1
      · exact h.lt x h1
      · simp at h1; subst h1; exact hmv
    · intro k hk
      simp at hk
      by_cases e : k < t.sets.length
      · rw [nth_append_left _ _ _ (by rw [h.ll]; exact e)]; exact h.lets k e
      · have : k = t.letters.length := by rw [h.ll]; omega
        subst this
        rw [nth_append_here]; omega
    · intro k hk
      simp at hk
      by_cases e : k < t.sets.length
      · simp only []
        rw [nth_append_left _ _ _ (by rw [h.lb]; exact e), nth_append_left _ _ _ (by rw [h.lw]; exact e), nth_append_left _ _ _ (by rw [h.ll]; exact e)]
        rcases h.chain k e with h1 | ⟨j, j1, j2, j3⟩
        · exact Or.inl h1
        · right
          exact ⟨j, j1, j2, by rw [nth_append_left _ _ _ (by rw [h.lw]; omega)]; exact j3⟩
      · have ek : k = t.sets.length := by omega
        right
        refine ⟨i, by omega, ?_, ?_⟩
        · have : k = t.before.length := by rw [h.lb]; omega
          rw [this, nth_append_here]
        · have e1 : k = t.words.length := by rw [h.lw]; omega
          have e2 : k = t.letters.length := by rw [h.ll]; omega
          simp only []
          rw [nth_append_left t.words _ i (by rw [h.lw]; exact hi)]
          conv => lhs; rw [e1, nth_append_here]
          rw [e2, nth_append_here]
    · intro k hk
      simp at hk
      by_cases e : k < t.sets.length
      · simp only []
        rw [nth_append_left _ _ _ (by rw [h.lw]; exact e)]; exact h.wl k e
      · have e1 : k = t.words.length := by rw [h.lw]; omega
        have := h.wl i hi
        rw [e1, nth_append_here]
        rw [h.lw]
        simp; omega
theorem tStep_sets (nx : List (List Int)) (i l : Nat) (t : Tour) : t.sets.length ≤ (tStep nx i l t).sets.length ∧ ∀ k, k < t.sets.length → nth (tStep nx i l t).sets k = nth t.sets k := by
  cases hc : t.sets.contains (moved (nth nx l) (nth t.sets i)) with
  | true => rw [tStep_has _ _ _ _ hc]; exact ⟨Nat.le_refl _, fun _ _ => rfl⟩
  | false =>
    rw [tStep_new _ _ _ _ hc]
    exact ⟨by simp, fun k hk => nth_append_left _ _ _ hk⟩
theorem tRow_sets (nx : List (List Int)) (i : Nat) (t : Tour) : ∀ k, t.sets.length ≤ (tRow nx i t k).sets.length ∧ ∀ j, j < t.sets.length → nth (tRow nx i t k).sets j = nth t.sets j
  | 0 => ⟨Nat.le_refl _, fun _ _ => rfl⟩
  | k + 1 => by
    rw [tRow_succ]
    obtain ⟨h1, h2⟩ := tRow_sets nx i t k
    obtain ⟨h3, h4⟩ := tStep_sets nx i k (tRow nx i t k)
    exact ⟨by omega, fun j hj => by rw [h4 j (by omega), h2 j hj]⟩
theorem TOk.row {a : Aut} (ha : autOk a = true) {t : Tour} (h : TOk a t) (i : Nat) (hi : i < t.sets.length) : ∀ k, k ≤ a.nx.length → TOk a (tRow a.nx i t k)
  | 0, _ => h
  | k + 1, hk => by
    rw [tRow_succ]
    have := (tRow_sets a.nx i t k).1
    exact (TOk.row ha h i hi k (by omega)).step ha i k (by omega) (by omega)
theorem TOk.to {a : Aut} (ha : autOk a = true) (f : Nat) (hf : f < 2 ^ a.n.toNat) : ∀ k, TOk a (tTo a.nx f k)
  | 0 => TOk.start (by have := autOk_l ha; omega) f hf
  | k + 1 => by
    rw [tTo_succ]
    split
    · rename_i h; exact (TOk.to ha f hf k).row ha k h _ (Nat.le_refl _)
    · exact TOk.to ha f hf k
theorem tour_end {a : Aut} (ha : autOk a = true) (f : Nat) (hf : f < 2 ^ a.n.toNat) (k : Nat) (h : (tTo a.nx f k).sets.length = k) : tourOf a.nx f = tTo a.nx f k := by
  have h1 := (TOk.to ha f hf k).len (autOk_n ha).2
  have := tTo_stop a.nx f k (by omega) (1024 - k)
  rwa [show k + (1024 - k) = 1024 by omega] at this
theorem tourOk {a : Aut} (ha : autOk a = true) (f : Nat) (hf : f < 2 ^ a.n.toNat) : TOk a (tourOf a.nx f) := TOk.to ha f hf _

end Go.Proofs.Ytcjmcpfdpnakkaa
