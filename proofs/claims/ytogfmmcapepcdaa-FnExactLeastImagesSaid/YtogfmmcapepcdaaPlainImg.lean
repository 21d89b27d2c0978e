/- The images of the least rank. -/
import Derived.Test.YtogfmmcapepcdaaCore
import Derived.Test.YtogfmmcapepcdaaPlains
import Derived.Test.YtogfmmcapepcdaaPlainOrd
import Derived.Test.YtogfmmcapepcdaaPlainIns
import Derived.WalkKit
import Derived.WalkSpells
import Derived.WalkLawsBesides
import Derived.Deep.QuietTactic
import Derived.Deep.OwnRows
import Derived.BigQuiet
import Derived.KernelRfl
namespace Go.Proofs.Ytogfmmcapepcdaa
open Go.RowKit

theorem setOf_mem (f i : Nat) (hi : i < 10) : (i : Int) ∈ setOf f ↔ f.testBit i = true := by
  unfold setOf bitsTo
  rw [List.mem_filter]
  constructor
  · rintro ⟨_, h⟩; simpa using h
  · intro h
    refine ⟨?_, by simpa using h⟩
    unfold iota
    rw [List.mem_map]
    exact ⟨i, List.mem_range.2 hi, by simp⟩
theorem setOf_inj (f g : Nat) (hf : f < 1024) (hg : g < 1024) (h : setOf f = setOf g) : f = g := by
  apply Nat.eq_of_testBit_eq
  intro i
  by_cases hi : i < 10
  · have a := setOf_mem f i hi
    have b := setOf_mem g i hi
    rw [h] at a
    rw [Bool.eq_iff_iff, ← a, b]
  · have p : 1024 ≤ 2 ^ i := Nat.le_trans (by decide : 1024 ≤ 2 ^ 10) (Nat.pow_le_pow_right (by decide) (by omega))
    rw [Nat.testBit_lt_two_pow (by omega), Nat.testBit_lt_two_pow (by omega)]
/-- Those of the first k sets with so many states. -/
def imgs (sets : List Nat) (b k : Nat) : List (List Int) := ((sets.take k).map setOf).filter fun s => decide (s.length = b)
theorem imgs_zero (sets : List Nat) (b : Nat) : imgs sets b 0 = [] := by simp [imgs]
theorem imgs_yes (sets : List Nat) (b k : Nat) (hk : k < sets.length) (h : (setOf (nth sets k)).length = b) : imgs sets b (k + 1) = imgs sets b k ++ [setOf (nth sets k)] := by
  unfold imgs
  rw [take_succ_nth sets k hk, List.map_append, List.filter_append]
  simp [h]
theorem imgs_no (sets : List Nat) (b k : Nat) (hk : k < sets.length) (h : (setOf (nth sets k)).length ≠ b) : imgs sets b (k + 1) = imgs sets b k := by
  unfold imgs
  rw [take_succ_nth sets k hk, List.map_append, List.filter_append]
  simp [h]
theorem imgs_len (sets : List Nat) (b k : Nat) (hk : k ≤ sets.length) : (imgs sets b k).length ≤ k := by
  unfold imgs
  refine Nat.le_trans (List.length_filter_le _ _) ?_
  simp
  omega
theorem imgs_fresh (sets : List Nat) (b k : Nat) (hk : k < sets.length) (hn : sets.Nodup) (h : ∀ x, x ∈ sets → x < 1024) : setOf (nth sets k) ∉ imgs sets b k := by
  intro hm
  unfold imgs at hm
  have hm' := (List.mem_filter.1 hm).1
  obtain ⟨f, hf, e⟩ := List.mem_map.1 hm'
  have hf2 : f ∈ sets := List.mem_of_mem_take hf
  have e2 := setOf_inj f (nth sets k) (h f hf2) (h _ (nth_mem _ _ hk)) e
  obtain ⟨j, hj, hjf⟩ := mem_nth _ _ hf
  have hjk : j < k := by simp at hj; omega
  have hjn : nth (sets.take k) j = nth sets j := by
    rw [nth_eq _ _ hj, nth_eq _ _ (by omega)]; simp
  rw [hjn] at hjf
  rw [List.nodup_iff_pairwise_ne, List.pairwise_iff_getElem] at hn
  have := hn j k (by omega) hk hjk
  rw [← nth_eq _ _ (by omega), ← nth_eq _ _ hk] at this
  exact this (hjf.trans e2)
def LeastImages (a : Aut) : List (List Int) × Int :=
  if autOk a = true then (buildR lexLt (imgs (tourOf a.nx (full a.n)).sets (leastOf a.nx (full a.n)) (tourOf a.nx (full a.n)).sets.length), 0) else ([], 1)
theorem LeastImages_big (a : Aut) : (LeastImages a).1.length ≤ 1048576 ∧ total (LeastImages a).1 ≤ 1073741824 := by
  unfold LeastImages
  split
  · rename_i ha
    have hlen := (tourOk ha (full a.n) (full_lt a.n)).len (autOk_n ha).2
    generalize leastOf a.nx (full a.n) = b
    generalize tourOf a.nx (full a.n) = T at hlen ⊢
    have hil := imgs_len T.sets b T.sets.length (Nat.le_refl _)
    have hl : (buildR lexLt (imgs T.sets b T.sets.length)).length ≤ 1024 := by rw [buildR_len]; omega
    have hp := (buildR_ok lex_total (imgs T.sets b T.sets.length)).2
    have ht := total_bound (buildR lexLt (imgs T.sets b T.sets.length)) 10 (fun i hi => by
      have h0 := hp.subset (nth_mem _ _ hi)
      have h1 : nth (buildR lexLt (imgs T.sets b T.sets.length)) i ∈ (T.sets.take T.sets.length).map setOf := (List.mem_filter.1 h0).1
      obtain ⟨x, _, hx⟩ := List.mem_map.1 h1
      rw [← hx]; exact bitsTo_len x 10)
    refine ⟨Nat.le_trans hl (by decide), ?_⟩
    show total (buildR lexLt (imgs T.sets b T.sets.length)) ≤ _
    omega
  · simp [total]
/-- The least rank is that of some set. -/
theorem leastTo_hit (sets : List Nat) (m : Nat) : ∀ k, k ≤ sets.length → leastTo sets m k = m ∨ ∃ j, j < k ∧ (setOf (nth sets j)).length = leastTo sets m k
  | 0, _ => Or.inl rfl
  | k + 1, hk => by
    rw [leastTo_succ sets m k (by omega)]
    rcases leastTo_hit sets m k (by omega) with h | ⟨j, hj, h⟩
    · rcases Nat.le_total (leastTo sets m k) (setOf (nth sets k)).length with q | q
      · left; rw [Nat.min_eq_left q, h]
      · right; exact ⟨k, Nat.lt_succ_self _, by rw [Nat.min_eq_right q]⟩
    · rcases Nat.le_total (leastTo sets m k) (setOf (nth sets k)).length with q | q
      · right; exact ⟨j, by omega, by rw [Nat.min_eq_left q, h]⟩
      · right; exact ⟨k, Nat.lt_succ_self _, by rw [Nat.min_eq_right q]⟩
theorem imgs_some {a : Aut} (ha : autOk a = true) (f : Nat) (hf : f < 2 ^ a.n.toNat) : 0 < (imgs (tourOf a.nx f).sets (leastOf a.nx f) (tourOf a.nx f).sets.length).length := by
  have hpos := (tourOk ha f hf).pos
  have hfirst := tour_first a.nx f
  have : ∃ j, j < (tourOf a.nx f).sets.length ∧ (setOf (nth (tourOf a.nx f).sets j)).length = leastOf a.nx f := by
    rcases leastTo_hit (tourOf a.nx f).sets (setOf f).length (tourOf a.nx f).sets.length (Nat.le_refl _) with h | h
    · exact ⟨0, hpos, by rw [hfirst]; exact h.symm⟩
    · exact h
  obtain ⟨j, hj, h⟩ := this
  have hm : setOf (nth (tourOf a.nx f).sets j) ∈ imgs (tourOf a.nx f).sets (leastOf a.nx f) (tourOf a.nx f).sets.length := by
    unfold imgs
    rw [List.take_length, List.mem_filter]
    exact ⟨List.mem_map.2 ⟨_, nth_mem _ _ hj, rfl⟩, by simp [h]⟩
  exact List.length_pos_of_mem hm

end Go.Proofs.Ytogfmmcapepcdaa
