/- Parts of the proof that lean on no program: PlainNum, PlainSurvey, PlainQuick. -/
import Derived.Test.YthbebnfhplacnaaDoorCore
import Derived.Test.YthbebnfhplacnaaDoorPlains
import Derived.Test.YthbebnfhplacnaaDoorJoins
import Derived.WalkKit
import Derived.WalkSpells
import Derived.WalkLawsBesides
import Derived.Deep.QuietTactic
import Derived.Deep.OwnRows
import Derived.BigQuiet
import Derived.KernelRfl
namespace Go.Proofs.YthbebnfhplacnaaDoor
open Go.RowKit

section
def numTo (cs : List (List (List Int))) (f : Nat → List Int) : Nat → Int
  | 0 => 0
  | s + 1 => numTo cs f s * ((nth cs s).length : Int) + findL (nth cs s) (f s)
theorem findL_range (xss : List (List Int)) (xs : List Int) : -1 ≤ findL xss xs ∧ findL xss xs ≤ xss.length := by
  by_cases h : xs ∈ xss
  · obtain ⟨k, hk, e, _⟩ := findL_mem h; omega
  · rw [findL_not h]; omega
theorem numTo_range {cs : List (List (List Int))} {f : Nat → List Int} (h : ∀ s, s < cs.length → (nth cs s).length ≤ 6) : ∀ s, s ≤ cs.length → -((13 ^ s : Nat) : Int) ≤ numTo cs f s ∧ numTo cs f s ≤ ((13 ^ s : Nat) : Int)
  | 0, _ => by simp [numTo]
  | s + 1, hs => by
    have ih := numTo_range (f := f) h s (by omega)
    have h1 := h s (by omega)
    have h2 := findL_range (nth cs s) (f s)
    have h3 : 1 ≤ 13 ^ s := Nat.one_le_pow _ _ (by decide)
    obtain ⟨L, hL⟩ : ∃ L, L = (nth cs s).length := ⟨_, rfl⟩
    obtain ⟨F, hF⟩ : ∃ F, F = findL (nth cs s) (f s) := ⟨_, rfl⟩
    obtain ⟨Q, hQ⟩ : ∃ Q, Q = 13 ^ s := ⟨_, rfl⟩
    obtain ⟨X, hX⟩ : ∃ X, X = numTo cs f s := ⟨_, rfl⟩
    rw [Nat.pow_succ]
    unfold numTo
    rw [← hL] at h1 h2
    rw [← hF] at h2
    rw [← hQ] at ih h3
    rw [← hX] at ih
    rw [← hL, ← hF, ← hQ, ← hX]
    have key : X * (L : Int) ≤ 6 * (Q : Int) ∧ -(6 * (Q : Int)) ≤ X * (L : Int) := by
      have hl : L = 0 ∨ L = 1 ∨ L = 2 ∨ L = 3 ∨ L = 4 ∨ L = 5 ∨ L = 6 := by omega
      rcases hl with h | h | h | h | h | h | h <;> subst h <;> simp <;> omega
    omega
theorem numTo_big {cs : List (List (List Int))} {f : Nat → List Int} (h : ∀ s, s < cs.length → (nth cs s).length ≤ 6) (h7 : cs.length ≤ 7) (s : Nat) (hs : s ≤ cs.length) : -100000000 ≤ numTo cs f s ∧ numTo cs f s ≤ 100000000 := by
  have := numTo_range (f := f) h s hs
  have h2 : 13 ^ s ≤ 13 ^ 7 := Nat.pow_le_pow_right (by decide) (by omega)
  have h3 : (13 : Nat) ^ 7 = 62748517 := by decide
  omega
theorem choices_six {r : Aut} (hr : RoadsFacts r) (p : Nat) (h : p < (choicesOf r).length) : (nth (choicesOf r) p).length ≤ 6 := by
  rw [choices_len] at h
  rw [nth_choices _ _ h]
  have h1 := arr_len (nth r.nx p).length (nth r.nx p)
  have h2 : ∀ n, n ≤ 3 → arrB n ≤ 6 := by decide
  have h3 := h2 (nth r.nx p).length (by rw [hr.row p h]; exact hr.l3)
  show (arrF (nth r.nx p).length (nth r.nx p)).length ≤ 6
  omega
def numOf (r a : Aut) : Int := numTo (choicesOf r) (fun s => leadsOf a.nx s) r.nx.length
def NumberOf (r a : Aut) : Int × Int := if (roadsOk r && autOk a) = true then (if decide (r = roadsOf a) = true then (numOf r a, 0) else (0, 4)) else (0, 1)
theorem coloured_n {r a : Aut} (ha : autOk a = true) (h : r = roadsOf a) : (r.nx.length : Int) = a.n := by
  have hn := autOk_n ha
  subst h
  unfold roadsOf
  simp [iota]
  omega
end
section
def pc (f : Nat) : Nat := (setOf f).length
theorem pc_zero : pc 0 = 0 := by decide
theorem pc_all : ∀ f : Fin 128, 0 < f.val → pc f.val = pc (f.val &&& (f.val - 1)) + 1 ∧ (smallB f.val = true → pc f.val = 1) ∧ (smallB f.val = false → 2 ≤ pc f.val) := by decide +kernel
theorem pc_step (f : Nat) (h : f < 128) (h0 : 0 < f) : pc f = pc (f &&& (f - 1)) + 1 := (pc_all ⟨f, h⟩ h0).1
theorem pc_small (f : Nat) (h : f < 128) (h0 : 0 < f) (hs : smallB f = true) : pc f = 1 := (pc_all ⟨f, h⟩ h0).2.1 hs
theorem pc_great (f : Nat) (h : f < 128) (h0 : 0 < f) (hs : smallB f = false) : 2 ≤ pc f := (pc_all ⟨f, h⟩ h0).2.2 hs
theorem and_pred_lt (f : Nat) (h0 : 0 < f) : f &&& (f - 1) < f := by
  have := @Nat.and_le_right f (f - 1)
  omega
theorem full_small : ∀ n : Fin 8, 0 < n.val → pc (2 ^ n.val - 1) = n.val ∧ (smallB (2 ^ n.val - 1) = true → n.val = 1) := by decide +kernel
/-- How far a set is from the start, -1 if it has not been reached. -/
def farS (t : Tour) (x : Nat) : Int := match t.sets.findIdx? (fun y => y == x) with
  | some i => ((nth t.words i).length : Int)
  | none => -1
theorem findIdx_at {sets : List Nat} (h : sets.Nodup) (i : Nat) (hi : i < sets.length) : sets.findIdx? (fun y => y == nth sets i) = some i := by
  rw [List.findIdx?_eq_some_iff_getElem]
  refine ⟨hi, by rw [nth_eq _ _ hi]; simp, fun j hj => ?_⟩
  rw [nth_eq _ _ hi]
  have := List.pairwise_iff_getElem.1 h j i (by omega) hi hj
  simpa using this
theorem farS_nth {t : Tour} (h : t.sets.Nodup) (i : Nat) (hi : i < t.sets.length) : farS t (nth t.sets i) = ((nth t.words i).length : Int) := by
  unfold farS; rw [findIdx_at h i hi]
theorem farS_not {t : Tour} (x : Nat) (hx : x ∉ t.sets) : farS t x = -1 := by
  unfold farS
  have : t.sets.findIdx? (fun y => y == x) = none := by
    rw [List.findIdx?_eq_none_iff]
    intro y hy
    have : y ≠ x := fun e => hx (e ▸ hy)
    simpa using this
  rw [this]
theorem farS_low (t : Tour) (x : Nat) : -1 ≤ farS t x := by
  unfold farS; split <;> omega
theorem farS_neg {t : Tour} (h : t.sets.Nodup) (x : Nat) : farS t x < 0 ↔ x ∉ t.sets := by
  constructor
  · intro hn hx
    obtain ⟨i, hi, rfl⟩ := mem_nth _ _ hx
    rw [farS_nth h i hi] at hn; omega
  · intro hx; rw [farS_not x hx]; omega
theorem farS_put {t : Tour} (h : t.sets.Nodup) (hlw : t.words.length = t.sets.length) (y : Nat) (hy : y ∉ t.sets) (wd : List Int) (b l : List Int) (x : Nat) :
    farS ⟨t.sets ++ [y], t.words ++ [wd], b, l⟩ x = if x = y then (wd.length : Int) else farS t x := by
  have hnd : (t.sets ++ [y]).Nodup := by
    rw [List.nodup_append]
    refine ⟨h, by simp, ?_⟩
    intro u hu v hv
    simp at hv; subst hv
    rintro rfl; exact hy hu
  by_cases e : x = y
  · subst e
    rw [if_pos rfl]
    have := farS_nth (t := ⟨t.sets ++ [x], t.words ++ [wd], b, l⟩) hnd t.sets.length (by simp)
    simp only [] at this
    rw [nth_append_here] at this
    rw [this, ← hlw, nth_append_here]
  · rw [if_neg e]
    by_cases hx : x ∈ t.sets
    · obtain ⟨i, hi, rfl⟩ := mem_nth _ _ hx
      have := farS_nth (t := ⟨t.sets ++ [y], t.words ++ [wd], b, l⟩) hnd i (by simp; omega)
      simp only [] at this
      rw [nth_append_left _ _ _ hi] at this
      rw [this, farS_nth h i hi, nth_append_left _ _ _ (by rw [hlw]; exact hi)]
    · rw [farS_not x hx, farS_not x (by simp only []; simp [hx, e])]
def surveyOf (a : Aut) : Int × Int :=
  let r := firstWord smallB (tourOf a.nx (full a.n))
  if r.2 = true then (1, (r.1.length : Int)) else ((leastTo (tourOf a.nx (full a.n)).sets a.n.toNat (tourOf a.nx (full a.n)).sets.length : Nat), -1)
theorem moved_pos {row : List Int} {f : Nat} (hf : f < 1024) (h : 0 < f) : 0 < moved row f := by
  unfold moved
  rw [moveB_list]
  have hne : f ≠ 0 := by omega
  obtain ⟨i, hi⟩ := Nat.exists_testBit_of_ne_zero hne
  have hi10 : i < 10 := by
    by_cases hq : i < 10
    · exact hq
    · have := testBit_ge (f := f) (n := 10) hf (by omega : 10 ≤ i); rw [this] at hi; cases hi
  have hm : (i : Int) ∈ bitsTo f 10 := by rw [mem_bitsTo]; exact ⟨by omega, by omega, by simpa using hi⟩
  have ht := (testBit_orB ((bitsTo f 10).map fun s => nth row s.toNat) (nth row i).toNat).2 ⟨nth row i, List.mem_map.2 ⟨(i : Int), hm, by simp⟩, rfl⟩
  rcases Nat.eq_zero_or_pos (orB ((bitsTo f 10).map fun s => nth row s.toNat)) with h0 | h0
  · rw [h0] at ht; simp at ht
  · exact h0
/-- No set is empty. -/
theorem tStep_pos (nx : List (List Int)) (i l : Nat) (t : Tour) (hi : i < t.sets.length) (h : ∀ x, x ∈ t.sets → 0 < x ∧ x < 1024) (hm : moved (nth nx l) (nth t.sets i) < 1024) : ∀ x, x ∈ (tStep nx i l t).sets → 0 < x ∧ x < 1024 := by
  unfold tStep
  split
  · exact h
  · intro x hx
    rcases List.mem_append.1 hx with q | q
    · exact h x q
    · simp at q; subst q
      have := h _ (nth_mem _ _ hi)
      exact ⟨moved_pos this.2 this.1, hm⟩
/-- t' goes on from t. -/
def TPre (t t' : Tour) : Prop := t.sets.length ≤ t'.sets.length ∧ ∀ j, j < t.sets.length → nth t'.sets j = nth t.sets j ∧ (t.words.length = t.sets.length → nth t'.words j = nth t.words j)
theorem TPre.refl (t : Tour) : TPre t t := ⟨Nat.le_refl _, fun _ _ => ⟨rfl, fun _ => rfl⟩⟩
theorem TPre.trans {a b c : Tour} (h : TPre a b) (hb : b.words.length = b.sets.length) (k : TPre b c) : TPre a c :=
  ⟨Nat.le_trans h.1 k.1, fun j hj => ⟨by rw [(k.2 j (by have := h.1; omega)).1, (h.2 j hj).1], fun e => by rw [(k.2 j (by have := h.1; omega)).2 hb, (h.2 j hj).2 e]⟩⟩
theorem tStep_pre (nx : List (List Int)) (i l : Nat) (t : Tour) : TPre t (tStep nx i l t) := by
  unfold tStep
  split
  · exact TPre.refl _
  · exact ⟨by simp, fun j hj => ⟨nth_append_left _ _ _ hj, fun e => nth_append_left _ _ _ (by rw [e]; exact hj)⟩⟩
theorem tRow_pre {a : Aut} (ha : autOk a = true) {t : Tour} (h : TOk a t) (i : Nat) (hi : i < t.sets.length) : ∀ k, k ≤ a.nx.length → TPre t (tRow a.nx i t k)
  | 0, _ => TPre.refl _
  | k + 1, hk => by
    rw [tRow_succ]
    exact (tRow_pre ha h i hi k (by omega)).trans (h.row ha i hi k (by omega)).lw (tStep_pre _ _ _ _)
theorem tTo_pre {a : Aut} (ha : autOk a = true) (f : Nat) (hf : f < 2 ^ a.n.toNat) (k : Nat) : ∀ d, TPre (tTo a.nx f k) (tTo a.nx f (k + d))
  | 0 => TPre.refl _
  | d + 1 => by
    rw [← Nat.add_assoc]
    refine (tTo_pre ha f hf k d).trans (TOk.to ha f hf _).lw ?_
    rw [tTo_succ]
    split
    · rename_i h; exact tRow_pre ha (TOk.to ha f hf _) _ h _ (Nat.le_refl _)
    · exact TPre.refl _
theorem tRow_posS {a : Aut} (ha : autOk a = true) {t : Tour} (h : TOk a t) (i : Nat) (hi : i < t.sets.length) (hp : ∀ x, x ∈ t.sets → 0 < x ∧ x < 1024) : ∀ k, k ≤ a.nx.length → ∀ x, x ∈ (tRow a.nx i t k).sets → 0 < x ∧ x < 1024
  | 0, _ => hp
  | k + 1, hk => by
    rw [tRow_succ]
    have hpre := tRow_pre ha h i hi k (by omega)
    have hi2 : i < (tRow a.nx i t k).sets.length := by have := hpre.1; omega
    have hok := h.row ha i hi k (by omega)
    exact tStep_pos _ _ _ _ hi2 (tRow_posS ha h i hi hp k (by omega)) (lt_10 (moved_ok ha k _ (by omega) (hok.lt _ (nth_mem _ _ hi2))) (autOk_n' ha))
where
  autOk_n' {a : Aut} (ha : autOk a = true) : a.n.toNat ≤ 10 := by have := autOk_n ha; omega
theorem tTo_posS {a : Aut} (ha : autOk a = true) (f : Nat) (hf : f < 2 ^ a.n.toNat) (h0 : 0 < f) (h1 : f < 1024) : ∀ k x, x ∈ (tTo a.nx f k).sets → 0 < x ∧ x < 1024
  | 0, x, hx => by simp [tTo_zero, tStart] at hx; subst hx; exact ⟨h0, h1⟩
  | k + 1, x, hx => by
    rw [tTo_succ] at hx
    split at hx
    · rename_i h; exact tRow_posS ha (TOk.to ha f hf k) k h (tTo_posS ha f hf h0 h1 k) _ (Nat.le_refl _) x hx
    · exact tTo_posS ha f hf h0 h1 k x hx
/-- The rank so far, while no set of one state has been met. -/
theorem least_great (sets : List Nat) (n : Nat) (hn : 1 ≤ n) (h : ∀ x, x ∈ sets → 0 < x ∧ x < 128) (h0 : 0 < sets.length → pc (nth sets 0) = n) : ∀ k, k ≤ sets.length → (∀ j, j < k → smallB (nth sets j) = false) → (k = 0 ∨ 2 ≤ leastTo sets n k) ∧ (k = 0 → leastTo sets n k = n)
  | 0, _, _ => ⟨Or.inl rfl, fun _ => rfl⟩
  | k + 1, hk, hs => by
    refine ⟨Or.inr ?_, fun e => by omega⟩
    have hx := h _ (nth_mem sets k (by omega))
    have h2 := pc_great _ hx.2 hx.1 (hs k (by omega))
    rw [leastTo_succ _ _ _ (by omega)]
    have ih := least_great sets n hn h h0 k (by omega) (fun j hj => hs j (by omega))
    show 2 ≤ min (leastTo sets n k) (pc (nth sets k))
    rcases ih.1 with e | e
    · subst e
      have := h0 (by omega)
      have e2 := ih.2 rfl
      omega
    · omega
theorem least_hit (sets : List Nat) (n : Nat) (hn : 1 ≤ n) (h : ∀ x, x ∈ sets → 0 < x ∧ x < 128) (h0 : 0 < sets.length → pc (nth sets 0) = n) (k : Nat) (hk : k < sets.length) (hs : ∀ j, j < k → smallB (nth sets j) = false) :
    (smallB (nth sets k) = true → min (leastTo sets n k) (pc (nth sets k)) = 1) ∧ (smallB (nth sets k) = false → 2 ≤ min (leastTo sets n k) (pc (nth sets k))) := by
  have hx := h _ (nth_mem sets k hk)
  have ih := least_great sets n hn h h0 k (by omega) hs
  constructor
  · intro hq
    have h2 := pc_small _ hx.2 hx.1 hq
    rcases ih.1 with e | e
    · subst e
      have := h0 (by omega)
      have e2 := ih.2 rfl
      omega
    · omega
  · intro hq
    have h2 := pc_great _ hx.2 hx.1 hq
    rcases ih.1 with e | e
    · subst e
      have := h0 (by omega)
      have e2 := ih.2 rfl
      omega
    · omega
theorem pc_full {n : Nat} (h1 : 1 ≤ n) (h7 : n ≤ 7) : pc (2 ^ n - 1) = n := (full_small ⟨n, by omega⟩ h1).1
/-- What is known of the tour of an automaton of few states. -/
theorem survey_sets {a : Aut} (ha : autOk a = true) (h7 : a.n ≤ 7) (k : Nat) : ∀ x, x ∈ (tTo a.nx (full a.n) k).sets → 0 < x ∧ x < 128 := by
  intro x hx
  have hn := autOk_n ha
  have h1 := (TOk.to ha (full a.n) (full_lt _) k).lt x hx
  have h2 : 2 ^ a.n.toNat ≤ 2 ^ 7 := Nat.pow_le_pow_right (by decide) (by omega)
  have h3 : 2 ≤ 2 ^ a.n.toNat := by
    have : 2 ^ 1 ≤ 2 ^ a.n.toNat := Nat.pow_le_pow_right (by decide) (by omega)
    omega
  have hf : 0 < full a.n := by unfold full; omega
  have h4 := full_lt a.n
  exact ⟨(tTo_posS ha _ (full_lt _) hf (by omega) k x hx).1, by omega⟩
theorem survey_zero {a : Aut} (ha : autOk a = true) (h7 : a.n ≤ 7) (k : Nat) : pc (nth (tTo a.nx (full a.n) k).sets 0) = a.n.toNat := by
  have hn := autOk_n ha
  rw [(tTo_first a.nx (full a.n) k).2]
  unfold full
  exact pc_full (by omega) (by omega)
/-- A set of one state ends the survey. -/
theorem survey_hit {a : Aut} (ha : autOk a = true) (k : Nat) (hk : k < (tTo a.nx (full a.n) k).sets.length) (hk2 : k ≤ 1024) (hs : ∀ j, j < k → smallB (nth (tTo a.nx (full a.n) k).sets j) = false) (hq : smallB (nth (tTo a.nx (full a.n) k).sets k) = true) :
    surveyOf a = (1, farS (tTo a.nx (full a.n) k) (nth (tTo a.nx (full a.n) k).sets k)) := by
  have hpre := tTo_pre ha (full a.n) (full_lt _) k (1024 - k)
  rw [show k + (1024 - k) = 1024 by omega] at hpre
  have hok := TOk.to ha (full a.n) (full_lt _) k
  have e := firstWord_hit smallB (tourOf a.nx (full a.n)) k (by have := hpre.1; unfold tourOf; omega) (by unfold tourOf; rw [(hpre.2 k hk).1]; exact hq) (fun j hj => by unfold tourOf; rw [(hpre.2 j (by omega)).1]; exact hs j hj)
  unfold surveyOf
  simp only [e, if_true]
  rw [farS_nth hok.nodup k hk]
  unfold tourOf
  rw [(hpre.2 k hk).2 hok.lw]
theorem survey_none {a : Aut} (ha : autOk a = true) (k : Nat) (hk : (tTo a.nx (full a.n) k).sets.length = k) (hs : ∀ j, j < k → smallB (nth (tTo a.nx (full a.n) k).sets j) = false) :
    surveyOf a = (((leastTo (tTo a.nx (full a.n) k).sets a.n.toNat k : Nat) : Int), -1) := by
  have e0 := tour_end ha (full a.n) (full_lt _) k hk
  have e := firstWord_none smallB (tourOf a.nx (full a.n)) (fun j hj => by rw [e0] at hj ⊢; exact hs j (by omega))
  unfold surveyOf
  rw [e, e0, hk]
  rfl
/-- The rank so far says the same of the sets that have been looked at, whatever comes behind them. -/
theorem leastTo_pre {s t : List Nat} (n k : Nat) (hk : k ≤ s.length) (hl : s.length ≤ t.length) (h : ∀ j, j < s.length → nth t j = nth s j) : leastTo t n k = leastTo s n k := by
  induction k with
  | zero => rfl
  | succ k ih =>
    rw [leastTo_succ _ _ _ (by omega), leastTo_succ _ _ _ (by omega), ih (by omega), h k (by omega)]
end
section
/-- The colouring with a number. -/
def colN (r : Aut) (N : Nat) : Aut := ⟨r.nx.length, atRows (choicesOf r) N (nth r.nx 0).length⟩
theorem colN_ok {r : Aut} (hr : RoadsFacts r) (N : Nat) : autOk (colN r N) = true := colour_ok hr N
theorem colN_n {r : Aut} (hr : RoadsFacts r) (N : Nat) : (colN r N).n ≤ 7 := by
  have := hr.n7
  show ((r.nx.length : Nat) : Int) ≤ 7
  omega
/-- The product of the first lengths. -/
def cntTo (cs : List (List (List Int))) : Nat → Nat
  | 0 => 1
  | s + 1 => cntTo cs s * (nth cs s).length
theorem cntTo_le {cs : List (List (List Int))} (h : ∀ s, s < cs.length → (nth cs s).length ≤ 6) : ∀ s, s ≤ cs.length → cntTo cs s ≤ 6 ^ s
  | 0, _ => Nat.le_refl _
  | s + 1, hs => by
    have ih := cntTo_le h s (by omega)
    rw [Nat.pow_succ]
    exact Nat.mul_le_mul ih (h s (by omega))
theorem cntTo_big {cs : List (List (List Int))} (h : ∀ s, s < cs.length → (nth cs s).length ≤ 6) (h7 : cs.length ≤ 7) (s : Nat) (hs : s ≤ cs.length) : cntTo cs s ≤ 279936 := by
  have h1 := cntTo_le h s hs
  have h2 : 6 ^ s ≤ 6 ^ 7 := Nat.pow_le_pow_right (by decide) (by omega)
  have h3 : (6 : Nat) ^ 7 = 279936 := by decide
  omega
def colCount (r : Aut) : Nat := cntTo (choicesOf r) r.nx.length
theorem colCount_big {r : Aut} (hr : RoadsFacts r) : colCount r ≤ 279936 := by
  have hl := choices_len r
  exact cntTo_big (fun p hp => choices_six hr p hp) (by rw [hl]; exact hr.n7) _ (by rw [hl]; exact Nat.le_refl _)
/-- The first word that resets a colouring. -/
def colW (r : Aut) (N : Nat) : List Int × Bool := firstWord smallB (tourOf (colN r N).nx (full (colN r N).n))
theorem survey_yes {a : Aut} (h : (firstWord smallB (tourOf a.nx (full a.n))).2 = true) : surveyOf a = (1, ((firstWord smallB (tourOf a.nx (full a.n))).1.length : Int)) := by
  unfold surveyOf; simp only [h, if_true]
theorem survey_noK {a : Aut} (ha : autOk a = true) (h7 : a.n ≤ 7) (K : Nat) (h : (firstWord smallB (tTo a.nx (full a.n) K)).2 = false) : ¬ leastTo (tTo a.nx (full a.n) K).sets a.n.toNat (tTo a.nx (full a.n) K).sets.length = 1 := by
  have hn := autOk_n ha
  have hs : ∀ j, j < (tTo a.nx (full a.n) K).sets.length → smallB (nth (tTo a.nx (full a.n) K).sets j) = false := fun j hj => by
    unfold firstWord at h
    cases hq : (tTo a.nx (full a.n) K).sets.findIdx? smallB with
    | some i => rw [hq] at h; cases h
    | none =>
      rw [List.findIdx?_eq_none_iff] at hq
      exact hq _ (nth_mem _ _ hj)
  have hpos := (tTo_first a.nx (full a.n) K).1
  have := (least_great (tTo a.nx (full a.n) K).sets a.n.toNat (by omega) (survey_sets ha h7 K) (fun _ => survey_zero ha h7 K) _ (Nat.le_refl _) hs).1
  rcases this with q | q <;> omega
theorem survey_no {a : Aut} (ha : autOk a = true) (h7 : a.n ≤ 7) (h : (firstWord smallB (tourOf a.nx (full a.n))).2 = false) : ¬ (surveyOf a).1 = 1 := by
  have hK := survey_noK ha h7 1024 h
  have e : surveyOf a = (((leastTo (tourOf a.nx (full a.n)).sets a.n.toNat (tourOf a.nx (full a.n)).sets.length : Nat) : Int), -1) := by
    unfold surveyOf; simp only [h]; rfl
  rw [e]
  intro q
  exact hK (Int.ofNat.inj q)
theorem colW_len {r : Aut} (hr : RoadsFacts r) (N : Nat) : (colW r N).1.length ≤ 1024 := by
  have ha := colN_ok hr N
  have hn := autOk_n ha
  exact firstWord_len (tourOk ha _ (full_lt _)) hn.2 smallB
/-- The number of the colouring with the shortest word so far, -1 while there is none. -/
def quickAt (f : Nat → List Int × Bool) : Nat → Int
  | 0 => -1
  | n + 1 => if (f n).2 = true ∧ (quickAt f n < 0 ∨ (f n).1.length < (f (quickAt f n).toNat).1.length) then (n : Int) else quickAt f n
theorem quickAt_range (f : Nat → List Int × Bool) : ∀ n, -1 ≤ quickAt f n ∧ quickAt f n < n
  | 0 => by simp [quickAt]
  | n + 1 => by
    have ih := quickAt_range f n
    unfold quickAt
    split <;> omega
theorem quickAt_hit (f : Nat → List Int × Bool) : ∀ n, 0 ≤ quickAt f n → (f (quickAt f n).toNat).2 = true
  | 0, h => by simp [quickAt] at h
  | n + 1, h => by
    have ih := quickAt_hit f n
    unfold quickAt at h ⊢
    split
    · rename_i hq; exact hq.1
    · rename_i hq
      rw [if_neg hq] at h
      exact ih h
theorem quickAt_yes {f : Nat → List Int × Bool} {n : Nat} (h : (f n).2 = true ∧ (quickAt f n < 0 ∨ (f n).1.length < (f (quickAt f n).toNat).1.length)) : quickAt f (n + 1) = (n : Int) := by
  show (if _ then _ else _) = _
  rw [if_pos h]
theorem quickAt_no {f : Nat → List Int × Bool} {n : Nat} (h : ¬ ((f n).2 = true ∧ (quickAt f n < 0 ∨ (f n).1.length < (f (quickAt f n).toNat).1.length))) : quickAt f (n + 1) = quickAt f n := by
  show (if _ then _ else _) = _
  rw [if_neg h]
/-- The length of the shortest word so far. -/
def quickLen (f : Nat → List Int × Bool) (n : Nat) : Int := if quickAt f n < 0 then -1 else ((f (quickAt f n).toNat).1.length : Int)
def quickNo (f : Nat → List Int × Bool) (n : Nat) : Int := if quickAt f n < 0 then 0 else quickAt f n
def quickWord (f : Nat → List Int × Bool) (n : Nat) : List Int := if quickAt f n < 0 then [] else (f (quickAt f n).toNat).1
def QuickestColouring (r : Aut) : Int × List Int × Int :=
  if roadsOk r = true then (if 50000 < colCount r then (0, [], 3) else (if quickAt (colW r) (colCount r) < 0 then (0, [], 6) else (quickAt (colW r) (colCount r), quickWord (colW r) (colCount r), 0))) else (0, [], 1)
end

end Go.Proofs.YthbebnfhplacnaaDoor
