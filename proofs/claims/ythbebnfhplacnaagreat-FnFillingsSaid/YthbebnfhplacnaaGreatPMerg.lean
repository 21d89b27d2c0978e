/- Parts of the proof that lean on no program: PlainMerges, PlainStab. -/
import Derived.Test.YthbebnfhplacnaaGreatCore
import Derived.Test.YthbebnfhplacnaaGreatPlains
import Derived.Test.YthbebnfhplacnaaGreatMaps
import Derived.Test.YthbebnfhplacnaaGreatArrs
import Derived.Test.YthbebnfhplacnaaGreatPQuos
import Derived.Test.YthbebnfhplacnaaGreatPers
import Derived.WalkKit
import Derived.WalkSpells
import Derived.WalkLawsBesides
import Derived.Deep.QuietTactic
import Derived.Deep.OwnRows
import Derived.BigQuiet
import Derived.KernelRfl
namespace Go.Proofs.YthbebnfhplacnaaGreat
open Go.RowKit

section
/-- The merging word of two states, if there is one. -/
def mw (nx : List (List Int)) (s t : Nat) : List Int × Bool := firstWord smallB (tourOf nx (pairOf s t))
def mwRow (nx : List (List Int)) (s k : Nat) : List (List Int × Bool) := (List.range k).map fun t => mw nx s t
def mwTo (nx : List (List Int)) (n k : Nat) : List (List (List Int × Bool)) := (List.range k).map fun s => mwRow nx s n
/-- The merging words of all pairs. -/
def mwTab (a : Aut) : List (List (List Int × Bool)) := mwTo a.nx a.n.toNat a.n.toNat
/-- A word, or nothing. -/
def WordAt (w : World) (v : Value) (x : List Int × Bool) : Prop := IntsAt w v x.1 ∧ (x.2 = false → v = .slice none 0 0)
theorem mwRow_succ (nx : List (List Int)) (s k : Nat) : mwRow nx s (k + 1) = mwRow nx s k ++ [mw nx s k] := by unfold mwRow; rw [List.range_succ, List.map_append]; rfl
theorem mwTo_succ (nx : List (List Int)) (n k : Nat) : mwTo nx n (k + 1) = mwTo nx n k ++ [mwRow nx k n] := by unfold mwTo; rw [List.range_succ, List.map_append]; rfl
theorem mwRow_len (nx : List (List Int)) (s k : Nat) : (mwRow nx s k).length = k := by simp [mwRow]
theorem mwTo_len (nx : List (List Int)) (n k : Nat) : (mwTo nx n k).length = k := by simp [mwTo]
theorem nth_mwRow (nx : List (List Int)) (s k t : Nat) (h : t < k) : nth (mwRow nx s k) t = mw nx s t := by
  unfold mwRow; rw [nth_map _ _ _ (by simpa using h), nth_eq _ _ (by simpa using h)]; simp
theorem nth_mwTo (nx : List (List Int)) (n k s : Nat) (h : s < k) : nth (mwTo nx n k) s = mwRow nx s n := by
  unfold mwTo; rw [nth_map _ _ _ (by simpa using h), nth_eq _ _ (by simpa using h)]; simp
theorem told_first (T : Tour) : (told (firstWord smallB T)).1 = (firstWord smallB T).1 ∧ ((firstWord smallB T).2 = false ↔ (told (firstWord smallB T)).2 ≠ 0) := by
  unfold told firstWord
  cases T.sets.findIdx? smallB with
  | some i => simp
  | none => simp
theorem told_mw (nx : List (List Int)) (s t : Nat) : (told (mw nx s t)).1 = (mw nx s t).1 ∧ ((mw nx s t).2 = false ↔ (told (mw nx s t)).2 ≠ 0) := told_first _
theorem pair_small_all : ∀ s t : Fin 10, s ≠ t → smallB (2 ^ s.val ||| 2 ^ t.val) = false := by decide +kernel
theorem pair_small {s t : Nat} (hs : s < 10) (ht : t < 10) (hne : s ≠ t) : smallB (pairOf (s : Int) (t : Int)) = false :=
  pair_small_all ⟨s, hs⟩ ⟨t, ht⟩ (fun e => hne (by injection e))
theorem small_one : ∀ f : Fin 1024, smallB f.val = decide ((setOf f.val).length ≤ 1) := by decide +kernel
/-- The length of a merging word, -1 where there is none. -/
def mwLen (x : List Int × Bool) : Int := if x.2 = true then (x.1.length : Int) else -1
def tabRow (nx : List (List Int)) (s k : Nat) : List Int := (List.range k).map fun t => mwLen (mw nx s t)
def tabTo (nx : List (List Int)) (n k : Nat) : List (List Int) := (List.range k).map fun s => tabRow nx s n
/-- The lengths of all merging words. -/
def tabOf (a : Aut) : List (List Int) := tabTo a.nx a.n.toNat a.n.toNat
theorem tabRow_succ (nx : List (List Int)) (s k : Nat) : tabRow nx s (k + 1) = tabRow nx s k ++ [mwLen (mw nx s k)] := by unfold tabRow; rw [List.range_succ, List.map_append]; rfl
theorem tabTo_succ (nx : List (List Int)) (n k : Nat) : tabTo nx n (k + 1) = tabTo nx n k ++ [tabRow nx k n] := by unfold tabTo; rw [List.range_succ, List.map_append]; rfl
theorem tabRow_len (nx : List (List Int)) (s k : Nat) : (tabRow nx s k).length = k := by simp [tabRow]
theorem tabTo_len (nx : List (List Int)) (n k : Nat) : (tabTo nx n k).length = k := by simp [tabTo]
theorem nth_tabRow (nx : List (List Int)) (s k t : Nat) (h : t < k) : nth (tabRow nx s k) t = mwLen (mw nx s t) := by
  unfold tabRow; rw [nth_map _ _ _ (by simpa using h), nth_eq _ _ (by simpa using h)]; simp
theorem nth_tabTo (nx : List (List Int)) (n k s : Nat) (h : s < k) : nth (tabTo nx n k) s = tabRow nx s n := by
  unfold tabTo; rw [nth_map _ _ _ (by simpa using h), nth_eq _ _ (by simpa using h)]; simp
theorem mw_len {a : Aut} (ha : autOk a = true) {s t : Nat} (hs : s < a.n.toNat) (ht : t < a.n.toNat) : (mw a.nx s t).1.length ≤ 1024 := by
  have hn := autOk_n ha
  have hlt : pairOf (s : Int) (t : Int) < 2 ^ a.n.toNat := Nat.or_lt_two_pow (Nat.pow_lt_pow_right (by decide) (by omega)) (Nat.pow_lt_pow_right (by decide) (by omega))
  exact firstWord_len (tourOk ha _ hlt) hn.2 smallB
end
section
/-- Where a word leads a set. -/
def runF (nx : List (List Int)) (f : Nat) (ws : List Int) : Nat := ws.foldl (fun g l => moved (nth nx l.toNat) g) f
theorem runF_snoc (nx : List (List Int)) (f : Nat) (ws : List Int) (l : Int) : runF nx f (ws ++ [l]) = moved (nth nx l.toNat) (runF nx f ws) := by simp [runF]
theorem letters_snoc {a : Aut} {ws : List Int} {l : Int} : letters a (ws ++ [l]) ↔ letters a ws ∧ 0 ≤ l ∧ l < a.nx.length := by
  constructor
  · intro h
    refine ⟨fun i hi => ?_, ?_⟩
    · have := h i (by simp; omega)
      rwa [nth_append_left _ _ _ hi] at this
    · have := h ws.length (by simp)
      rwa [nth_append_here] at this
  · rintro ⟨h1, h2⟩ i hi
    simp at hi
    rcases Nat.lt_or_ge i ws.length with q | q
    · rw [nth_append_left _ _ _ q]; exact h1 i q
    · have e : i = ws.length := by omega
      subst e
      rw [nth_append_here]; exact h2
theorem letters_nil (a : Aut) : letters a [] := fun i hi => by simp at hi
theorem letters_append {a : Aut} {us vs : List Int} (h1 : letters a us) (h2 : letters a vs) : letters a (us ++ vs) := by
  refine snoc_ind (P := fun vs => letters a vs → letters a (us ++ vs)) ?_ ?_ vs h2
  · intro _; simpa using h1
  · intro xs x ih h
    rw [← List.append_assoc]
    rw [letters_snoc] at h ⊢
    exact ⟨ih h.1, h.2⟩
theorem runOf_append (nx : List (List Int)) (s : Int) (us vs : List Int) : runOf nx s (us ++ vs) = runOf nx (runOf nx s us) vs := by simp [runOf]
theorem mem_tour_run {a : Aut} (ha : autOk a = true) (f : Nat) (hf : f < 2 ^ a.n.toNat) (ws : List Int) (hw : letters a ws) : runF a.nx f ws ∈ (tourOf a.nx f).sets := by
  refine snoc_ind (P := fun ws => letters a ws → runF a.nx f ws ∈ (tourOf a.nx f).sets) ?_ ?_ ws hw
  · intro _
    show f ∈ (tourOf a.nx f).sets
    unfold tourOf
    generalize 1024 = K
    obtain ⟨h, e⟩ := tTo_first a.nx f K
    have h2 := nth_mem _ _ h
    rwa [e] at h2
  · intro xs x ih h
    rw [letters_snoc] at h
    rw [runF_snoc]
    exact tour_closed ha f hf _ (ih h.1) x.toNat (by omega)
theorem run_of_mem {a : Aut} (f : Nat) : ∀ k F, F ∈ (tTo a.nx f k).sets → ∃ ws, letters a ws ∧ runF a.nx f ws = F := by
  have hstep : ∀ (i l : Nat) (t : Tour), i < t.sets.length → l < a.nx.length → (∀ F, F ∈ t.sets → ∃ ws, letters a ws ∧ runF a.nx f ws = F) → ∀ F, F ∈ (tStep a.nx i l t).sets → ∃ ws, letters a ws ∧ runF a.nx f ws = F := by
    intro i l t hi hl h F hF
    cases hc : t.sets.contains (moved (nth a.nx l) (nth t.sets i)) with
    | true => rw [tStep_has _ _ _ _ hc] at hF; exact h F hF
    | false =>
      rw [tStep_new _ _ _ _ hc] at hF
      simp only [List.mem_append, List.mem_singleton] at hF
      rcases hF with hF | hF
      · exact h F hF
      · obtain ⟨ws, h1, h2⟩ := h _ (nth_mem t.sets i hi)
        refine ⟨ws ++ [(l : Int)], letters_snoc.2 ⟨h1, by omega, by omega⟩, ?_⟩
        rw [runF_snoc, h2, hF, Int.toNat_natCast]
  have hrow : ∀ (i : Nat) (t : Tour), i < t.sets.length → (∀ F, F ∈ t.sets → ∃ ws, letters a ws ∧ runF a.nx f ws = F) → ∀ k, k ≤ a.nx.length → ∀ F, F ∈ (tRow a.nx i t k).sets → ∃ ws, letters a ws ∧ runF a.nx f ws = F := by
    intro i t hi h k
    induction k with
    | zero => intro _ F hF; exact h F hF
    | succ k ih =>
      intro hk F hF
      rw [tRow_succ] at hF
      exact hstep i k _ (Nat.lt_of_lt_of_le hi (tRow_sets a.nx i t k).1) (by omega) (ih (by omega)) F hF
  intro k
  induction k with
  | zero =>
    intro F hF
    rw [tTo_zero] at hF
    have : F = f := by simpa [tStart] using hF
    subst this
    exact ⟨[], letters_nil a, rfl⟩
  | succ k ih =>
    intro F hF
    rw [tTo_succ] at hF
    split at hF
    · rename_i hk
      exact hrow k _ hk ih _ (Nat.le_refl _) F hF
    · exact ih F hF
theorem testBit_moved (row : List Int) (f i : Nat) : (moved row f).testBit i = true ↔ ∃ s, s < 10 ∧ f.testBit s = true ∧ (nth row s).toNat = i := by
  unfold moved
  rw [moveB_list, testBit_orB]
  constructor
  · rintro ⟨x, hx, rfl⟩
    rw [List.mem_map] at hx
    obtain ⟨s, hs, rfl⟩ := hx
    rw [mem_bitsTo] at hs
    exact ⟨s.toNat, by omega, hs.2.2, rfl⟩
  · rintro ⟨s, h1, h2, rfl⟩
    exact ⟨nth row s, List.mem_map.2 ⟨(s : Int), (mem_bitsTo f 10 _).2 ⟨by omega, by omega, by simpa using h2⟩, by simp⟩, rfl⟩
theorem testBit_pair (s t i : Nat) : (2 ^ s ||| 2 ^ t).testBit i = true ↔ i = s ∨ i = t := by
  rw [Nat.testBit_or, Bool.or_eq_true, Nat.testBit_two_pow, Nat.testBit_two_pow]
  simp only [decide_eq_true_eq]
  constructor <;> rintro (h | h) <;> first | exact Or.inl h.symm | exact Or.inr h.symm
theorem moved_pair (row : List Int) (s t : Nat) (hs : s < 10) (ht : t < 10) : moved row (2 ^ s ||| 2 ^ t) = 2 ^ (nth row s).toNat ||| 2 ^ (nth row t).toNat := by
  apply Nat.eq_of_testBit_eq
  intro i
  rw [Bool.eq_iff_iff, testBit_moved, testBit_pair]
  constructor
  · rintro ⟨x, _, h2, rfl⟩
    rw [testBit_pair] at h2
    rcases h2 with h | h
    · subst h; exact Or.inl rfl
    · subst h; exact Or.inr rfl
  · rintro (h | h)
    · exact ⟨s, hs, (testBit_pair s t s).2 (Or.inl rfl), h.symm⟩
    · exact ⟨t, ht, (testBit_pair s t t).2 (Or.inr rfl), h.symm⟩
/-- Where a word leads a state, as a number. -/
theorem runOf_lt {a : Aut} (ha : autOk a = true) (s : Int) (hs : 0 ≤ s ∧ s < a.n) (ws : List Int) (hw : letters a ws) : 0 ≤ runOf a.nx s ws ∧ runOf a.nx s ws < a.n := by
  have := runOf_in ha ws hw s hs ws.length (Nat.le_refl _)
  rwa [List.take_length] at this
theorem runF_pair {a : Aut} (ha : autOk a = true) (s t : Int) (hs : 0 ≤ s ∧ s < a.n) (ht : 0 ≤ t ∧ t < a.n) (ws : List Int) (hw : letters a ws) : runF a.nx (pairOf s t) ws = pairOf (runOf a.nx s ws) (runOf a.nx t ws) := by
  have hn := autOk_n ha
  refine snoc_ind (P := fun ws => letters a ws → runF a.nx (pairOf s t) ws = pairOf (runOf a.nx s ws) (runOf a.nx t ws)) ?_ ?_ ws hw
  · intro _; rfl
  · intro xs x ih h
    rw [letters_snoc] at h
    have h1 := runOf_lt ha s hs xs h.1
    have h2 := runOf_lt ha t ht xs h.1
    rw [runF_snoc, ih h.1, runOf_snoc, runOf_snoc]
    unfold pairOf
    rw [moved_pair _ _ _ (by omega) (by omega)]
    rfl
theorem setOf_pair : ∀ x y : Fin 10, setOf (2 ^ x.val ||| 2 ^ y.val) = if x < y then [(x.val : Int), (y.val : Int)] else if y < x then [(y.val : Int), (x.val : Int)] else [(x.val : Int)] := by decide +kernel
theorem small_pair : ∀ x y : Fin 10, smallB (2 ^ x.val ||| 2 ^ y.val) = decide (x = y) := by decide +kernel
theorem small_pairOf {x y : Int} (hx : 0 ≤ x ∧ x < 10) (hy : 0 ≤ y ∧ y < 10) : smallB (pairOf x y) = true ↔ x = y := by
  have := small_pair ⟨x.toNat, by omega⟩ ⟨y.toNat, by omega⟩
  unfold pairOf
  rw [this, decide_eq_true_eq, Fin.mk.injEq]
  omega
theorem pair_lt3 {a : Aut} (s t : Int) (hs : 0 ≤ s ∧ s < a.n) (ht : 0 ≤ t ∧ t < a.n) : pairOf s t < 2 ^ a.n.toNat :=
  Nat.or_lt_two_pow (Nat.pow_lt_pow_right (by decide) (by omega)) (Nat.pow_lt_pow_right (by decide) (by omega))
theorem firstWord_iff (p : Nat → Bool) (T : Tour) : (firstWord p T).2 = true ↔ ∃ F, F ∈ T.sets ∧ p F = true := by
  unfold firstWord
  cases h : T.sets.findIdx? p with
  | some i =>
    simp only [true_iff]
    rw [List.findIdx?_eq_some_iff_getElem] at h
    obtain ⟨hi, h1, _⟩ := h
    exact ⟨_, List.getElem_mem hi, h1⟩
  | none =>
    simp only [Bool.false_eq_true, false_iff]
    rw [List.findIdx?_eq_none_iff] at h
    rintro ⟨F, h1, h2⟩
    rw [h F h1] at h2; cases h2
/-- Two states can be merged. -/
def Meets (a : Aut) (s t : Int) : Prop := ∃ ws, letters a ws ∧ runOf a.nx s ws = runOf a.nx t ws
theorem mw_iff {a : Aut} (ha : autOk a = true) (s t : Nat) (hs : (s : Int) < a.n) (ht : (t : Int) < a.n) : (mw a.nx s t).2 = true ↔ Meets a s t := by
  have hn := autOk_n ha
  have hlt := pair_lt3 (a := a) (s : Int) (t : Int) ⟨by omega, hs⟩ ⟨by omega, ht⟩
  unfold mw
  rw [firstWord_iff]
  constructor
  · rintro ⟨F, h1, h2⟩
    obtain ⟨ws, h3, h4⟩ := run_of_mem (a := a) _ 1024 F h1
    refine ⟨ws, h3, ?_⟩
    rw [runF_pair ha _ _ ⟨by omega, hs⟩ ⟨by omega, ht⟩ ws h3] at h4
    have q1 := runOf_lt ha (s : Int) ⟨by omega, hs⟩ ws h3
    have q2 := runOf_lt ha (t : Int) ⟨by omega, ht⟩ ws h3
    rw [← h4] at h2
    exact (small_pairOf ⟨q1.1, by omega⟩ ⟨q2.1, by omega⟩).1 h2
  · rintro ⟨ws, h1, h2⟩
    refine ⟨_, mem_tour_run ha _ hlt ws h1, ?_⟩
    rw [runF_pair ha _ _ ⟨by omega, hs⟩ ⟨by omega, ht⟩ ws h1]
    have q1 := runOf_lt ha (s : Int) ⟨by omega, hs⟩ ws h1
    have q2 := runOf_lt ha (t : Int) ⟨by omega, ht⟩ ws h1
    exact (small_pairOf ⟨q1.1, by omega⟩ ⟨q2.1, by omega⟩).2 h2
/-- A set of two states that cannot be merged. -/
def badF (nx : List (List Int)) (f : Nat) : Bool := decide ((setOf f).length = 2) && !(mw nx (nth (setOf f) 0).toNat (nth (setOf f) 1).toNat).2
/-- A pair is stable. -/
def steadyB (nx : List (List Int)) (s t : Nat) : Bool := (tourOf nx (pairOf s t)).sets.all fun f => !badF nx f
theorem mw_comm (nx : List (List Int)) (s t : Nat) : mw nx s t = mw nx t s := by unfold mw pairOf; rw [Nat.or_comm]
theorem bad_pair {a : Aut} (ha : autOk a = true) (x y : Int) (hx : 0 ≤ x ∧ x < a.n) (hy : 0 ≤ y ∧ y < a.n) : badF a.nx (pairOf x y) = true ↔ x ≠ y ∧ ¬ Meets a x y := by
  have hn := autOk_n ha
  have e := setOf_pair ⟨x.toNat, by omega⟩ ⟨y.toNat, by omega⟩
  have ex : ((x.toNat : Nat) : Int) = x := by omega
  have ey : ((y.toNat : Nat) : Int) = y := by omega
  simp only [Fin.mk_lt_mk, ex, ey] at e
  have em := mw_iff ha x.toNat y.toNat (by omega) (by omega)
  have em2 := mw_iff ha y.toNat x.toNat (by omega) (by omega)
  rw [ex, ey] at em em2
  unfold badF
  rw [show pairOf x y = 2 ^ x.toNat ||| 2 ^ y.toNat from rfl, e]
  rcases Int.lt_trichotomy x y with h | h | h
  · rw [if_pos (by omega)]
    simp only [List.length_cons, List.length_nil, Bool.and_eq_true, decide_eq_true_eq, Bool.not_eq_true']
    show _ ∧ (mw a.nx x.toNat y.toNat).2 = false ↔ _
    rw [← em]
    simp
    omega
  · subst h
    rw [if_neg (by omega), if_neg (by omega)]
    simp
  · rw [if_neg (by omega), if_pos (by omega)]
    simp only [List.length_cons, List.length_nil, Bool.and_eq_true, decide_eq_true_eq, Bool.not_eq_true']
    show _ ∧ (mw a.nx y.toNat x.toNat).2 = false ↔ _
    rw [mw_comm, ← em]
    simp
    omega
/-- Whatever word has led two states on, they can still be merged. -/
def StabE (a : Aut) (s t : Int) : Prop := ∀ ws, letters a ws → Meets a (runOf a.nx s ws) (runOf a.nx t ws)
theorem steady_iff {a : Aut} (ha : autOk a = true) (s t : Nat) (hs : (s : Int) < a.n) (ht : (t : Int) < a.n) : steadyB a.nx s t = true ↔ StabE a s t := by
  have hlt := pair_lt3 (a := a) (s : Int) (t : Int) ⟨by omega, hs⟩ ⟨by omega, ht⟩
  unfold steadyB
  rw [List.all_eq_true]
  constructor
  · intro h ws hw
    have h1 := h _ (mem_tour_run ha _ hlt ws hw)
    rw [runF_pair ha _ _ ⟨by omega, hs⟩ ⟨by omega, ht⟩ ws hw] at h1
    have q1 := runOf_lt ha (s : Int) ⟨by omega, hs⟩ ws hw
    have q2 := runOf_lt ha (t : Int) ⟨by omega, ht⟩ ws hw
    by_cases e : runOf a.nx s ws = runOf a.nx t ws
    · rw [e]; exact ⟨[], letters_nil a, rfl⟩
    · rcases Classical.em (Meets a (runOf a.nx s ws) (runOf a.nx t ws)) with q | q
      · exact q
      · rw [(bad_pair ha _ _ q1 q2).2 ⟨e, q⟩] at h1; cases h1
  · intro h F hF
    obtain ⟨ws, h3, h4⟩ := run_of_mem (a := a) _ 1024 F hF
    rw [runF_pair ha _ _ ⟨by omega, hs⟩ ⟨by omega, ht⟩ ws h3] at h4
    have q1 := runOf_lt ha (s : Int) ⟨by omega, hs⟩ ws h3
    have q2 := runOf_lt ha (t : Int) ⟨by omega, ht⟩ ws h3
    rw [← h4]
    cases hb : badF a.nx (pairOf (runOf a.nx s ws) (runOf a.nx t ws)) with
    | false => rfl
    | true => exact absurd (h ws h3) ((bad_pair ha _ _ q1 q2).1 hb).2
theorem StabE.refl (a : Aut) (s : Int) : StabE a s s := fun _ _ => ⟨[], letters_nil a, rfl⟩
theorem StabE.symm {a : Aut} {s t : Int} (h : StabE a s t) : StabE a t s := fun ws hw => let ⟨vs, h1, h2⟩ := h ws hw; ⟨vs, h1, h2.symm⟩
theorem StabE.trans {a : Aut} {s t u : Int} (h : StabE a s t) (k : StabE a t u) : StabE a s u := fun ws hw => by
  obtain ⟨v1, h1, h2⟩ := h ws hw
  obtain ⟨v2, h3, h4⟩ := k (ws ++ v1) (letters_append hw h1)
  rw [runOf_append, runOf_append] at h4
  exact ⟨v1 ++ v2, letters_append h1 h3, by rw [runOf_append, runOf_append, h2]; exact h4⟩
/-- Each word of the tour leads to its set. -/
def WRun (a : Aut) (f : Nat) (t : Tour) : Prop := t.words.length = t.sets.length ∧ ∀ i, i < t.sets.length → letters a (nth t.words i) ∧ runF a.nx f (nth t.words i) = nth t.sets i
theorem WRun.step {a : Aut} {f i l : Nat} {t : Tour} (h : WRun a f t) (hi : i < t.sets.length) (hl : l < a.nx.length) : WRun a f (tStep a.nx i l t) := by
  obtain ⟨hlen, h⟩ := h
  cases hc : t.sets.contains (moved (nth a.nx l) (nth t.sets i)) with
  | true => rw [tStep_has _ _ _ _ hc]; exact ⟨hlen, h⟩
  | false =>
    rw [tStep_new _ _ _ _ hc]
    refine ⟨by simp [hlen], fun j hj => ?_⟩
    simp only [List.length_append, List.length_singleton] at hj
    rcases Nat.lt_or_ge j t.sets.length with q | q
    · show letters a (nth (t.words ++ _) j) ∧ runF a.nx f (nth (t.words ++ _) j) = nth (t.sets ++ _) j
      rw [nth_append_left _ _ _ (by omega), nth_append_left _ _ _ q]
      exact h j q
    · have e : j = t.sets.length := by omega
      subst e
      have e2 := nth_append_here t.words (nth t.words i ++ [(l : Int)])
      rw [hlen] at e2
      show letters a (nth (t.words ++ _) t.sets.length) ∧ runF a.nx f (nth (t.words ++ _) t.sets.length) = nth (t.sets ++ _) t.sets.length
      rw [e2, nth_append_here, runF_snoc, (h i hi).2, Int.toNat_natCast]
      exact ⟨letters_snoc.2 ⟨(h i hi).1, by omega, by omega⟩, rfl⟩
theorem WRun.to {a : Aut} (f : Nat) : ∀ k, WRun a f (tTo a.nx f k)
  | 0 => by
    rw [tTo_zero]
    refine ⟨rfl, fun i hi => ?_⟩
    have e : i = 0 := by simp [tStart] at hi; exact hi
    subst e
    exact ⟨letters_nil a, rfl⟩
  | k + 1 => by
    rw [tTo_succ]
    split
    · rename_i hk
      have ih := WRun.to (a := a) f k
      have : ∀ m, m ≤ a.nx.length → WRun a f (tRow a.nx k (tTo a.nx f k) m) := by
        intro m
        induction m with
        | zero => intro _; exact ih
        | succ m im =>
          intro hm
          rw [tRow_succ]
          exact (im (by omega)).step (Nat.lt_of_lt_of_le hk (tRow_sets a.nx k _ m).1) (by omega)
      exact this _ (Nat.le_refl _)
    · exact WRun.to f k
theorem WRun.tour (a : Aut) (f : Nat) : WRun a f (tourOf a.nx f) := by unfold tourOf; exact WRun.to f _
theorem first_runs {a : Aut} {f : Nat} {T : Tour} (hw : WRun a f T) (h : (firstWord smallB T).2 = true) : letters a (firstWord smallB T).1 ∧ smallB (runF a.nx f (firstWord smallB T).1) = true := by
  unfold firstWord at h ⊢
  cases hi : T.sets.findIdx? smallB with
  | none => rw [hi] at h; cases h
  | some i =>
    rw [List.findIdx?_eq_some_iff_getElem] at hi
    obtain ⟨hlt, h1, _⟩ := hi
    obtain ⟨q1, q2⟩ := hw.2 i hlt
    refine ⟨q1, ?_⟩
    show smallB (runF a.nx f (nth T.words i)) = true
    rw [q2, nth_eq _ _ hlt]; exact h1
theorem mw_runs {a : Aut} {s t : Nat} (h : (mw a.nx s t).2 = true) : letters a (mw a.nx s t).1 ∧ smallB (runF a.nx (pairOf s t) (mw a.nx s t).1) = true :=
  first_runs (WRun.tour a _) h
/-- The merging word merges. -/
theorem mw_merges {a : Aut} (ha : autOk a = true) (s t : Nat) (hs : (s : Int) < a.n) (ht : (t : Int) < a.n) (h : (mw a.nx s t).2 = true) : letters a (mw a.nx s t).1 ∧ runOf a.nx s (mw a.nx s t).1 = runOf a.nx t (mw a.nx s t).1 := by
  have hn := autOk_n ha
  obtain ⟨h1, h2⟩ := mw_runs h
  refine ⟨h1, ?_⟩
  rw [runF_pair ha _ _ ⟨by omega, hs⟩ ⟨by omega, ht⟩ _ h1] at h2
  have q1 := runOf_lt ha (s : Int) ⟨by omega, hs⟩ _ h1
  have q2 := runOf_lt ha (t : Int) ⟨by omega, ht⟩ _ h1
  exact (small_pairOf ⟨q1.1, by omega⟩ ⟨q2.1, by omega⟩).1 h2
/-- The merging word of two states that differ is not empty. -/
theorem mw_pos {a : Aut} (ha : autOk a = true) {s t : Nat} (hs : (s : Int) < a.n) (ht : (t : Int) < a.n) (hne : s ≠ t) (h : (mw a.nx s t).2 = true) : 1 ≤ (mw a.nx s t).1.length := by
  obtain ⟨_, h2⟩ := mw_merges ha s t hs ht h
  rcases Nat.eq_zero_or_pos (mw a.nx s t).1.length with e | e
  · rw [List.length_eq_zero_iff] at e
    rw [e] at h2
    have : (s : Int) = t := h2
    omega
  · exact e
/-- The stable pairs, in order. -/
def stRow (nx : List (List Int)) (s k : Nat) : List (List Int) := ((List.range k).filter fun t => decide (s < t) && steadyB nx s t).map fun (t : Nat) => [(s : Int), (t : Int)]
def stTo (nx : List (List Int)) (n k : Nat) : List (List Int) := (List.range k).flatMap fun s => stRow nx s n
def stOf (a : Aut) : List (List Int) := stTo a.nx a.n.toNat a.n.toNat
theorem stRow_start (nx : List (List Int)) (s : Nat) : stRow nx s (s + 1) = [] := by
  unfold stRow
  rw [List.map_eq_nil_iff, List.filter_eq_nil_iff]
  intro x hx
  rw [List.mem_range] at hx
  simp; omega
theorem stRow_yes {nx : List (List Int)} {s k : Nat} (h : s < k) (hb : steadyB nx s k = true) : stRow nx s (k + 1) = stRow nx s k ++ [[(s : Int), (k : Int)]] := by
  unfold stRow; rw [List.range_succ, List.filter_append]; simp [h, hb]
theorem stRow_no {nx : List (List Int)} {s k : Nat} (hb : steadyB nx s k = false) : stRow nx s (k + 1) = stRow nx s k := by
  unfold stRow; rw [List.range_succ, List.filter_append]; simp [hb]
theorem stTo_succ (nx : List (List Int)) (n k : Nat) : stTo nx n (k + 1) = stTo nx n k ++ stRow nx k n := by
  unfold stTo; rw [List.range_succ, List.flatMap_append]; simp
theorem stRow_len (nx : List (List Int)) (s k : Nat) : (stRow nx s k).length ≤ k := by
  unfold stRow
  rw [List.length_map]
  have := List.length_filter_le (fun t => decide (s < t) && steadyB nx s t) (List.range k)
  simpa using this
theorem stTo_len (nx : List (List Int)) (n : Nat) : ∀ k, (stTo nx n k).length ≤ k * n
  | 0 => by simp [stTo]
  | k + 1 => by
    rw [stTo_succ, List.length_append]
    have h1 := stTo_len nx n k
    have h2 := stRow_len nx k n
    have h3 : (k + 1) * n = k * n + n := Nat.succ_mul k n
    omega
theorem mem_stTo {nx : List (List Int)} {n k : Nat} {p : List Int} : p ∈ stTo nx n k ↔ ∃ s t : Nat, s < k ∧ s < t ∧ t < n ∧ steadyB nx s t = true ∧ p = [(s : Int), (t : Int)] := by
  unfold stTo stRow
  simp only [List.mem_flatMap, List.mem_range, List.mem_map, List.mem_filter, Bool.and_eq_true, decide_eq_true_eq]
  constructor
  · rintro ⟨s, h1, t, ⟨h2, h3, h4⟩, rfl⟩; exact ⟨s, t, h1, h3, h2, h4, rfl⟩
  · rintro ⟨s, t, h1, h2, h3, h4, rfl⟩; exact ⟨s, h1, t, ⟨h3, h2, h4⟩, rfl⟩
/-- One more stable pair: the program's classes and the reference's marks. -/
def minStep (m p : List Int) : List Int := m.set (nth p 1).toNat (min (nth m (nth p 1).toNat) (nth m (nth p 0).toNat))
def mrgStep (m p : List Int) : List Int := mergeC m (nth m (nth p 1).toNat) (nth m (nth p 0).toNat)
def minTo (n : Nat) (L : List (List Int)) (k : Nat) : List Int := (L.take k).foldl minStep (iota 0 n)
def mrgTo (n : Nat) (L : List (List Int)) (k : Nat) : List Int := (L.take k).foldl mrgStep (iota 0 n)
theorem minTo_succ (n : Nat) (L : List (List Int)) (k : Nat) (h : k < L.length) : minTo n L (k + 1) = minStep (minTo n L k) (nth L k) := by
  unfold minTo; rw [take_succ_nth L k h, List.foldl_append]; rfl
theorem mrgTo_succ (n : Nat) (L : List (List Int)) (k : Nat) (h : k < L.length) : mrgTo n L (k + 1) = mrgStep (mrgTo n L k) (nth L k) := by
  unfold mrgTo; rw [take_succ_nth L k h, List.foldl_append]; rfl
theorem minTo_len (n : Nat) (L : List (List Int)) : ∀ k, k ≤ L.length → (minTo n L k).length = n
  | 0, _ => by simp [minTo, iota]
  | k + 1, h => by rw [minTo_succ n L k (by omega)]; unfold minStep; rw [List.length_set]; exact minTo_len n L k (by omega)
theorem mrgTo_len (n : Nat) (L : List (List Int)) : ∀ k, k ≤ L.length → (mrgTo n L k).length = n
  | 0, _ => by simp [mrgTo, iota]
  | k + 1, h => by rw [mrgTo_succ n L k (by omega)]; unfold mrgStep; rw [mergeC_len]; exact mrgTo_len n L k (by omega)
theorem exists_min (P : Nat → Prop) : ∀ x, P x → ∃ m, m ≤ x ∧ P m ∧ ∀ y, y < m → ¬ P y := by
  intro x
  induction x using Nat.strongRecOn with
  | _ x ih =>
    intro h
    rcases Classical.em (∃ y, y < x ∧ P y) with ⟨y, h1, h2⟩ | q
    · obtain ⟨m, q1, q2, q3⟩ := ih y h1 h2
      exact ⟨m, by omega, q2, q3⟩
    · exact ⟨x, Nat.le_refl _, h, fun y hy hp => q ⟨y, hy, hp⟩⟩
section
variable {a : Aut}
def stE (a : Aut) (x y : Nat) : Prop := StabE a (x : Int) (y : Int)
theorem stE_equ (a : Aut) : Equ (stE a) := ⟨fun _ => StabE.refl _ _, fun _ _ h => StabE.symm h, fun _ _ _ h k => StabE.trans h k⟩
theorem nth_stOf (ha : autOk a = true) (k : Nat) (hk : k < (stOf a).length) : ∃ s t : Nat, s < t ∧ t < a.n.toNat ∧ stE a s t ∧ nth (stOf a) k = [(s : Int), (t : Int)] := by
  obtain ⟨s, t, _, h2, h3, h4, e⟩ := mem_stTo.1 (nth_mem (stOf a) k hk)
  exact ⟨s, t, h2, h3, (steady_iff ha s t (by omega) (by omega)).1 h4, e⟩
theorem stOf_has (ha : autOk a = true) (s t : Nat) (h : s < t) (ht : t < a.n.toNat) (he : stE a s t) : ∃ k, k < (stOf a).length ∧ nth (stOf a) k = [(s : Int), (t : Int)] :=
  mem_nth _ _ (mem_stTo.2 ⟨s, t, by omega, h, ht, (steady_iff ha s t (by omega) (by omega)).2 he, rfl⟩)
theorem mrg_inv (ha : autOk a = true) : ∀ k, k ≤ (stOf a).length → (∀ x y, x < a.n.toNat → y < a.n.toNat → ker (mrgTo a.n.toNat (stOf a) k) x y → stE a x y) ∧ ∀ j, j < k → ∀ s t : Nat, nth (stOf a) j = [(s : Int), (t : Int)] → s < a.n.toNat → t < a.n.toNat → ker (mrgTo a.n.toNat (stOf a) k) s t
  | 0, _ => by
    refine ⟨fun x y hx hy h => ?_, fun j hj => by omega⟩
    have : x = y := ker_iota a.n.toNat x y hx hy (by simpa [mrgTo] using h)
    subst this; exact (stE_equ a).refl _
  | k + 1, hk => by
    obtain ⟨i1, i2⟩ := mrg_inv ha k (by omega)
    obtain ⟨s, t, h1, h2, h3, e⟩ := nth_stOf ha k (by omega)
    have hl := mrgTo_len a.n.toNat (stOf a) k (by omega)
    rw [mrgTo_succ _ _ _ (by omega)]
    have es : mrgStep (mrgTo a.n.toNat (stOf a) k) (nth (stOf a) k) = mergeC (mrgTo a.n.toNat (stOf a) k) (nth (mrgTo a.n.toNat (stOf a) k) t) (nth (mrgTo a.n.toNat (stOf a) k) s) := by
      unfold mrgStep; rw [e]; rfl
    rw [es]
    refine ⟨fun x y hx hy h => ?_, fun j hj s' t' he hs' ht' => ?_⟩
    · exact mergeC_least _ t s (by omega) (by omega) (stE a) (stE_equ a) (fun x y hx hy h => i1 x y (by omega) (by omega) h) ((stE_equ a).symm _ _ h3) x y (by omega) (by omega) h
    · rcases Nat.lt_succ_iff_lt_or_eq.1 hj with q | q
      · exact mergeC_mono _ _ _ _ _ (by omega) (by omega) (i2 j q s' t' he hs' ht')
      · subst q
        rw [e] at he
        injection he with q1 q2
        injection q2 with q2
        have : s' = s := by omega
        have : t' = t := by omega
        subst_vars
        exact ker_equ _ |>.symm _ _ (mergeC_st _ t' s' (by omega) (by omega))
theorem min_inv (ha : autOk a = true) : ∀ k, k ≤ (stOf a).length → (∀ x, x < a.n.toNat → ∃ r : Nat, nth (minTo a.n.toNat (stOf a) k) x = (r : Int) ∧ r ≤ x ∧ stE a r x) ∧ ∀ j, j < k → ∀ s t : Nat, nth (stOf a) j = [(s : Int), (t : Int)] → s < a.n.toNat → t < a.n.toNat → (∀ y, y < s → ¬ stE a y s) → nth (minTo a.n.toNat (stOf a) k) t ≤ s
  | 0, _ => by
    refine ⟨fun x hx => ⟨x, ?_, Nat.le_refl _, (stE_equ a).refl _⟩, fun j hj => by omega⟩
    show nth (iota 0 a.n.toNat) x = _
    rw [nth_iota _ _ _ hx]; omega
  | k + 1, hk => by
    obtain ⟨i1, i2⟩ := min_inv ha k (by omega)
    obtain ⟨s, t, h1, h2, h3, e⟩ := nth_stOf ha k (by omega)
    have hl := minTo_len a.n.toNat (stOf a) k (by omega)
    rw [minTo_succ _ _ _ (by omega)]
    obtain ⟨M, hM⟩ : ∃ M, M = minTo a.n.toNat (stOf a) k := ⟨_, rfl⟩
    rw [← hM] at i1 i2 hl ⊢
    have es : minStep M (nth (stOf a) k) = M.set t (min (nth M t) (nth M s)) := by
      unfold minStep; rw [e]; rfl
    rw [es]
    have hn : ∀ x, nth (M.set t (min (nth M t) (nth M s))) x = if x = t then min (nth M t) (nth M s) else nth M x := fun x => nth_set _ _ _ _ (by omega)
    obtain ⟨rs, s1, s2, s3⟩ := i1 s (by omega)
    obtain ⟨rt, t1, t2, t3⟩ := i1 t h2
    refine ⟨fun x hx => ?_, fun j hj s' t' he hs' ht' hm => ?_⟩
    · rw [hn]
      by_cases q : x = t
      · subst q
        rw [if_pos rfl, t1, s1]
        rcases Nat.le_total rt rs with z | z
        · exact ⟨rt, by omega, t2, t3⟩
        · exact ⟨rs, by omega, by omega, (stE_equ a).trans _ _ _ s3 h3⟩
      · rw [if_neg q]; exact i1 x hx
    · rw [hn]
      rcases Nat.lt_succ_iff_lt_or_eq.1 hj with q | q
      · have := i2 j q s' t' he hs' ht' hm
        by_cases q2 : t' = t
        · subst q2; rw [if_pos rfl]; omega
        · rw [if_neg q2]; exact this
      · subst q
        rw [e] at he
        injection he with q1 q2
        injection q2 with q2
        have e1 : s = s' := by omega
        have e2 : t = t' := by omega
        subst e1 e2
        rw [if_pos rfl, s1]
        have : rs = s := by
          rcases Nat.lt_or_ge rs s with z | z
          · exact absurd s3 (hm rs z)
          · omega
        omega
theorem stab_same (ha : autOk a = true) : tidyOf (minTo a.n.toNat (stOf a) (stOf a).length) = tidyOf (mrgTo a.n.toNat (stOf a) (stOf a).length) := by
  have l1 := minTo_len a.n.toNat (stOf a) _ (Nat.le_refl _)
  have l2 := mrgTo_len a.n.toNat (stOf a) _ (Nat.le_refl _)
  obtain ⟨i1, i2⟩ := min_inv ha _ (Nat.le_refl _)
  obtain ⟨j1, j2⟩ := mrg_inv ha _ (Nat.le_refl _)
  refine tidyOf_ker _ _ (by omega) (fun x y hx hy => ?_)
  rw [l1] at hx hy
  have key : ∀ x y, x < a.n.toNat → y < a.n.toNat → stE a x y → nth (minTo a.n.toNat (stOf a) (stOf a).length) x = nth (minTo a.n.toNat (stOf a) (stOf a).length) y := by
    intro x y hx hy he
    obtain ⟨m, m1, m2, m3⟩ := exists_min (fun z => stE a z x) x ((stE_equ a).refl _)
    have hmin : ∀ z, z < m → ¬ stE a z m := fun z hz hq => m3 z hz ((stE_equ a).trans _ _ _ hq m2)
    have fin : ∀ z, z < a.n.toNat → stE a m z → nth (minTo a.n.toNat (stOf a) (stOf a).length) z = (m : Int) := by
      intro z hz hq
      obtain ⟨r, r1, r2, r3⟩ := i1 z hz
      have hrm : m ≤ r := by
        rcases Nat.lt_or_ge r m with c | c
        · exact absurd ((stE_equ a).trans _ _ _ r3 ((stE_equ a).symm _ _ hq)) (hmin r c)
        · exact c
      rcases Nat.lt_or_ge m z with c | c
      · obtain ⟨k, k1, k2⟩ := stOf_has ha m z c hz hq
        have := i2 k k1 m z k2 (by omega) hz hmin
        omega
      · omega
    rw [fin x hx m2, fin y hy ((stE_equ a).trans _ _ _ m2 he)]
  constructor
  · intro h
    have he : stE a x y := by
      obtain ⟨r, r1, _, r3⟩ := i1 x hx
      obtain ⟨q, q1, _, q3⟩ := i1 y hy
      have : r = q := by omega
      subst this
      exact (stE_equ a).trans _ _ _ ((stE_equ a).symm _ _ r3) q3
    rcases Nat.lt_trichotomy x y with c | c | c
    · obtain ⟨k, k1, k2⟩ := stOf_has ha x y c hy he
      exact j2 k k1 x y k2 hx hy
    · subst c; rfl
    · obtain ⟨k, k1, k2⟩ := stOf_has ha y x c hx ((stE_equ a).symm _ _ he)
      exact (j2 k k1 y x k2 hy hx).symm
  · intro h
    exact key x y hx hy (j1 x y hx hy h)
end
/-- The division of the stable pairs. -/
def StableDivision (a : Aut) : List Int × Int := if autOk a = true then (tidyOf (mrgTo a.n.toNat (stOf a) (stOf a).length), 0) else ([], 1)
end

end Go.Proofs.YthbebnfhplacnaaGreat
