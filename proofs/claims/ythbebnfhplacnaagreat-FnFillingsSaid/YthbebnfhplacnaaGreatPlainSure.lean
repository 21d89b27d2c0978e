/- The word that resets the most fillings. -/
import Derived.Test.YthbebnfhplacnaaGreatCore
import Derived.Test.YthbebnfhplacnaaGreatPlains
import Derived.Test.YthbebnfhplacnaaGreatDrawT
import Derived.Test.YthbebnfhplacnaaGreatPlainReset
import Derived.Test.YthbebnfhplacnaaGreatPlainFill
import Derived.Test.YthbebnfhplacnaaGreatPQuos
import Derived.Test.YthbebnfhplacnaaGreatPers
import Derived.Test.YthbebnfhplacnaaGreatPOrds
import Derived.Test.YthbebnfhplacnaaGreatPMerg
import Derived.WalkKit
import Derived.WalkSpells
import Derived.WalkLawsBesides
import Derived.Deep.QuietTactic
import Derived.Deep.OwnRows
import Derived.BigQuiet
import Derived.KernelRfl
namespace Go.Proofs.YthbebnfhplacnaaGreat
open Go.RowKit

def shortC (x y : List Int) : Int := if cmpI (x.length : Int) y.length = 0 then lexC x y else cmpI (x.length : Int) y.length
def shortLt (x y : List Int) : Bool := decide (shortC x y < 0)
theorem shortLt_iff (x y : List Int) : shortLt x y = true ↔ x.length < y.length ∨ (x.length = y.length ∧ lexLt x y = true) := by
  unfold shortLt shortC lexLt
  rw [decide_eq_true_iff, decide_eq_true_iff]
  by_cases e : x.length = y.length
  · rw [if_pos ((cmpI_zero _ _).2 (by omega))]
    constructor
    · intro h; exact Or.inr ⟨e, h⟩
    · rintro (h | h)
      · omega
      · exact h.2
  · rw [if_neg (fun h => e (by have := (cmpI_zero _ _).1 h; omega)), cmpI_neg]
    constructor
    · intro h; exact Or.inl (by omega)
    · rintro (h | h)
      · omega
      · exact absurd h.1 e
theorem short_total : TotalLt shortLt where
  irrefl x := by
    cases e : shortLt x x with
    | false => rfl
    | true =>
      rcases (shortLt_iff x x).1 e with h | h
      · omega
      · rw [lex_total.irrefl] at h; cases h.2
  trans x y z h1 h2 := by
    rw [shortLt_iff] at *
    rcases h1 with h1 | h1 <;> rcases h2 with h2 | h2
    · exact Or.inl (by omega)
    · exact Or.inl (by omega)
    · exact Or.inl (by omega)
    · exact Or.inr ⟨by omega, lex_total.trans x y z h1.2 h2.2⟩
  tri x y := by
    rw [shortLt_iff, shortLt_iff]
    rcases Nat.lt_trichotomy x.length y.length with h | h | h
    · exact Or.inr (Or.inl (Or.inl h))
    · rcases lex_total.tri x y with k | k | k
      · exact Or.inl k
      · exact Or.inr (Or.inl (Or.inr ⟨h, k⟩))
      · exact Or.inr (Or.inr (Or.inr ⟨h.symm, k⟩))
    · exact Or.inr (Or.inr (Or.inl h))
theorem shortLt_len {x y : List Int} (h : x.length ≠ y.length) : shortLt x y = decide (x.length < y.length) := by
  rw [Bool.eq_iff_iff, shortLt_iff, decide_eq_true_iff]
  constructor
  · rintro (q | q)
    · exact q
    · exact absurd q.1 h
  · exact Or.inl
theorem shortLt_at {x y : List Int} (hl : x.length = y.length) (i : Nat) (hx : i < x.length) (h : ∀ j, j < i → nth x j = nth y j) (hne : nth x i ≠ nth y i) : shortLt x y = decide (nth x i < nth y i) := by
  rw [Bool.eq_iff_iff, shortLt_iff, decide_eq_true_iff]
  unfold lexLt
  rw [decide_eq_true_iff, lexC_at x y i hx (by omega) h hne, cmpI_neg]
  constructor
  · rintro (q | q)
    · omega
    · exact q.2
  · intro q; exact Or.inr ⟨hl, q⟩
theorem shortLt_same (x : List Int) : shortLt x x = false := short_total.irrefl x
/-- A list is put to its place, once. -/
def intoL (x : List Int) (all : List (List Int)) : List (List Int) := if x ∈ all then all else insL shortLt x all
/-- The search by halves holds. -/
theorem half_low {all : List (List Int)} {x : List Int} (hs : srtR shortLt all) {m : Nat} (hm : m < all.length) (h : shortLt (nth all m) x = true) : ∀ i, i < m + 1 → shortLt (nth all i) x = true := by
  intro i hi
  rcases Nat.lt_succ_iff_lt_or_eq.1 hi with q | q
  · have h1 := hs i m q hm
    cases e : shortLt (nth all i) x with
    | true => rfl
    | false =>
      rcases short_total.tri (nth all i) (nth all m) with t | t | t
      · rw [t, h] at e; cases e
      · rw [short_total.trans _ _ _ t h] at e; cases e
      · rw [h1] at t; cases t
  · subst q; exact h
theorem half_high {all : List (List Int)} {x : List Int} (hs : srtR shortLt all) {m : Nat} (h : shortLt (nth all m) x = false) : ∀ i, m ≤ i → i < all.length → shortLt (nth all i) x = false := by
  intro i hi hl
  rcases Nat.lt_or_ge m i with q | q
  · exact short_total.ntrans _ _ _ (hs m i q hl) h
  · have e : i = m := by omega
    subst e; exact h
theorem half_mem {all : List (List Int)} {x : List Int} (hs : srtR shortLt all) {k : Nat} (h1 : ∀ i, i < k → shortLt (nth all i) x = true) (h2 : ∀ i, k ≤ i → i < all.length → shortLt (nth all i) x = false) : x ∈ all ↔ k < all.length ∧ nth all k = x := by
  constructor
  · intro h
    obtain ⟨j, hj, rfl⟩ := mem_nth _ _ h
    have hkj : k ≤ j := by
      rcases Nat.lt_or_ge j k with q | q
      · have := h1 j q; rw [shortLt_same] at this; cases this
      · exact q
    refine ⟨by omega, ?_⟩
    rcases short_total.tri (nth all k) (nth all j) with t | t | t
    · exact t
    · have := h2 k (Nat.le_refl _) (by omega); rw [t] at this; cases this
    · rcases Nat.lt_or_ge k j with q | q
      · have := hs k j q hj; rw [t] at this; cases this
      · have e : j = k := by omega
        rw [e]
  · rintro ⟨h, rfl⟩; exact nth_mem _ _ h
theorem intoL_at {all : List (List Int)} {x : List Int} (hs : srtR shortLt all) {k : Nat} (hk : k ≤ all.length) (h1 : ∀ i, i < k → shortLt (nth all i) x = true) (h2 : ∀ i, k ≤ i → i < all.length → shortLt (nth all i) x = false) :
    (k < all.length ∧ nth all k = x → intoL x all = all) ∧ (¬ (k < all.length ∧ nth all k = x) → intoL x all = all.take k ++ x :: all.drop k) := by
  have hm := half_mem hs h1 h2
  unfold intoL
  constructor
  · intro h; rw [if_pos (hm.2 h)]
  · intro h
    rw [if_neg (fun q => h (hm.1 q))]
    refine insL_at shortLt x all k hk h1 ?_
    rcases Nat.lt_or_ge k all.length with q | q
    · exact Or.inr (h2 k (Nat.le_refl _) q)
    · exact Or.inl (by omega)
theorem intoL_len (x : List Int) (all : List (List Int)) : (intoL x all).length ≤ all.length + 1 := by
  unfold intoL
  split
  · omega
  · rw [insL_len]; omega
/-- The words that are found first, in the order of the fillings. -/
def sureTo (p : Aut) : Nat → List (List Int)
  | 0 => []
  | n + 1 => if (fillW p n).2 = true ∧ (fillW p n).1 ∉ sureTo p n then sureTo p n ++ [(fillW p n).1] else sureTo p n
/-- The same in order. -/
def sureIn (p : Aut) : Nat → List (List Int)
  | 0 => []
  | n + 1 => if (fillW p n).2 = true then intoL (fillW p n).1 (sureIn p n) else sureIn p n
theorem sureIn_eq (p : Aut) : ∀ n, sureIn p n = buildR shortLt (sureTo p n)
  | 0 => rfl
  | n + 1 => by
    have ih := sureIn_eq p n
    have hp := (buildR_ok short_total (sureTo p n)).2
    unfold sureIn sureTo
    by_cases h : (fillW p n).2 = true
    · rw [if_pos h, ih]
      unfold intoL
      by_cases hm : (fillW p n).1 ∈ sureTo p n
      · rw [if_pos (hp.symm.subset hm), if_neg (fun q => q.2 hm)]
      · rw [if_neg (fun q => hm (hp.subset q)), if_pos ⟨h, hm⟩, ← insAllL_build short_total, ← insAllL_build short_total, insAllL_snoc]
    · rw [if_neg h, ih, if_neg (fun q => h q.1)]
theorem sureIn_srt (p : Aut) (n : Nat) : srtR shortLt (sureIn p n) := by rw [sureIn_eq]; exact (buildR_ok short_total _).1
theorem sureTo_len (p : Aut) : ∀ n, (sureTo p n).length ≤ n
  | 0 => Nat.le_refl _
  | n + 1 => by
    have := sureTo_len p n
    unfold sureTo
    split
    · rw [List.length_append, List.length_singleton]; omega
    · omega
theorem sureIn_len (p : Aut) (n : Nat) : (sureIn p n).length ≤ n := by rw [sureIn_eq, buildR_len]; exact sureTo_len p n
theorem sureTo_mem (p : Aut) (x : List Int) (n : Nat) : x ∈ sureTo p n → ∃ m, m < n ∧ (fillW p m).2 = true ∧ (fillW p m).1 = x := by
  induction n with
  | zero =>
    intro h
    have h2 : x ∈ ([] : List (List Int)) := h
    simp at h2
  | succ n ih =>
    intro h
    rw [sureTo] at h
    split at h
    · rename_i hq
      rcases List.mem_append.1 h with h | h
      · obtain ⟨m, h1, h2⟩ := ih h
        exact ⟨m, by omega, h2⟩
      · have e : x = (fillW p n).1 := List.mem_singleton.1 h
        exact ⟨n, Nat.lt_succ_self _, hq.1, e.symm⟩
    · obtain ⟨m, h1, h2⟩ := ih h
      exact ⟨m, by omega, h2⟩
theorem sureTo_no {p : Aut} {n : Nat} (h : (fillW p n).2 = false) : sureTo p (n + 1) = sureTo p n := by
  show (if _ then _ else _) = _
  rw [if_neg (fun q => by rw [h] at q; cases q.1)]
theorem sureTo_old {p : Aut} {n : Nat} (h : (fillW p n).1 ∈ sureTo p n) : sureTo p (n + 1) = sureTo p n := by
  show (if _ then _ else _) = _
  rw [if_neg (fun q => q.2 h)]
theorem sureTo_new {p : Aut} {n : Nat} (h : (fillW p n).2 = true) (h2 : (fillW p n).1 ∉ sureTo p n) : sureTo p (n + 1) = sureTo p n ++ [(fillW p n).1] := by
  show (if _ then _ else _) = _
  rw [if_pos ⟨h, h2⟩]
theorem sureIn_no {p : Aut} {n : Nat} (h : (fillW p n).2 = false) : sureIn p (n + 1) = sureIn p n := by
  show (if _ then _ else _) = _
  rw [if_neg (by rw [h]; simp)]
theorem sureIn_yes {p : Aut} {n : Nat} (h : (fillW p n).2 = true) : sureIn p (n + 1) = intoL (fillW p n).1 (sureIn p n) := by
  show (if _ then _ else _) = _
  rw [if_pos h]
/-- The letters of a partial automaton. -/
def lettersP (p : Aut) (ws : List Int) : Prop := ∀ i, i < ws.length → 0 ≤ nth ws i ∧ nth ws i < p.nx.length
theorem fillN_nx (p : Aut) (N : Nat) : (fillN p N).nx.length = p.nx.length := gapTo_len _ _ _ _
theorem letters_fill {p : Aut} {ws : List Int} (h : lettersP p ws) (N : Nat) : letters (fillN p N) ws := fun i hi => by rw [fillN_nx]; exact h i hi
theorem sureTo_word {p : Aut} {n : Nat} {x : List Int} (hf : PartFacts p) (h : x ∈ sureTo p n) : lettersP p x ∧ x.length ≤ 1024 := by
  obtain ⟨m, _, h2, rfl⟩ := sureTo_mem p x n h
  refine ⟨fun i hi => ?_, fillW_len hf m⟩
  have := (first_runs (WRun.tour (fillN p m) (full (fillN p m).n)) h2).1 i hi
  rw [fillN_nx] at this
  exact this
/-- Whether a state is among those to which a word leads. -/
theorem runF_bitsS {a : Aut} (ha : autOk a = true) (ws : List Int) (hw : letters a ws) (i : Nat) : (runF a.nx (full a.n) ws).testBit i = true ↔ ∃ s : Nat, s < a.n.toNat ∧ (runOf a.nx (s : Int) ws).toNat = i := by
  have hn := autOk_n ha
  have hfull : ∀ s, (full a.n).testBit s = true ↔ s < a.n.toNat := fun s => by
    unfold full
    rw [Nat.testBit_two_pow_sub_one]; simp
  refine snoc_ind (P := fun ws => letters a ws → ∀ i, (runF a.nx (full a.n) ws).testBit i = true ↔ ∃ s : Nat, s < a.n.toNat ∧ (runOf a.nx (s : Int) ws).toNat = i) ?_ ?_ ws hw i
  · intro _ i
    show (full a.n).testBit i = true ↔ _
    rw [hfull]
    constructor
    · intro h; exact ⟨i, h, by simp [runOf]⟩
    · rintro ⟨s, h1, h2⟩
      simp [runOf] at h2
      omega
  · intro xs x ih h i
    rw [letters_snoc] at h
    rw [runF_snoc, testBit_moved]
    constructor
    · rintro ⟨t, ht, h1, h2⟩
      obtain ⟨s, hs, he⟩ := (ih h.1 t).1 h1
      refine ⟨s, hs, ?_⟩
      rw [runOf_snoc]
      unfold stepOf
      rw [he]; exact h2
    · rintro ⟨s, hs, he⟩
      have hr := runOf_lt ha (s : Int) ⟨by omega, by omega⟩ xs h.1
      refine ⟨(runOf a.nx (s : Int) xs).toNat, by omega, (ih h.1 _).2 ⟨s, hs, rfl⟩, ?_⟩
      rw [runOf_snoc] at he
      exact he
theorem small_bits : ∀ f : Fin 1024, smallB f.val = decide (∀ i : Fin 10, ∀ j : Fin 10, f.val.testBit i.val = true → f.val.testBit j.val = true → i.val = j.val) := by decide +kernel
/-- Whether a word leads all states to one. -/
def rsB (a : Aut) (ws : List Int) : Bool := smallB (runF a.nx (full a.n) ws)
theorem rsB_iff {a : Aut} (ha : autOk a = true) {ws : List Int} (hw : letters a ws) : rsB a ws = true ↔ ∀ s : Nat, s < a.n.toNat → runOf a.nx (s : Int) ws = runOf a.nx 0 ws := by
  have hn := autOk_n ha
  have hb := runF_bitsS ha ws hw
  have hr := fun s hs => runOf_lt ha s hs ws hw
  have hlt : runF a.nx (full a.n) ws < 1024 := by
    rw [show (1024 : Nat) = 2 ^ 10 by decide]
    apply Nat.lt_pow_two_of_testBit
    intro i hi
    cases e : (runF a.nx (full a.n) ws).testBit i with
    | false => rfl
    | true =>
      obtain ⟨s, h1, h2⟩ := (hb i).1 e
      have := hr (s : Int) ⟨by omega, by omega⟩
      omega
  unfold rsB
  rw [small_bits ⟨_, hlt⟩, decide_eq_true_iff]
  have r0 := hr 0 ⟨by omega, by omega⟩
  have b0 : (runF a.nx (full a.n) ws).testBit (runOf a.nx 0 ws).toNat = true := (hb _).2 ⟨0, by omega, rfl⟩
  constructor
  · intro h s hs
    have rs := hr (s : Int) ⟨by omega, by omega⟩
    have bs : (runF a.nx (full a.n) ws).testBit (runOf a.nx (s : Int) ws).toNat = true := (hb _).2 ⟨s, hs, rfl⟩
    have := h ⟨(runOf a.nx (s : Int) ws).toNat, by omega⟩ ⟨(runOf a.nx 0 ws).toNat, by omega⟩ bs b0
    simp only at this
    omega
  · intro h i j hi hj
    obtain ⟨s, h1, h2⟩ := (hb i.val).1 hi
    obtain ⟨t, h3, h4⟩ := (hb j.val).1 hj
    rw [h s h1] at h2
    rw [h t h3] at h4
    omega
/-- So many of the first fillings does a word reset. -/
def resTo (p : Aut) (ws : List Int) : Nat → Nat
  | 0 => 0
  | n + 1 => resTo p ws n + if rsB (fillN p n) ws = true then 1 else 0
theorem resTo_le (p : Aut) (ws : List Int) : ∀ n, resTo p ws n ≤ n
  | 0 => Nat.le_refl _
  | n + 1 => by have := resTo_le p ws n; show resTo p ws n + _ ≤ _; split <;> omega
theorem resTo_pos {p : Aut} {ws : List Int} {m : Nat} (h : rsB (fillN p m) ws = true) : ∀ n, m < n → 0 < resTo p ws n
  | 0, hm => absurd hm (by omega)
  | n + 1, hm => by
    show 0 < resTo p ws n + _
    rcases Nat.lt_succ_iff_lt_or_eq.1 hm with q | q
    · have := resTo_pos h n q; omega
    · subst q; rw [if_pos h]; omega
/-- The greatest of the first numbers, and the first place that has it. -/
def bestM (f : Nat → Nat) : Nat → Nat
  | 0 => 0
  | n + 1 => if bestM f n < f n then f n else bestM f n
def bestAt (f : Nat → Nat) : Nat → Int
  | 0 => -1
  | n + 1 => if bestM f n < f n then n else bestAt f n
theorem bestAt_lt (f : Nat → Nat) : ∀ n, -1 ≤ bestAt f n ∧ bestAt f n < n
  | 0 => ⟨Int.le_refl _, by show (-1 : Int) < ((0 : Nat) : Int); omega⟩
  | n + 1 => by
    have h := bestAt_lt f n
    show -1 ≤ (if bestM f n < f n then (n : Int) else bestAt f n) ∧ (if bestM f n < f n then (n : Int) else bestAt f n) < ((n + 1 : Nat) : Int)
    split <;> omega
theorem bestM_le {f : Nat → Nat} {C : Nat} (h : ∀ n, f n ≤ C) : ∀ n, bestM f n ≤ C
  | 0 => Nat.zero_le _
  | n + 1 => by unfold bestM; split; exact h n; exact bestM_le h n
theorem bestM_ge (f : Nat → Nat) : ∀ n i, i < n → f i ≤ bestM f n
  | 0, i, h => absurd h (by omega)
  | n + 1, i, h => by
    unfold bestM
    rcases Nat.lt_succ_iff_lt_or_eq.1 h with q | q
    · have := bestM_ge f n i q; split <;> omega
    · subst q; split <;> omega
theorem bestAt_val (f : Nat → Nat) : ∀ n, (bestAt f n < 0 ∧ bestM f n = 0) ∨ (0 ≤ bestAt f n ∧ bestM f n = f (bestAt f n).toNat)
  | 0 => Or.inl ⟨by simp [bestAt], rfl⟩
  | n + 1 => by
    show ((if bestM f n < f n then (n : Int) else bestAt f n) < 0 ∧ (if bestM f n < f n then f n else bestM f n) = 0) ∨ (0 ≤ (if bestM f n < f n then (n : Int) else bestAt f n) ∧ (if bestM f n < f n then f n else bestM f n) = f (if bestM f n < f n then (n : Int) else bestAt f n).toNat)
    split
    · exact Or.inr ⟨by omega, by simp⟩
    · exact bestAt_val f n
theorem bestAt_pos {f : Nat → Nat} {n i : Nat} (hi : i < n) (h : 0 < f i) : 0 ≤ bestAt f n := by
  have h1 := bestM_ge f n i hi
  rcases bestAt_val f n with h2 | h2
  · omega
  · exact h2.1
def sureF (p : Aut) (i : Nat) : Nat := resTo p (nth (sureIn p (fillCount p)) i) (fillCount p)
def SurestWord (p : Aut) : List Int × Int :=
  if partOk p = true then (if 5000 < fillCount p then ([], 3) else (if bestAt (sureF p) (sureIn p (fillCount p)).length < 0 then ([], 6) else (nth (sureIn p (fillCount p)) (bestAt (sureF p) (sureIn p (fillCount p)).length).toNat, 0))) else ([], 1)
theorem sureIn_word {p : Aut} {n : Nat} {x : List Int} (hf : PartFacts p) (h : x ∈ sureIn p n) : lettersP p x ∧ x.length ≤ 1024 := by
  rw [sureIn_eq] at h
  exact sureTo_word hf ((buildR_ok short_total _).2.subset h)
/-- A word that is found resets a filling. -/
theorem sure_found {p : Aut} (h0 : 0 < (sureIn p (fillCount p)).length) : 0 ≤ bestAt (sureF p) (sureIn p (fillCount p)).length := by
  have hm : nth (sureIn p (fillCount p)) 0 ∈ sureIn p (fillCount p) := nth_mem _ _ h0
  have hm2 : nth (sureIn p (fillCount p)) 0 ∈ sureTo p (fillCount p) := by
    have := (buildR_ok short_total (sureTo p (fillCount p))).2
    rw [← sureIn_eq] at this
    exact this.subset hm
  obtain ⟨m, h1, h2, h3⟩ := sureTo_mem _ _ _ hm2
  have h4 := (first_runs (WRun.tour (fillN p m) (full (fillN p m).n)) h2).2
  refine bestAt_pos h0 ?_
  unfold sureF
  refine resTo_pos (m := m) ?_ _ h1
  unfold rsB
  rw [← h3]
  exact h4
theorem SurestWord_len {p : Aut} : (SurestWord p).1.length ≤ 1024 := by
  unfold SurestWord
  split
  · rename_i hok
    have hf := part_facts hok
    split
    · simp
    · split
      · simp
      · rename_i h
        have hb := bestAt_lt (sureF p) (sureIn p (fillCount p)).length
        exact (sureIn_word hf (nth_mem _ _ (by omega))).2
  · simp

end Go.Proofs.YthbebnfhplacnaaGreat
