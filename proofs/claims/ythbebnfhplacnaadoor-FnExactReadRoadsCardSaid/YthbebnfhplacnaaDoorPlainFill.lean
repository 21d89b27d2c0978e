/- The gaps of a partial automaton, and its fillings by numbers. -/
import Derived.Test.YthbebnfhplacnaaDoorCore
import Derived.Test.YthbebnfhplacnaaDoorPlains
import Derived.Test.YthbebnfhplacnaaDoorJoins
import Derived.Test.YthbebnfhplacnaaDoorQuicks
import Derived.Test.YthbebnfhplacnaaDoorPlainReset
import Derived.Test.YthbebnfhplacnaaDoorDrawT
import Derived.WalkKit
import Derived.WalkSpells
import Derived.WalkLawsBesides
import Derived.Deep.QuietTactic
import Derived.Deep.OwnRows
import Derived.BigQuiet
import Derived.KernelRfl
namespace Go.Proofs.YthbebnfhplacnaaDoor
open Go.RowKit

def gapRow (l : Nat) (row : List Int) (k : Nat) : List (Nat × Nat) := ((List.range k).filter fun s => decide (nth row s < 0)).map fun s => (l, s)
def gapsTo (nx : List (List Int)) (k : Nat) : List (Nat × Nat) := (List.range k).flatMap fun l => gapRow l (nth nx l) (nth nx l).length
/-- All gaps, letter by letter. -/
def gapsOf (nx : List (List Int)) : List (Nat × Nat) := gapsTo nx nx.length
theorem gapRow_no {l k : Nat} {row : List Int} (h : ¬ nth row k < 0) : gapRow l row (k + 1) = gapRow l row k := by
  unfold gapRow; rw [List.range_succ, List.filter_append]; simp [h]
theorem gapRow_yes {l k : Nat} {row : List Int} (h : nth row k < 0) : gapRow l row (k + 1) = gapRow l row k ++ [(l, k)] := by
  unfold gapRow; rw [List.range_succ, List.filter_append]; simp [h]
theorem gapRow_len (l : Nat) (row : List Int) (k : Nat) : (gapRow l row k).length ≤ k := by
  unfold gapRow
  rw [List.length_map]
  have := List.length_filter_le (fun s => decide (nth row s < 0)) (List.range k)
  simpa using this
theorem gapsTo_succ (nx : List (List Int)) (k : Nat) : gapsTo nx (k + 1) = gapsTo nx k ++ gapRow k (nth nx k) (nth nx k).length := by
  unfold gapsTo; rw [List.range_succ, List.flatMap_append]; simp
theorem gapsTo_len {nx : List (List Int)} {m : Nat} (h : ∀ i, i < nx.length → (nth nx i).length ≤ m) : ∀ k, k ≤ nx.length → (gapsTo nx k).length ≤ k * m
  | 0, _ => by simp [gapsTo]
  | k + 1, hk => by
    rw [gapsTo_succ, List.length_append]
    have h1 := gapsTo_len h k (by omega)
    have h2 := gapRow_len k (nth nx k) (nth nx k).length
    have h3 := h k (by omega)
    have h4 : (k + 1) * m = k * m + m := Nat.succ_mul k m
    omega
theorem gapsOf_mem {nx : List (List Int)} {g : Nat × Nat} : g ∈ gapsOf nx ↔ g.1 < nx.length ∧ g.2 < (nth nx g.1).length ∧ nth (nth nx g.1) g.2 < 0 := by
  obtain ⟨l, s⟩ := g
  unfold gapsOf gapsTo gapRow
  simp only [List.mem_flatMap, List.mem_range, List.mem_map, List.mem_filter, decide_eq_true_eq, Prod.mk.injEq]
  constructor
  · rintro ⟨l', h1, s', ⟨h2, h3⟩, rfl, rfl⟩; exact ⟨h1, h2, h3⟩
  · rintro ⟨h1, h2, h3⟩; exact ⟨l, h1, s, ⟨h2, h3⟩, rfl, rfl⟩
/-- The first k gaps are filled. -/
def fillTo' (nx : List (List Int)) (gs : List (Nat × Nat)) (st : List Int) (k : Nat) : List (List Int) := (List.range k).foldl (fun rows i => putAt rows (nth gs i).1 (nth gs i).2 (nth st i)) nx
def fillOf (nx : List (List Int)) (st : List Int) : List (List Int) := fillTo' nx (gapsOf nx) st (gapsOf nx).length
theorem fillTo_succ (nx : List (List Int)) (gs : List (Nat × Nat)) (st : List Int) (k : Nat) : fillTo' nx gs st (k + 1) = putAt (fillTo' nx gs st k) (nth gs k).1 (nth gs k).2 (nth st k) := by
  unfold fillTo'; rw [List.range_succ, List.foldl_append]; rfl
theorem gapTo_len (nx : List (List Int)) (gs : List (Nat × Nat)) (st : List Int) : ∀ k, (fillTo' nx gs st k).length = nx.length
  | 0 => rfl
  | k + 1 => by rw [fillTo_succ, putAt_len, gapTo_len nx gs st k]
theorem fillTo_row {nx : List (List Int)} {gs : List (Nat × Nat)} (hg : ∀ i, i < gs.length → (nth gs i).1 < nx.length) (st : List Int) (l : Nat) : ∀ k, k ≤ gs.length → (nth (fillTo' nx gs st k) l).length = (nth nx l).length
  | 0, _ => rfl
  | k + 1, hk => by rw [fillTo_succ, putAt_rowlen _ _ _ _ _ (by rw [gapTo_len]; exact hg k (by omega)), fillTo_row hg st l k (by omega)]
theorem nth_putAt {xss : List (List Int)} {i j : Nat} (z : Int) (hi : i < xss.length) (hj : j < (nth xss i).length) (l s : Nat) : nth (nth (putAt xss i j z) l) s = if l = i ∧ s = j then z else nth (nth xss l) s := by
  unfold putAt
  rw [nth_set _ _ _ _ hi]
  by_cases e : l = i
  · subst e
    rw [if_pos rfl, nth_set _ _ _ _ hj]
    by_cases e2 : s = j
    · subst e2; rw [if_pos rfl, if_pos ⟨rfl, rfl⟩]
    · rw [if_neg e2, if_neg (fun q => e2 q.2)]
  · rw [if_neg e, if_neg (fun q => e q.1)]
theorem fillTo_in {n : Int} {nx : List (List Int)} {gs : List (Nat × Nat)} {st : List Int} (hg : ∀ i, i < gs.length → (nth gs i).1 < nx.length ∧ (nth gs i).2 < (nth nx (nth gs i).1).length) (hs : ∀ i, i < gs.length → 0 ≤ nth st i ∧ nth st i < n) (l s : Nat)
    (h0 : (0 ≤ nth (nth nx l) s ∧ nth (nth nx l) s < n) ∨ ∃ i, i < gs.length ∧ nth gs i = (l, s)) : ∀ k, k ≤ gs.length → (0 ≤ nth (nth (fillTo' nx gs st k) l) s ∧ nth (nth (fillTo' nx gs st k) l) s < n) ∨ ∃ i, k ≤ i ∧ i < gs.length ∧ nth gs i = (l, s)
  | 0, _ => by
    rcases h0 with h | ⟨i, h1, h2⟩
    · exact Or.inl h
    · exact Or.inr ⟨i, Nat.zero_le _, h1, h2⟩
  | k + 1, hk => by
    have hgk := hg k (by omega)
    have hrow := fillTo_row (fun i hi => (hg i hi).1) st (nth gs k).1 k (by omega)
    rw [fillTo_succ, nth_putAt _ (by rw [gapTo_len]; exact hgk.1) (by rw [hrow]; exact hgk.2)]
    by_cases e : l = (nth gs k).1 ∧ s = (nth gs k).2
    · rw [if_pos e]; exact Or.inl (hs k (by omega))
    · rw [if_neg e]
      rcases fillTo_in hg hs l s h0 k (by omega) with h | ⟨i, h1, h2, h3⟩
      · exact Or.inl h
      · refine Or.inr ⟨i, ?_, h2, h3⟩
        rcases Nat.lt_or_ge k i with q | q
        · exact q
        · have : i = k := by omega
          subst this
          rw [h3] at e
          exact absurd ⟨rfl, rfl⟩ e
/-- What a partial automaton is, in parts. -/
structure PartFacts (p : Aut) : Prop where
  n1 : 1 ≤ p.n
  n10 : p.n ≤ 10
  l1 : 1 ≤ p.nx.length
  l3 : p.nx.length ≤ 3
  row : ∀ i, i < p.nx.length → ((nth p.nx i).length : Int) = p.n
  cell : ∀ i, i < p.nx.length → ∀ s, s < (nth p.nx i).length → -1 ≤ nth (nth p.nx i) s ∧ nth (nth p.nx i) s < p.n
theorem part_facts {p : Aut} (h : partOk p = true) : PartFacts p := by
  unfold partOk at h
  simp only [Bool.and_eq_true, inB_iff] at h
  obtain ⟨⟨h1, h2⟩, ⟨h3, h4⟩, h5⟩ := h
  unfold partRows at h5
  rw [List.all_eq_true] at h5
  have hr : ∀ i, i < p.nx.length → partRow (nth p.nx i) p.n = true := fun i hi => h5 _ (nth_mem _ _ hi)
  refine ⟨h1, h2, by omega, by omega, fun i hi => ?_, fun i hi s hs => ?_⟩
  · have := hr i hi
    unfold partRow at this
    simp only [Bool.and_eq_true, decide_eq_true_eq] at this
    exact this.1
  · have := hr i hi
    unfold partRow allIn at this
    simp only [Bool.and_eq_true, List.all_eq_true, inB_iff] at this
    have := this.2 _ (nth_mem _ _ hs)
    omega
theorem gaps_len {p : Aut} (h : PartFacts p) : (gapsOf p.nx).length ≤ 30 := by
  have h1 := gapsTo_len (nx := p.nx) (m := 10) (fun i hi => by have := h.row i hi; have := h.n10; omega) p.nx.length (Nat.le_refl _)
  have h2 : p.nx.length * 10 ≤ 3 * 10 := Nat.mul_le_mul_right 10 h.l3
  unfold gapsOf
  omega
theorem gaps_in {p : Aut} (i : Nat) (hi : i < (gapsOf p.nx).length) : (nth (gapsOf p.nx) i).1 < p.nx.length ∧ (nth (gapsOf p.nx) i).2 < (nth p.nx (nth (gapsOf p.nx) i).1).length := by
  have := gapsOf_mem.1 (nth_mem _ _ hi)
  exact ⟨this.1, this.2.1⟩
theorem fill_ok {p : Aut} (h : PartFacts p) {st : List Int} (hs : ∀ i, i < (gapsOf p.nx).length → 0 ≤ nth st i ∧ nth st i < p.n) : autOk ⟨p.n, fillOf p.nx st⟩ = true := by
  have hlen : (fillOf p.nx st).length = p.nx.length := gapTo_len _ _ _ _
  rw [autOk_iff]
  refine ⟨⟨h.n1, h.n10⟩, ⟨by show 1 ≤ (fillOf p.nx st).length; rw [hlen]; exact h.l1, by show (fillOf p.nx st).length ≤ 3; rw [hlen]; exact h.l3⟩, fun i hi => ?_⟩
  have hi' : i < p.nx.length := by rw [← hlen]; exact hi
  have hr : (nth (fillOf p.nx st) i).length = (nth p.nx i).length := fillTo_row (fun i hi => (gaps_in i hi).1) st i _ (Nat.le_refl _)
  show mapOk (nth (fillOf p.nx st) i) p.n = true
  refine (mapOk_iff _ _).2 ⟨by rw [hr]; exact h.row i hi', fun s hs' => ?_⟩
  rw [hr] at hs'
  have hc := h.cell i hi' s hs'
  have h0 : (0 ≤ nth (nth p.nx i) s ∧ nth (nth p.nx i) s < p.n) ∨ ∃ j, j < (gapsOf p.nx).length ∧ nth (gapsOf p.nx) j = (i, s) := by
    rcases Int.lt_or_le (nth (nth p.nx i) s) 0 with q | q
    · exact Or.inr (mem_nth _ _ (gapsOf_mem.2 ⟨hi', hs', q⟩))
    · exact Or.inl ⟨q, hc.2⟩
  rcases fillTo_in (n := p.n) (fun i hi => gaps_in i hi) hs i s h0 _ (Nat.le_refl _) with q | ⟨j, q1, q2, _⟩
  · exact q
  · omega
/-- The digits of a number, m of them, the greatest first. -/
def digAt (n m N i : Nat) : Nat := N / n ^ (m - 1 - i) % n
def digits (n m N : Nat) : List Int := (List.range m).map fun i => ((digAt n m N i : Nat) : Int)
/-- The last t digits alone. -/
def digTail (n m N t : Nat) : List Int := (List.range m).map fun i => if m ≤ i + t then ((digAt n m N i : Nat) : Int) else 0
/-- The digits but for the last t, which are 0. -/
def digHead (n m N t : Nat) : List Int := (List.range m).map fun i => if m ≤ i + t then 0 else ((digAt n m N i : Nat) : Int)
theorem nth_digits (n m N i : Nat) (h : i < m) : nth (digits n m N) i = ((digAt n m N i : Nat) : Int) := by
  unfold digits; rw [nth_map _ _ _ (by simpa using h), nth_eq _ _ (by simpa using h)]; simp
theorem nth_digTail (n m N t i : Nat) (h : i < m) : nth (digTail n m N t) i = if m ≤ i + t then ((digAt n m N i : Nat) : Int) else 0 := by
  unfold digTail; rw [nth_map _ _ _ (by simpa using h), nth_eq _ _ (by simpa using h)]; simp
theorem nth_digHead (n m N t i : Nat) (h : i < m) : nth (digHead n m N t) i = if m ≤ i + t then 0 else ((digAt n m N i : Nat) : Int) := by
  unfold digHead; rw [nth_map _ _ _ (by simpa using h), nth_eq _ _ (by simpa using h)]; simp
theorem digits_len (n m N : Nat) : (digits n m N).length = m := by simp [digits]
theorem digTail_len (n m N t : Nat) : (digTail n m N t).length = m := by simp [digTail]
theorem digHead_len (n m N t : Nat) : (digHead n m N t).length = m := by simp [digHead]
theorem digTail_zero (n m N : Nat) : digTail n m N 0 = List.replicate m 0 := by
  apply ext_nth
  · simp [digTail]
  · intro i hi
    rw [digTail_len] at hi
    rw [nth_digTail _ _ _ _ _ hi, if_neg (by omega), nth_eq _ _ (by simpa using hi)]; simp
theorem digTail_all (n m N : Nat) : digTail n m N m = digits n m N := by
  apply ext_nth
  · simp [digTail, digits]
  · intro i hi
    rw [digTail_len] at hi
    rw [nth_digTail _ _ _ _ _ hi, if_pos (by omega), nth_digits _ _ _ _ hi]
theorem digTail_step (n m N t : Nat) (ht : t < m) : digTail n m N (t + 1) = (digTail n m N t).set (m - 1 - t) ((N / n ^ t % n : Nat) : Int) := by
  apply ext_nth
  · simp [digTail]
  · intro i hi
    rw [digTail_len] at hi
    rw [nth_digTail _ _ _ _ _ hi, nth_set _ _ _ _ (by rw [digTail_len]; omega), nth_digTail _ _ _ _ _ hi]
    by_cases e : i = m - 1 - t
    · subst e
      rw [if_pos (by omega), if_pos rfl]
      unfold digAt
      rw [show m - 1 - (m - 1 - t) = t by omega]
    · rw [if_neg e]
      by_cases q : m ≤ i + t
      · rw [if_pos q, if_pos (by omega)]
      · rw [if_neg q, if_neg (by omega)]
theorem digHead_zero (n m N : Nat) : digHead n m N 0 = digits n m N := by
  apply ext_nth
  · simp [digHead, digits]
  · intro i hi
    rw [digHead_len] at hi
    rw [nth_digHead _ _ _ _ _ hi, if_neg (by omega), nth_digits _ _ _ _ hi]
theorem digits_zero (n m : Nat) : digits n m 0 = List.replicate m 0 := by
  apply ext_nth
  · simp [digits]
  · intro i hi
    rw [digits_len] at hi
    rw [nth_digits _ _ _ _ hi, nth_eq _ _ (by simpa using hi)]
    unfold digAt
    simp
theorem pred_div {n q : Nat} (hn : 0 < n) (hq : 0 < q) (h : (q - 1) % n + 1 < n) : q % n = (q - 1) % n + 1 ∧ q / n = (q - 1) / n := by
  have e : q = n * ((q - 1) / n) + ((q - 1) % n + 1) := by have := Nat.div_add_mod (q - 1) n; omega
  constructor
  · conv => lhs; rw [e]
    rw [Nat.mul_add_mod, Nat.mod_eq_of_lt h]
  · conv => lhs; rw [e]
    rw [Nat.mul_add_div hn, Nat.div_eq_of_lt h]; rfl
theorem pred_full {n q : Nat} (hn : 0 < n) (hq : 0 < q) (h : ¬ (q - 1) % n + 1 < n) : n ∣ q := by
  have e := Nat.div_add_mod (q - 1) n
  have hl := Nat.mod_lt (q - 1) hn
  refine ⟨(q - 1) / n + 1, ?_⟩
  rw [Nat.mul_add, Nat.mul_one]
  omega
/-- The count runs on: the last t digits have become 0, and the next one is not the greatest. -/
theorem dig_break {n m N t : Nat} (hn : 0 < n) (ht : t < m) (hd : n ^ t ∣ N + 1) (hlt : N / n ^ t % n + 1 < n) : (digHead n m N t).set (m - 1 - t) ((N / n ^ t % n : Nat) + 1 : Int) = digits n m (N + 1) := by
  obtain ⟨q, hq⟩ := hd
  have hp : 0 < n ^ t := Nat.pow_pos hn
  have hq0 : 0 < q := by rcases Nat.eq_zero_or_pos q with e | e; · subst e; omega
                         · exact e
  have hN : N / n ^ t = q - 1 := by
    have e : N = n ^ t * (q - 1) + (n ^ t - 1) := by
      have : n ^ t * q = n ^ t * (q - 1) + n ^ t := by rw [← Nat.mul_succ]; congr 1; omega
      omega
    rw [e, Nat.mul_add_div hp, Nat.div_eq_of_lt (by omega)]; rfl
  rw [hN] at hlt ⊢
  obtain ⟨h1, h2⟩ := pred_div hn hq0 hlt
  have hN1 : (N + 1) / n ^ t = q := by rw [hq, Nat.mul_div_cancel_left _ hp]
  apply ext_nth
  · simp [digHead, digits]
  · intro i hi
    rw [List.length_set, digHead_len] at hi
    rw [nth_set _ _ _ _ (by rw [digHead_len]; omega), nth_digits _ _ _ _ hi, nth_digHead _ _ _ _ _ hi]
    unfold digAt
    by_cases e : i = m - 1 - t
    · rw [if_pos e, e, show m - 1 - (m - 1 - t) = t by omega, hN1, h1]; rfl
    · rw [if_neg e]
      by_cases e2 : m ≤ i + t
      · rw [if_pos e2]
        have hdv : (N + 1) / n ^ (m - 1 - i) % n = 0 := by
          obtain ⟨d, hd⟩ : ∃ d, t = m - 1 - i + (d + 1) := ⟨t - (m - 1 - i) - 1, by omega⟩
          rw [hq, hd, Nat.pow_add, Nat.mul_assoc, Nat.mul_div_cancel_left _ (Nat.pow_pos hn), Nat.pow_succ, Nat.mul_comm (n ^ d) n, Nat.mul_assoc, Nat.mul_mod_right]
        rw [hdv]; rfl
      · rw [if_neg e2]
        obtain ⟨d, hd⟩ : ∃ d, m - 1 - i = t + (1 + d) := ⟨m - 1 - i - t - 1, by omega⟩
        rw [hd, Nat.pow_add, Nat.pow_add, Nat.pow_one, ← Nat.div_div_eq_div_mul, ← Nat.div_div_eq_div_mul, ← Nat.div_div_eq_div_mul, ← Nat.div_div_eq_div_mul, hN, hN1, h2]
theorem dig_carry {n m N t : Nat} (hn : 0 < n) (ht : t < m) (hd : n ^ t ∣ N + 1) (hlt : ¬ N / n ^ t % n + 1 < n) : (digHead n m N t).set (m - 1 - t) 0 = digHead n m N (t + 1) ∧ n ^ (t + 1) ∣ N + 1 := by
  constructor
  · apply ext_nth
    · simp [digHead]
    · intro i hi
      rw [List.length_set, digHead_len] at hi
      rw [nth_set _ _ _ _ (by rw [digHead_len]; omega), nth_digHead _ _ _ _ _ hi, nth_digHead _ _ _ _ _ hi]
      by_cases e : i = m - 1 - t
      · rw [if_pos e, if_pos (by omega)]
      · rw [if_neg e]
        by_cases e2 : m ≤ i + t
        · rw [if_pos e2, if_pos (by omega)]
        · rw [if_neg e2, if_neg (by omega)]
  · obtain ⟨q, hq⟩ := hd
    have hp : 0 < n ^ t := Nat.pow_pos hn
    have hq0 : 0 < q := by rcases Nat.eq_zero_or_pos q with e | e; · subst e; omega
                           · exact e
    have hN : N / n ^ t = q - 1 := by
      have e : N = n ^ t * (q - 1) + (n ^ t - 1) := by
        have : n ^ t * q = n ^ t * (q - 1) + n ^ t := by rw [← Nat.mul_succ]; congr 1; omega
        omega
      rw [e, Nat.mul_add_div hp, Nat.div_eq_of_lt (by omega)]; rfl
    rw [hN] at hlt
    obtain ⟨z, hz⟩ := pred_full hn hq0 hlt
    exact ⟨z, by rw [hq, hz, Nat.pow_succ, Nat.mul_assoc]⟩
theorem dig_over {n m N : Nat} (hn : 0 < n) (hd : n ^ m ∣ N + 1) : digHead n m N m = digits n m (N + 1) := by
  apply ext_nth
  · simp [digHead, digits]
  · intro i hi
    rw [digHead_len] at hi
    rw [nth_digHead _ _ _ _ _ hi, if_pos (by omega), nth_digits _ _ _ _ hi]
    unfold digAt
    obtain ⟨q, hq⟩ := hd
    obtain ⟨d, hd⟩ : ∃ d, m = m - 1 - i + (d + 1) := ⟨i, by omega⟩
    have : (N + 1) / n ^ (m - 1 - i) % n = 0 := by
      rw [hq]
      conv => lhs; rw [show n ^ m = n ^ (m - 1 - i) * (n * n ^ d) by rw [← Nat.pow_succ', ← Nat.pow_add, ← hd]]
      rw [Nat.mul_assoc, Nat.mul_div_cancel_left _ (Nat.pow_pos hn), Nat.mul_assoc, Nat.mul_mod_right]
    rw [this]; rfl
theorem digits_in {n m N : Nat} (hn : 0 < n) (i : Nat) (hi : i < m) : 0 ≤ nth (digits n m N) i ∧ nth (digits n m N) i < n := by
  rw [nth_digits _ _ _ _ hi]
  have := Nat.mod_lt (N / n ^ (m - 1 - i)) hn
  unfold digAt
  omega
/-- The filling with a number. -/
def fillN (p : Aut) (N : Nat) : Aut := ⟨p.n, fillOf p.nx (digits p.n.toNat (gapsOf p.nx).length N)⟩
/-- How many fillings there are. -/
def fillCount (p : Aut) : Nat := p.n.toNat ^ (gapsOf p.nx).length
theorem fillN_ok {p : Aut} (h : PartFacts p) (N : Nat) : autOk (fillN p N) = true :=
  fill_ok h (fun i hi => by have h1 := digits_in (n := p.n.toNat) (m := (gapsOf p.nx).length) (N := N) (by have := h.n1; omega) i hi; have := h.n1; omega)
/-- The first word that resets a filling. -/
def fillW (p : Aut) (N : Nat) : List Int × Bool := firstWord smallB (tourOf (fillN p N).nx (full (fillN p N).n))
def FirstFilling (p : Aut) : Aut × Int :=
  if partOk p = true then (if 5000 < fillCount p then (⟨0, []⟩, 3) else (if hitTo (fillW p) (fillCount p) < 0 then (⟨0, []⟩, 6) else (fillN p (hitTo (fillW p) (fillCount p)).toNat, 0))) else (⟨0, []⟩, 1)
theorem pow_mono' {n k m : Nat} (hn : 1 ≤ n) (h : k ≤ m) : n ^ k ≤ n ^ m := Nat.pow_le_pow_right hn h
theorem fillW_len {p : Aut} (h : PartFacts p) (N : Nat) : (fillW p N).1.length ≤ 1024 := by
  have ha := fillN_ok h N
  exact firstWord_len (tourOk ha _ (full_lt _)) h.n10 smallB

end Go.Proofs.YthbebnfhplacnaaDoor
