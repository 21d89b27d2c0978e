/- The automaton of the classes of a congruence. -/
import Derived.Test.YtdaaglfemaoigaaBase
import Derived.Test.YtdaaglfemaoigaaAut
import Derived.Test.YtdaaglfemaoigaaPlain1
import Derived.Test.YtdaaglfemaoigaaPlainRun
import Derived.Test.YtdaaglfemaoigaaPlainSet
import Derived.Test.YtdaaglfemaoigaaPlainRen
import Derived.Test.YtdaaglfemaoigaaPlainDiv
import Derived.Test.YtdaaglfemaoigaaAppRows
import Derived.Test.YtdaaglfemaoigaaPlainTidy
import Derived.WalkKit
import Derived.WalkSpells
import Derived.WalkLawsBesides
import Derived.Deep.QuietTactic
import Derived.Deep.OwnRows
import Derived.BigQuiet
import Derived.KernelRfl
namespace Go.Proofs.Ytdaaglfemaoigaa
open Go.RowKit

/-- How many classes the first k marks have. -/
def clsTo (cl : List Int) (k : Nat) : Int := (cl.take k).foldl (fun m x => if m > x + 1 then m else x + 1) 0
theorem clsTo_zero (cl : List Int) : clsTo cl 0 = 0 := rfl
theorem clsTo_succ (cl : List Int) (k : Nat) (h : k < cl.length) : clsTo cl (k + 1) = if clsTo cl k > nth cl k + 1 then clsTo cl k else nth cl k + 1 := by
  unfold clsTo; rw [take_succ_nth cl k h, List.foldl_append]; rfl
theorem clsTo_ge (cl : List Int) : ∀ k, k ≤ cl.length → ∀ i, i < k → nth cl i + 1 ≤ clsTo cl k
  | 0, _, i, hi => absurd hi (by omega)
  | k + 1, hk, i, hi => by
    rw [clsTo_succ cl k (by omega)]
    by_cases e : i = k
    · subst e; split <;> omega
    · have := clsTo_ge cl k (by omega) i (by omega)
      split <;> omega
theorem clsTo_hit (cl : List Int) : ∀ k, k ≤ cl.length → 0 < k → (∃ i, i < k ∧ nth cl i + 1 = clsTo cl k) ∨ clsTo cl k = 0
  | 0, _, h => absurd h (by omega)
  | k + 1, hk, _ => by
    rw [clsTo_succ cl k (by omega)]
    split
    · by_cases e : k = 0
      · subst e; right; exact clsTo_zero cl
      · rcases clsTo_hit cl k (by omega) (by omega) with ⟨i, hi, h⟩ | h
        · exact Or.inl ⟨i, by omega, h⟩
        · exact Or.inr h
    · exact Or.inl ⟨k, by omega, rfl⟩
theorem clsTo_nonneg (cl : List Int) (h : ∀ i, i < cl.length → 0 ≤ nth cl i) : ∀ k, k ≤ cl.length → 0 ≤ clsTo cl k ∧ (0 < k → 1 ≤ clsTo cl k)
  | 0, _ => by simp [clsTo_zero]
  | k + 1, hk => by
    have h1 := clsTo_nonneg cl h k (by omega)
    have h2 := h k (by omega)
    rw [clsTo_succ cl k (by omega)]
    split <;> omega
/-- How many classes there are. -/
def clsN (cl : List Int) : Int := clsTo cl cl.length
/-- Each class up to one that is there is there. -/
theorem divOk_all : ∀ (xs : List Int) (u : Int), 0 ≤ u → divOk u xs = true → ∀ i, i < xs.length → ∀ c, u ≤ c → c ≤ nth xs i → c ∈ xs
  | [], _, _, _, i, hi, _, _, _ => by simp at hi
  | x :: r, u, hu, h, i, hi, c, hc1, hc2 => by
    simp only [divOk, Bool.and_eq_true] at h
    have h1 := (inB_iff _ _ _).1 h.1
    by_cases e : x = u
    · by_cases e2 : c = u
      · rw [e2, ← e]; simp
      · cases i with
        | zero => simp [nth] at hc2; omega
        | succ i =>
          have h2 := h.2
          rw [if_pos e] at h2
          exact List.mem_cons_of_mem _ (divOk_all r (u + 1) (by omega) h2 i (by simpa using hi) c (by omega) (by simpa [nth] using hc2))
    · cases i with
      | zero => simp [nth] at hc2; omega
      | succ i =>
        have h2 := h.2
        rw [if_neg e] at h2
        exact List.mem_cons_of_mem _ (divOk_all r u hu h2 i (by simpa using hi) c hc1 (by simpa [nth] using hc2))
theorem isDiv_parts {cl : List Int} {n : Int} (h : isDiv cl n = true) : divOk 0 cl = true ∧ (cl.length : Int) = n := by
  unfold isDiv at h; rwa [Bool.and_eq_true, decide_eq_true_eq] at h
theorem cls_has {cl : List Int} {n : Int} (h : isDiv cl n = true) (c : Int) (h0 : 0 ≤ c) (h1 : c < clsN cl) : c ∈ cl := by
  obtain ⟨hd, hl⟩ := isDiv_parts h
  by_cases e : cl.length = 0
  · have : clsN cl = 0 := by unfold clsN; rw [e]; rfl
    omega
  · rcases clsTo_hit cl cl.length (Nat.le_refl _) (by omega) with ⟨i, hi, h2⟩ | h2
    · exact divOk_all cl 0 (by omega) hd i hi c h0 (by unfold clsN at h1; omega)
    · unfold clsN at h1; omega
/-- Where a class leads. -/
def quoAt (cl row : List Int) (c : Int) : Int := nth cl (nth row (placeOf cl c).toNat).toNat
def quoRow (cl row : List Int) : List Int := (iota 0 (clsN cl).toNat).map fun c => quoAt cl row c
def quoOf (a : Aut) (cl : List Int) : Aut := ⟨clsN cl, a.nx.map fun row => quoRow cl row⟩
noncomputable def QuotientOf (a : Aut) (cl : List Int) : Aut × Int :=
  if autOk a = true then (if isDiv cl a.n = true then (if congB a.nx cl = true then (quoOf a cl, 0) else (⟨0, []⟩, 4)) else (⟨0, []⟩, 2)) else (⟨0, []⟩, 1)
/-- A row that is filled state by state. -/
def fillTo (cl row : List Int) (k : Nat) : List Int := (iota 0 (clsN cl).toNat).map fun c => if hasB (cl.take k) c = true then quoAt cl row c else 0
theorem fillTo_len (cl row : List Int) (k : Nat) : (fillTo cl row k).length = (clsN cl).toNat := by simp [fillTo, iota_length]
theorem nth_fillTo (cl row : List Int) (k i : Nat) (h : i < (clsN cl).toNat) : nth (fillTo cl row k) i = if hasB (cl.take k) (i : Int) = true then quoAt cl row i else 0 := by
  unfold fillTo
  rw [nth_map _ _ _ (by rw [iota_length]; exact h), nth_iota _ _ _ h, Int.zero_add]
theorem fillTo_zero (cl row : List Int) : fillTo cl row 0 = List.replicate (clsN cl).toNat 0 := by
  apply ext_nth
  · rw [fillTo_len]; simp
  · intro i hi
    rw [fillTo_len] at hi
    rw [nth_fillTo _ _ _ _ hi]
    simp [hasB, nth, hi]
theorem congB_of {nx : List (List Int)} {cl : List Int} (h : congB nx cl = true) : congP nx cl := by unfold congB at h; simpa using h
theorem fillTo_step {a : Aut} {cl : List Int} (hd : isDiv cl a.n = true) (hc : congB a.nx cl = true) (l k : Nat) (hl : l < a.nx.length) (hk : k < cl.length) :
    (fillTo cl (nth a.nx l) k).set (nth cl k).toNat (nth cl (nth (nth a.nx l) k).toNat) = fillTo cl (nth a.nx l) (k + 1) := by
  obtain ⟨h1, h2⟩ := isDiv_parts hd
  have h3 := (divOk_in cl 0 (by omega) h1 k hk).1
  have h4 := clsTo_ge cl cl.length (Nat.le_refl _) k hk
  have hlt : (nth cl k).toNat < (clsN cl).toNat := by unfold clsN; omega
  apply ext_nth
  · rw [List.length_set, fillTo_len, fillTo_len]
  · intro i hi
    rw [List.length_set, fillTo_len] at hi
    rw [nth_set _ _ _ _ (by rw [fillTo_len]; exact hlt), nth_fillTo _ _ _ _ hi, nth_fillTo _ _ _ _ hi]
    have hm : hasB (cl.take (k + 1)) (i : Int) = (hasB (cl.take k) (i : Int) || decide ((i : Int) = nth cl k)) := by
      rw [take_succ_nth cl k hk, Bool.eq_iff_iff, Bool.or_eq_true, hasB_iff, hasB_iff, decide_eq_true_eq]; simp
    by_cases e : i = (nth cl k).toNat
    · rw [if_pos e, hm, if_pos (by rw [decide_eq_true (by omega)]; simp)]
      have hi' : (i : Int) = nth cl k := by omega
      rw [hi']
      unfold quoAt
      obtain ⟨j, j1, j2, j3, _⟩ := placeOf_mem cl (nth cl k) (nth_mem _ _ hk)
      rw [j3, Int.toNat_natCast]
      exact (congB_of hc l hl k hk j j1) j2.symm
    · rw [if_neg e, hm, decide_eq_false (by omega), Bool.or_false]
theorem fillTo_all {a : Aut} {cl : List Int} (hd : isDiv cl a.n = true) (row : List Int) : fillTo cl row cl.length = quoRow cl row := by
  apply ext_nth
  · rw [fillTo_len]; simp [quoRow, iota_length]
  · intro i hi
    rw [fillTo_len] at hi
    rw [nth_fillTo _ _ _ _ hi]
    unfold quoRow
    rw [nth_map _ _ _ (by rw [iota_length]; exact hi), nth_iota _ _ _ hi, Int.zero_add, List.take_length, if_pos ((hasB_iff _ _).2 (cls_has hd _ (by omega) (by omega)))]
theorem cls_le {cl : List Int} {n : Int} (h : isDiv cl n = true) : 0 ≤ clsN cl ∧ clsN cl ≤ n + 1 ∧ (0 < n → 1 ≤ clsN cl) := by
  obtain ⟨h1, h2⟩ := isDiv_parts h
  have h0 : ∀ i, i < cl.length → 0 ≤ nth cl i := fun i hi => (divOk_in cl 0 (by omega) h1 i hi).1
  obtain ⟨h3, h4⟩ := clsTo_nonneg cl h0 cl.length (Nat.le_refl _)
  refine ⟨h3, ?_, fun hn => h4 (by omega)⟩
  unfold clsN
  by_cases e : cl.length = 0
  · rw [e, clsTo_zero]; omega
  · rcases clsTo_hit cl cl.length (Nat.le_refl _) (by omega) with ⟨i, hi, h⟩ | h
    · have := (divOk_in cl 0 (by omega) h1 i hi).2; omega
    · omega

end Go.Proofs.Ytdaaglfemaoigaa
