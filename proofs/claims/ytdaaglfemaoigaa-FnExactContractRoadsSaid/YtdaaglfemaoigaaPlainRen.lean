/- An automaton with its states in another order. -/
import Derived.Test.YtdaaglfemaoigaaBase
import Derived.Test.YtdaaglfemaoigaaAut
import Derived.Test.YtdaaglfemaoigaaPlain1
import Derived.Test.YtdaaglfemaoigaaPlainRun
import Derived.Test.YtdaaglfemaoigaaPlainSet
import Derived.WalkKit
import Derived.WalkSpells
import Derived.WalkLawsBesides
import Derived.Deep.QuietTactic
import Derived.Deep.OwnRows
import Derived.BigQuiet
import Derived.KernelRfl
namespace Go.Proofs.Ytdaaglfemaoigaa
open Go.RowKit

/-- The place of a number in a list. -/
def placeOf (xs : List Int) (n : Int) : Int := match xs.findIdx? (fun x => decide (x = n)) with
  | some i => i
  | none => -1
def renRow (order row : List Int) : List Int := order.map fun s => placeOf order (nth row s.toNat)
def renOf (a : Aut) (order : List Int) : Aut := ⟨order.length, a.nx.map fun row => renRow order row⟩
theorem placeOf_iota (n : Nat) (x : Int) (h0 : 0 ≤ x) (h1 : x < n) : placeOf (iota 0 n) x = x := by
  have hl : x.toNat < (iota 0 n).length := by rw [iota_length]; omega
  have : (iota 0 n).findIdx? (fun y => decide (y = x)) = some x.toNat := by
    rw [List.findIdx?_eq_some_iff_getElem]
    refine ⟨hl, ?_, fun j hj => ?_⟩
    · rw [← nth_eq _ _ hl, nth_iota _ _ _ (by omega)]; simp; omega
    · rw [← nth_eq _ _ (by omega), nth_iota _ _ _ (by rw [iota_length] at hl; omega)]; simp; omega
  unfold placeOf
  rw [this]; simp; omega
theorem renRow_iota (n : Nat) (row : List Int) (hl : row.length = n) (h : ∀ i, i < row.length → 0 ≤ nth row i ∧ nth row i < n) : renRow (iota 0 n) row = row := by
  apply ext_nth
  · simp [renRow, iota_length, hl]
  · intro i hi
    simp [renRow, iota_length] at hi
    unfold renRow
    rw [nth_map _ _ _ (by rw [iota_length]; omega), nth_iota _ _ _ (by omega)]
    have := h i (by omega)
    rw [show (0 + (i : Int)).toNat = i by omega]
    exact placeOf_iota n _ this.1 this.2
theorem renOf_all {a : Aut} (h : autOk a = true) : renOf a (iota 0 a.n.toNat) = a := by
  have hn := autOk_n h
  unfold renOf
  have e1 : ((iota 0 a.n.toNat).length : Int) = a.n := by rw [iota_length]; omega
  have e2 : a.nx.map (fun row => renRow (iota 0 a.n.toNat) row) = a.nx := by
    apply ext_nth
    · simp
    · intro i hi
      rw [List.length_map] at hi
      rw [nth_map _ _ _ hi]
      obtain ⟨h1, h2⟩ := autOk_row h i hi
      exact renRow_iota _ _ (by omega) (fun j hj => by have := h2 j hj; omega)
  rw [e1, e2]
theorem actOf_nil (a : Aut) : actOf a [] = iota 0 a.n.toNat := by
  unfold actOf runOf
  simp
/-- An order all of whose numbers are states. -/
def statesIn (a : Aut) (order : List Int) : Prop := ∀ i, i < order.length → 0 ≤ nth order i ∧ nth order i < a.n
theorem statesIn_all (a : Aut) : statesIn a (iota 0 a.n.toNat) := fun i hi => by
  rw [iota_length] at hi
  rw [nth_iota _ _ _ hi]; omega
theorem total_bound (xss : List (List Int)) (K : Nat) (h : ∀ i, i < xss.length → (nth xss i).length ≤ K) : total xss ≤ xss.length * K := by
  induction xss with
  | nil => simp [total]
  | cons x r ih =>
    have h0 := h 0 (by simp)
    have h1 := ih (fun i hi => by have := h (i + 1) (by simpa using hi); simpa [nth] using this)
    simp [nth] at h0
    simp only [total, List.length_cons, Nat.add_mul, Nat.one_mul]
    omega
theorem autOk_big {a : Aut} (h : autOk a = true) : a.nx.length ≤ 1048576 ∧ total a.nx ≤ 1073741824 := by
  have h1 := autOk_l h
  have h2 := autOk_n h
  have := total_bound a.nx 10 (fun i hi => by have := (autOk_row h i hi).1; omega)
  omega

end Go.Proofs.Ytdaaglfemaoigaa
