/- Divisions and congruences, as plain tests. -/
import Derived.Test.YtnhjoiafadapaaaCore
import Derived.Test.YtnhjoiafadapaaaPlains
import Derived.WalkKit
import Derived.WalkSpells
import Derived.WalkLawsBesides
import Derived.Deep.QuietTactic
import Derived.Deep.OwnRows
import Derived.BigQuiet
import Derived.KernelRfl
namespace Go.Proofs.Ytnhjoiafadapaaa
open Go.RowKit

def divOk : Int → List Int → Bool
  | _, [] => true
  | u, c :: r => inB c 0 u && divOk (if c = u then u + 1 else u) r
def isDiv (xs : List Int) (n : Int) : Bool := divOk 0 xs && decide ((xs.length : Int) = n)
theorem divOk_drop (u : Int) (xs : List Int) (k : Nat) (h : k < xs.length) : divOk u (xs.drop k) = (inB (nth xs k) 0 u && divOk (if nth xs k = u then u + 1 else u) (xs.drop (k + 1))) := by
  rw [List.drop_eq_getElem_cons h, nth_eq xs k h]; rfl
/-- In a division each class is between 0 and its length. -/
theorem divOk_in : ∀ (xs : List Int) (u : Int), 0 ≤ u → divOk u xs = true → ∀ i, i < xs.length → 0 ≤ nth xs i ∧ nth xs i < u + xs.length
  | [], _, _, _, i, hi => by simp at hi
  | c :: r, u, hu, h, i, hi => by
    simp only [divOk, Bool.and_eq_true] at h
    have h1 := (inB_iff _ _ _).1 h.1
    cases i with
    | zero => simp [nth]; omega
    | succ i =>
      have := divOk_in r _ (by split <;> omega) h.2 i (by simpa using hi)
      simp [nth] at this ⊢
      split at this <;> omega
/-- Do class s and t go together under letter l? -/
def congAt (nx : List (List Int)) (cl : List Int) (l s t : Nat) : Prop := nth cl s = nth cl t → nth cl (nth (nth nx l) s).toNat = nth cl (nth (nth nx l) t).toNat
theorem congAt_symm {nx : List (List Int)} {cl : List Int} {l s t : Nat} (h : congAt nx cl l s t) : congAt nx cl l t s := fun e => (h e.symm).symm
theorem congAt_refl (nx : List (List Int)) (cl : List Int) (l s : Nat) : congAt nx cl l s s := fun _ => rfl
def congP (nx : List (List Int)) (cl : List Int) : Prop := ∀ l, l < nx.length → ∀ s, s < cl.length → ∀ t, t < cl.length → congAt nx cl l s t
open Classical in
noncomputable def congB (nx : List (List Int)) (cl : List Int) : Bool := decide (congP nx cl)
theorem congB_true {nx : List (List Int)} {cl : List Int} (h : congP nx cl) : congB nx cl = true := by unfold congB; simp [h]
theorem congB_false {nx : List (List Int)} {cl : List Int} (l s t : Nat) (hl : l < nx.length) (hs : s < cl.length) (ht : t < cl.length) (h1 : nth cl s = nth cl t) (h2 : nth cl (nth (nth nx l) s).toNat ≠ nth cl (nth (nth nx l) t).toNat) : congB nx cl = false := by
  have : ¬ congP nx cl := fun h => h2 (h l hl s hs t ht h1)
  unfold congB; simp [this]
noncomputable def IsCongruence (a : Aut) (cl : List Int) : Bool × Int := if autOk a = true then (if isDiv cl a.n = true then (congB a.nx cl, 0) else (false, 2)) else (false, 1)

end Go.Proofs.Ytnhjoiafadapaaa
