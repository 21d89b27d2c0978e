/- Sets of states, as plain tests. -/
import Derived.Test.YtcjmcpfdpnakkaaBase
import Derived.Test.YtcjmcpfdpnakkaaAut
import Derived.Test.YtcjmcpfdpnakkaaPlain1
import Derived.Test.YtcjmcpfdpnakkaaPlainRun
import Derived.WalkKit
import Derived.WalkSpells
import Derived.WalkLawsBesides
import Derived.Deep.QuietTactic
import Derived.Deep.OwnRows
import Derived.BigQuiet
import Derived.KernelRfl
namespace Go.Proofs.Ytcjmcpfdpnakkaa
open Go.RowKit

/-- Is the i-th element right for a rising list from lo to hi? -/
def riseAt (xs : List Int) (lo hi : Int) (i : Nat) : Bool := inB (nth xs i) lo hi && (i == 0 || decide (nth xs (i - 1) < nth xs i))
def riseB (xs : List Int) (lo hi : Int) : Bool := (List.range xs.length).all fun i => riseAt xs lo hi i
def setB (xs : List Int) (n : Int) : Bool := riseB xs 0 (n - 1)
theorem riseB_iff (xs : List Int) (lo hi : Int) : riseB xs lo hi = true ↔ ∀ i, i < xs.length → riseAt xs lo hi i = true := by
  unfold riseB; rw [List.all_eq_true]; simp
theorem riseB_false (xs : List Int) (lo hi : Int) (i : Nat) (hi' : i < xs.length) (h : riseAt xs lo hi i = false) : riseB xs lo hi = false := by
  cases e : riseB xs lo hi with
  | false => rfl
  | true => rw [(riseB_iff xs lo hi).1 e i hi'] at h; cases h
theorem setB_in {xs : List Int} {n : Int} (h : setB xs n = true) (i : Nat) (hi : i < xs.length) : 0 ≤ nth xs i ∧ nth xs i < n := by
  have := (riseB_iff _ _ _).1 h i hi
  unfold riseAt at this
  rw [Bool.and_eq_true, inB_iff] at this
  omega
theorem setB_lt {xs : List Int} {n : Int} (h : setB xs n = true) (i : Nat) (hi : i + 1 < xs.length) : nth xs i < nth xs (i + 1) := by
  have := (riseB_iff _ _ _).1 h (i + 1) hi
  unfold riseAt at this
  rw [Bool.and_eq_true] at this
  simpa using this.2
theorem setB_mono {xs : List Int} {n : Int} (h : setB xs n = true) (i j : Nat) (hij : i < j) (hj : j < xs.length) : nth xs i < nth xs j := by
  induction j with
  | zero => omega
  | succ j ih =>
    have h1 := setB_lt h j hj
    rcases Nat.lt_succ_iff_lt_or_eq.1 hij with h2 | h2
    · have := ih h2 (by omega); omega
    · subst h2; exact h1
theorem setB_len {xs : List Int} {n : Int} (h : setB xs n = true) (h0 : 0 ≤ n) : (xs.length : Int) ≤ n := by
  have key : ∀ i, i < xs.length → (i : Int) ≤ nth xs i := by
    intro i
    induction i with
    | zero => intro hi; exact (setB_in h 0 hi).1
    | succ i ih => intro hi; have := ih (by omega); have := setB_lt h i hi; omega
  cases e : xs.length with
  | zero => simpa using h0
  | succ k => have := key k (by omega); have := (setB_in h k (by omega)).2; omega
/-- Is n in the list? -/
def hasB (xs : List Int) (n : Int) : Bool := xs.any fun x => decide (x = n)
theorem hasB_iff (xs : List Int) (n : Int) : hasB xs n = true ↔ n ∈ xs := by
  unfold hasB; rw [List.any_eq_true]
  constructor
  · rintro ⟨x, hx, h⟩; rw [decide_eq_true_eq] at h; subst h; exact hx
  · intro h; exact ⟨n, h, by simp⟩
def preOf (a : Aut) (set ws : List Int) : List Int := (iota 0 a.n.toNat).filter fun s => hasB set (runOf a.nx s ws)
def PreimageOf (a : Aut) (set ws : List Int) : List Int × Int := if autOk a = true then (if (setB set a.n && wordOk a ws) = true then (preOf a set ws, 0) else ([], 2)) else ([], 1)

end Go.Proofs.Ytcjmcpfdpnakkaa
