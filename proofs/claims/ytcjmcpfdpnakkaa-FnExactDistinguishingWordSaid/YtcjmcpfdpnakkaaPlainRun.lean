/- Where letters and words lead. -/
import Derived.Test.YtcjmcpfdpnakkaaBase
import Derived.Test.YtcjmcpfdpnakkaaAut
import Derived.Test.YtcjmcpfdpnakkaaPlain1
import Derived.WalkKit
import Derived.WalkSpells
import Derived.WalkLawsBesides
import Derived.Deep.QuietTactic
import Derived.Deep.OwnRows
import Derived.BigQuiet
import Derived.KernelRfl
namespace Go.Proofs.Ytcjmcpfdpnakkaa
open Go.RowKit

def stepOf (nx : List (List Int)) (s l : Int) : Int := nth (nth nx l.toNat) s.toNat
def runOf (nx : List (List Int)) (s : Int) (ws : List Int) : Int := ws.foldl (stepOf nx) s
def actOf (a : Aut) (ws : List Int) : List Int := (iota 0 a.n.toNat).map fun s => runOf a.nx s ws
theorem runOf_snoc (nx : List (List Int)) (s : Int) (ws : List Int) (l : Int) : runOf nx s (ws ++ [l]) = stepOf nx (runOf nx s ws) l := by simp [runOf]
theorem runOf_take (nx : List (List Int)) (s : Int) (ws : List Int) (k : Nat) (h : k < ws.length) : runOf nx s (ws.take (k + 1)) = stepOf nx (runOf nx s (ws.take k)) (nth ws k) := by
  rw [take_succ_nth ws k h, runOf_snoc]
theorem mapOk_iff (xs : List Int) (n : Int) : mapOk xs n = true ↔ (xs.length : Int) = n ∧ ∀ i, i < xs.length → 0 ≤ nth xs i ∧ nth xs i < n := by
  unfold mapOk
  rw [Bool.and_eq_true, allIn_iff, decide_eq_true_eq]
  constructor
  · rintro ⟨h1, h2⟩; exact ⟨h2, fun i hi => by have := (inB_iff _ _ _).1 (h1 i hi); omega⟩
  · rintro ⟨h1, h2⟩; exact ⟨fun i hi => (inB_iff _ _ _).2 (by have := h2 i hi; omega), h1⟩
theorem autOk_row {a : Aut} (h : autOk a = true) (l : Nat) (hl : l < a.nx.length) : ((nth a.nx l).length : Int) = a.n ∧ ∀ i, i < (nth a.nx l).length → 0 ≤ nth (nth a.nx l) i ∧ nth (nth a.nx l) i < a.n :=
  (mapOk_iff _ _).1 (((autOk_iff a).1 h).2.2 l hl)
theorem autOk_n {a : Aut} (h : autOk a = true) : 1 ≤ a.n ∧ a.n ≤ 10 := ((autOk_iff a).1 h).1
theorem autOk_l {a : Aut} (h : autOk a = true) : 1 ≤ a.nx.length ∧ a.nx.length ≤ 3 := ((autOk_iff a).1 h).2.1
theorem wordOk_iff (a : Aut) (ws : List Int) : wordOk a ws = true ↔ ws.length ≤ 400 ∧ ∀ i, i < ws.length → 0 ≤ nth ws i ∧ nth ws i < a.nx.length := by
  unfold wordOk
  rw [Bool.and_eq_true, allIn_iff, decide_eq_true_eq]
  constructor
  · rintro ⟨h1, h2⟩; exact ⟨h2, fun i hi => by have := (inB_iff _ _ _).1 (h1 i hi); omega⟩
  · rintro ⟨h1, h2⟩; exact ⟨fun i hi => (inB_iff _ _ _).2 (by have := h2 i hi; omega), h1⟩
theorem stepOf_in {a : Aut} (h : autOk a = true) (s l : Int) (hs : 0 ≤ s ∧ s < a.n) (hl : 0 ≤ l ∧ l < a.nx.length) : 0 ≤ stepOf a.nx s l ∧ stepOf a.nx s l < a.n := by
  obtain ⟨h1, h2⟩ := autOk_row h l.toNat (by omega)
  exact h2 s.toNat (by omega)
/-- A word all of whose letters are letters. -/
def letters (a : Aut) (ws : List Int) : Prop := ∀ i, i < ws.length → 0 ≤ nth ws i ∧ nth ws i < a.nx.length
theorem letters_of {a : Aut} {ws : List Int} (h : wordOk a ws = true) : letters a ws := ((wordOk_iff a ws).1 h).2
theorem runOf_in {a : Aut} (h : autOk a = true) (ws : List Int) (hw : letters a ws) (s : Int) (hs : 0 ≤ s ∧ s < a.n) : ∀ k, k ≤ ws.length → 0 ≤ runOf a.nx s (ws.take k) ∧ runOf a.nx s (ws.take k) < a.n := by
  intro k
  induction k with
  | zero => intro _; simpa [runOf] using hs
  | succ k ih =>
    intro hk
    rw [runOf_take _ _ _ _ (by omega)]
    exact stepOf_in h _ _ (ih (by omega)) (hw k (by omega))
def ActionOf (a : Aut) (ws : List Int) : List Int × Int := if autOk a = true then (if wordOk a ws = true then (actOf a ws, 0) else ([], 2)) else ([], 1)
theorem iota_snoc (k : Int) (n : Nat) : iota k (n + 1) = iota k n ++ [k + n] := by simp [iota, List.range_succ]

end Go.Proofs.Ytcjmcpfdpnakkaa
