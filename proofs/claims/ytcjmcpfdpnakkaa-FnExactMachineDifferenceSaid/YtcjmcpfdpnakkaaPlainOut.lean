/- The outputs of a machine for a word; homing and telling words. -/
import Derived.Test.YtcjmcpfdpnakkaaBase
import Derived.Test.YtcjmcpfdpnakkaaAut
import Derived.Test.YtcjmcpfdpnakkaaMach
import Derived.Test.YtcjmcpfdpnakkaaPlain1
import Derived.Test.YtcjmcpfdpnakkaaPlainRun
import Derived.Test.YtcjmcpfdpnakkaaPMach
import Derived.Test.YtcjmcpfdpnakkaaAppRows
import Derived.WalkKit
import Derived.WalkSpells
import Derived.WalkLawsBesides
import Derived.Deep.QuietTactic
import Derived.Deep.OwnRows
import Derived.BigQuiet
import Derived.KernelRfl
namespace Go.Proofs.Ytcjmcpfdpnakkaa
open Go.RowKit

theorem machOk_parts {m : Mach} (h : machOk m = true) : autOk m.aut = true ∧ (1 ≤ m.o ∧ m.o ≤ 3) ∧ m.out.length = m.nx.length ∧
    ∀ i, i < m.out.length → ((nth m.out i).length : Int) = m.n ∧ ∀ j, j < (nth m.out i).length → 0 ≤ nth (nth m.out i) j ∧ nth (nth m.out i) j < m.o := by
  unfold machOk at h
  simp only [Bool.and_eq_true, decide_eq_true_eq] at h
  obtain ⟨h1, h2, h3, h4⟩ := h
  refine ⟨h1, (inB_iff _ _ _).1 h2, h3, fun i hi => ?_⟩
  have := (outsOk_iff m).1 h4 i hi
  unfold outOk at this
  simp only [Bool.and_eq_true, decide_eq_true_eq] at this
  refine ⟨this.1, fun j hj => ?_⟩
  have := (inB_iff _ _ _).1 ((allIn_iff _ _ _).1 this.2 j hj)
  omega
def outsTo (m : Mach) (s : Int) (ws : List Int) (k : Nat) : List Int := (List.range k).map fun i => nth (nth m.out (nth ws i).toNat) (runOf m.nx s (ws.take i)).toNat
def outsOf (m : Mach) (s : Int) (ws : List Int) : List Int := outsTo m s ws ws.length
theorem outsTo_succ (m : Mach) (s : Int) (ws : List Int) (k : Nat) : outsTo m s ws (k + 1) = outsTo m s ws k ++ [nth (nth m.out (nth ws k).toNat) (runOf m.nx s (ws.take k)).toNat] := list_range_snoc _ _
theorem outsTo_len (m : Mach) (s : Int) (ws : List Int) (k : Nat) : (outsTo m s ws k).length = k := by simp [outsTo]
def OutputsOf (m : Mach) (s : Int) (ws : List Int) : List Int × Int × Int :=
  if machOk m = true then (if (inB s 0 (m.n - 1) && wordOk m.aut ws) = true then (outsOf m s ws, runOf m.nx s ws, 0) else ([], 0, 2)) else ([], 0, 1)
/-- Are two states told apart: before (tl), or afterwards? -/
def pairOk (m : Mach) (ws : List Int) (tl : Bool) (s t : Nat) : Bool := !(decide (outsOf m s ws = outsOf m t ws) && (tl || !decide (runOf m.nx s ws = runOf m.nx t ws)))
def tellsB (m : Mach) (ws : List Int) (tl : Bool) : Bool := (List.range m.n.toNat).all fun s => (List.range s).all fun t => pairOk m ws tl s t
theorem tellsB_iff (m : Mach) (ws : List Int) (tl : Bool) : tellsB m ws tl = true ↔ ∀ s, s < m.n.toNat → ∀ t, t < s → pairOk m ws tl s t = true := by
  unfold tellsB; simp [List.all_eq_true]
theorem tellsB_false (m : Mach) (ws : List Int) (tl : Bool) (s t : Nat) (hs : s < m.n.toNat) (ht : t < s) (h : pairOk m ws tl s t = false) : tellsB m ws tl = false := by
  cases e : tellsB m ws tl with
  | false => rfl
  | true => rw [(tellsB_iff m ws tl).1 e s hs t ht] at h; cases h
def Tells (m : Mach) (ws : List Int) (tl : Bool) : Bool × Int := if machOk m = true then (if wordOk m.aut ws = true then (tellsB m ws tl, 0) else (false, 2)) else (false, 1)

end Go.Proofs.Ytcjmcpfdpnakkaa
