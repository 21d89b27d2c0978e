/- An automaton with two letters swapped at a state. -/
import Derived.Test.YtdaaglfemaoigaaRows
import Derived.Test.YtdaaglfemaoigaaBase
import Derived.Test.YtdaaglfemaoigaaAut
import Derived.Test.YtdaaglfemaoigaaPlain1
import Derived.Test.YtdaaglfemaoigaaPlainRun
import Derived.Test.YtdaaglfemaoigaaPlainSet
import Derived.Test.YtdaaglfemaoigaaPlainRen
import Derived.WalkKit
import Derived.WalkSpells
import Derived.WalkLawsBesides
import Derived.Deep.QuietTactic
import Derived.Deep.OwnRows
import Derived.BigQuiet
import Derived.KernelRfl
namespace Go.Proofs.Ytdaaglfemaoigaa
open Go.RowKit

def putAt (xss : List (List Int)) (i j : Nat) (z : Int) : List (List Int) := xss.set i ((nth xss i).set j z)
theorem putAt_len (xss : List (List Int)) (i j : Nat) (z : Int) : (putAt xss i j z).length = xss.length := by simp [putAt]
theorem putAt_rowlen (xss : List (List Int)) (i j k : Nat) (z : Int) (hi : i < xss.length) : (nth (putAt xss i j z) k).length = (nth xss k).length := by
  unfold putAt
  rw [nth_set _ _ _ _ hi]
  split
  · rename_i e; subst e; simp
  · rfl
def swapOf (a : Aut) (s x y : Int) : Aut := ⟨a.n, putAt (putAt a.nx x.toNat s.toNat (nth (nth a.nx y.toNat) s.toNat)) y.toNat s.toNat (nth (nth a.nx x.toNat) s.toNat)⟩
def swapIn (a : Aut) (s x y : Int) : Bool := inB s 0 (a.n - 1) && (inB x 0 ((a.nx.length : Int) - 1) && inB y 0 ((a.nx.length : Int) - 1))
def SwapColours (a : Aut) (s x y : Int) : Aut × Int := if autOk a = true then (if swapIn a s x y = true then (swapOf a s x y, 0) else (⟨0, []⟩, 2)) else (⟨0, []⟩, 1)
/-- A write into one row of an own list of lists. -/
theorem OwnRows.put {B E n c : Nat} {A : Option Addr} {w : World} {xss : List (List Int)} (h : OwnRows B E w (.slice A n c) xss) (i j : Nat) (hi : i < xss.length) (hj : j < (nth xss i).length) :
    ∃ b off b2 off2 c2, A = some ⟨b, off, none⟩ ∧ w.cell? ⟨b, off + i, none⟩ = some (.slice (some ⟨b2, off2, none⟩) (nth xss i).length c2) ∧ w.cell? ⟨b2, off2 + j, none⟩ = some (.int .i64 (nth (nth xss i) j)) ∧ w.frozen? ⟨b2, off2 + j, none⟩ = false ∧ B ≤ b2 ∧ b2 < E ∧
      ∀ z, OwnRows B E (w.setCell ⟨b2, off2 + j, none⟩ (.int .i64 z)) (.slice A n c) (putAt xss i j z) ∧ Within B E w (w.setCell ⟨b2, off2 + j, none⟩ (.int .i64 z)) := by
  obtain ⟨_, b, off, rv, rfl, hx, ho, hs⟩ := h.row i hi
  obtain ⟨A2, c2, rfl⟩ := ho.form
  obtain ⟨A', c', e, hl, ha, hc⟩ := id ho
  cases e
  obtain ⟨b2, off2, rfl, hy, hf⟩ := hc j hj
  have hb := ha _ rfl
  refine ⟨b, off, b2, off2, c2, rfl, hx, hy, hf, hb.1, hb.2, fun z => hs _ _ (ho.set j hj z) ?_⟩
  exact ⟨rfl, rfl, rfl, by simp [World.setCell], fun k _ hk => Below.heap_setCell _ _ _ _ (fun e => hk (by simp [Value.ownBlock, e]))⟩
/-- A row's block is not the frame's. -/
theorem OwnRows.row_ne {B E n c b off b2 off2 c2 m : Nat} {w : World} {xss : List (List Int)} (h : OwnRows B E w (.slice (some ⟨b, off, none⟩) n c) xss) (i : Nat) (hi : i < xss.length) (hx : w.cell? ⟨b, off + i, none⟩ = some (.slice (some ⟨b2, off2, none⟩) m c2)) : b2 ≠ b := by
  obtain ⟨A', c', rv, e, hl, ha, hc, hd⟩ := h
  cases e
  obtain ⟨⟨b', off', e, hx', hb⟩, ho⟩ := hc i hi
  cases e
  rw [hx] at hx'
  have e2 := Option.some.inj hx'
  rw [← e2] at hb
  simpa [Value.ownBlock] using hb

end Go.Proofs.Ytdaaglfemaoigaa
