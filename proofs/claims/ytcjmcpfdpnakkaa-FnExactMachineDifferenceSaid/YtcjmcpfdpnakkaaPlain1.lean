/- What automata, words, sets and divisions are, as plain tests. -/
import Derived.Test.YtcjmcpfdpnakkaaBase
import Derived.Test.YtcjmcpfdpnakkaaAut
import Derived.WalkKit
import Derived.WalkSpells
import Derived.WalkLawsBesides
import Derived.Deep.QuietTactic
import Derived.Deep.OwnRows
import Derived.BigQuiet
import Derived.KernelRfl
namespace Go.Proofs.Ytcjmcpfdpnakkaa
open Go.RowKit

/-- From lo to hi. -/
def inB (x lo hi : Int) : Bool := decide (lo ≤ x) && decide (x ≤ hi)
theorem inB_iff (x lo hi : Int) : inB x lo hi = true ↔ lo ≤ x ∧ x ≤ hi := by simp [inB]
theorem inB_false (x lo hi : Int) : inB x lo hi = false ↔ x < lo ∨ hi < x := by
  unfold inB; rw [Bool.and_eq_false_iff]; simp
def allIn (xs : List Int) (lo hi : Int) : Bool := xs.all fun x => inB x lo hi
theorem allIn_iff (xs : List Int) (lo hi : Int) : allIn xs lo hi = true ↔ ∀ i, i < xs.length → inB (nth xs i) lo hi = true := by
  unfold allIn
  rw [List.all_eq_true]
  constructor
  · intro h i hi; exact h _ (nth_mem xs i hi)
  · intro h x hx; obtain ⟨i, hi, rfl⟩ := mem_nth xs x hx; exact h i hi
theorem allIn_false (xs : List Int) (lo hi : Int) (i : Nat) (hi' : i < xs.length) (h : inB (nth xs i) lo hi = false) : allIn xs lo hi = false := by
  cases e : allIn xs lo hi with
  | false => rfl
  | true => rw [(allIn_iff xs lo hi).1 e i hi'] at h; cases h
/-- A list that leads from n states to n states. -/
def mapOk (xs : List Int) (n : Int) : Bool := allIn xs 0 (n - 1) && decide ((xs.length : Int) = n)
def rowsOk (xss : List (List Int)) (n : Int) : Bool := xss.all fun r => mapOk r n
theorem rowsOk_iff (xss : List (List Int)) (n : Int) : rowsOk xss n = true ↔ ∀ i, i < xss.length → mapOk (nth xss i) n = true := by
  unfold rowsOk
  rw [List.all_eq_true]
  constructor
  · intro h i hi; exact h _ (nth_mem xss i hi)
  · intro h x hx; obtain ⟨i, hi, rfl⟩ := mem_nth xss x hx; exact h i hi
theorem rowsOk_false (xss : List (List Int)) (n : Int) (i : Nat) (hi' : i < xss.length) (h : mapOk (nth xss i) n = false) : rowsOk xss n = false := by
  cases e : rowsOk xss n with
  | false => rfl
  | true => rw [(rowsOk_iff xss n).1 e i hi'] at h; cases h
def autOk (a : Aut) : Bool := inB a.n 1 10 && inB a.nx.length 1 3 && rowsOk a.nx a.n
def wordOk (a : Aut) (ws : List Int) : Bool := allIn ws 0 ((a.nx.length : Int) - 1) && decide (ws.length ≤ 400)
theorem autOk_iff (a : Aut) : autOk a = true ↔ (1 ≤ a.n ∧ a.n ≤ 10) ∧ (1 ≤ a.nx.length ∧ a.nx.length ≤ 3) ∧ ∀ i, i < a.nx.length → mapOk (nth a.nx i) a.n = true := by
  unfold autOk
  rw [Bool.and_eq_true, Bool.and_eq_true, inB_iff, inB_iff, rowsOk_iff]
  constructor
  · rintro ⟨⟨h1, h2⟩, h3⟩; exact ⟨h1, by omega, h3⟩
  · rintro ⟨h1, h2, h3⟩; exact ⟨⟨h1, by omega⟩, h3⟩
/-- A pointer to an automaton. -/
def PAut (w : World) (v : Value) (a : Aut) : Prop := ∃ b rv, v = .pointer (some ⟨b, 0, none⟩) ∧ w.cell? ⟨b, 0, none⟩ = some (.int .i64 a.n) ∧ w.cell? ⟨b, 1, none⟩ = some rv ∧ RowsAt w rv a.nx
theorem PAut.new {w w' : World} {v : Value} {a : Aut} (h : PAut w v a) (hw : New w w') : PAut w' v a :=
  let ⟨b, rv, e, h1, h2, h3⟩ := h; ⟨b, rv, e, hw.cell h1, hw.cell h2, h3.new hw⟩
/-- What a boxed automaton is. -/
theorem PAut.box {w : World} {A : Option Addr} {c : Nat} {a : Aut} (h : RowsAt w (.slice A a.nx.length c) a.nx) (t : TypeId) : PAut (w.alloc (.cells #[.int .i64 a.n, .slice A a.nx.length c] t)) (.pointer (some ⟨w.heap.size, 0, none⟩)) a :=
  ⟨_, _, rfl, by unfold World.cell?; rw [heap_alloc_new]; rfl, by unfold World.cell?; rw [heap_alloc_new]; rfl, h.new ((New.refl _).alloc _)⟩

end Go.Proofs.Ytcjmcpfdpnakkaa
