/- Automata with choices, as plain tests; where words lead in them. -/
import Derived.Test.YtoeckejcmojeaaaCore
import Derived.Test.YtoeckejcmojeaaaArrs
import Derived.Test.YtoeckejcmojeaaaPlains
import Derived.WalkKit
import Derived.WalkSpells
import Derived.WalkLawsBesides
import Derived.Deep.QuietTactic
import Derived.Deep.OwnRows
import Derived.BigQuiet
import Derived.KernelRfl
namespace Go.Proofs.Ytoeckejcmojeaaa
open Go.RowKit

def setsOk (x : List (List Int)) (n : Int) : Bool := x.all fun s => setB s n
def choRow (x : List (List Int)) (n : Int) : Bool := decide ((x.length : Int) = n) && setsOk x n
def choRows (c : List (List (List Int))) (n : Int) : Bool := c.all fun x => choRow x n
def choOk (c : Cho) : Bool := inB c.n 1 10 && (inB c.nx.length 1 3 && choRows c.nx c.n)
theorem setsOk_iff (x : List (List Int)) (n : Int) : setsOk x n = true ↔ ∀ i, i < x.length → setB (nth x i) n = true := by
  unfold setsOk
  rw [List.all_eq_true]
  constructor
  · intro h i hi; exact h _ (nth_mem x i hi)
  · intro h y hy; obtain ⟨i, hi, rfl⟩ := mem_nth x y hy; exact h i hi
theorem setsOk_false (x : List (List Int)) (n : Int) (i : Nat) (hi' : i < x.length) (h : setB (nth x i) n = false) : setsOk x n = false := by
  cases e : setsOk x n with
  | false => rfl
  | true => rw [(setsOk_iff x n).1 e i hi'] at h; cases h
theorem choRows_iff (c : List (List (List Int))) (n : Int) : choRows c n = true ↔ ∀ i, i < c.length → choRow (nth c i) n = true := by
  unfold choRows
  rw [List.all_eq_true]
  constructor
  · intro h i hi; exact h _ (nth_mem c i hi)
  · intro h y hy; obtain ⟨i, hi, rfl⟩ := mem_nth c y hy; exact h i hi
theorem choRows_false (c : List (List (List Int))) (n : Int) (i : Nat) (hi' : i < c.length) (h : choRow (nth c i) n = false) : choRows c n = false := by
  cases e : choRows c n with
  | false => rfl
  | true => rw [(choRows_iff c n).1 e i hi'] at h; cases h
theorem choOk_parts {c : Cho} (h : choOk c = true) : (1 ≤ c.n ∧ c.n ≤ 10) ∧ (1 ≤ c.nx.length ∧ c.nx.length ≤ 3) ∧
    ∀ i, i < c.nx.length → ((nth c.nx i).length : Int) = c.n ∧ ∀ j, j < (nth c.nx i).length → setB (nth (nth c.nx i) j) c.n = true := by
  unfold choOk at h
  simp only [Bool.and_eq_true] at h
  obtain ⟨h1, h2, h3⟩ := h
  have h2' := (inB_iff _ _ _).1 h2
  refine ⟨(inB_iff _ _ _).1 h1, by omega, fun i hi => ?_⟩
  have := (choRows_iff _ _).1 h3 i hi
  unfold choRow at this
  rw [Bool.and_eq_true, decide_eq_true_eq, setsOk_iff] at this
  exact this
/-- Where a letter leads the members below k. -/
def choB (row : List (List Int)) (f k : Nat) : Nat := (List.range k).foldl (fun acc s => if f.testBit s = true then acc ||| orB (nth row s) else acc) 0
theorem choB_zero (row : List (List Int)) (f : Nat) : choB row f 0 = 0 := rfl
theorem choB_succ (row : List (List Int)) (f k : Nat) : choB row f (k + 1) = if f.testBit k = true then choB row f k ||| orB (nth row k) else choB row f k := by
  simp [choB, List.range_succ]
theorem choB_more {f n : Nat} (row : List (List Int)) (h : f < 2 ^ n) : ∀ k, choB row f (n + k) = choB row f n
  | 0 => rfl
  | k + 1 => by rw [← Nat.add_assoc, choB_succ, testBit_ge h (by omega), choB_more row h k]; simp
def choMove (row : List (List Int)) (f : Nat) : Nat := choB row f 10
theorem choMove_eq {f n : Nat} (row : List (List Int)) (h : f < 2 ^ n) (hn : n ≤ 10) : choMove row f = choB row f n := by
  have := choB_more row h (10 - n)
  rw [show n + (10 - n) = 10 by omega] at this; exact this
theorem choB_lt (row : List (List Int)) (f n : Nat) : ∀ k, (∀ i, i < k → f.testBit i = true → orB (nth row i) < 2 ^ n) → choB row f k < 2 ^ n
  | 0, _ => by simp [choB_zero, Nat.two_pow_pos]
  | k + 1, h => by
    have ih := choB_lt row f n k (fun i hi => h i (by omega))
    rw [choB_succ]
    split
    · rename_i hb
      exact Nat.or_lt_two_pow ih (h k (by omega) hb)
    · exact ih
/-- The union of some sets. -/
def orsB (xs : List Nat) : Nat := xs.foldl (fun acc s => acc ||| s) 0
theorem orsB_snoc (xs : List Nat) (x : Nat) : orsB (xs ++ [x]) = orsB xs ||| x := by simp [orsB]
theorem orsB_take (xs : List Nat) (k : Nat) (h : k < xs.length) : orsB (xs.take (k + 1)) = orsB (xs.take k) ||| nth xs k := by
  rw [take_succ_nth xs k h, orsB_snoc]
theorem orsB_lt (xs : List Nat) (n : Nat) (h : ∀ x, x ∈ xs → x < 2 ^ n) : orsB xs < 2 ^ n := by
  induction xs using snoc_ind with
  | h0 => simp [orsB, Nat.two_pow_pos]
  | h1 xs x ih =>
    rw [orsB_snoc]
    exact Nat.or_lt_two_pow (ih fun y hy => h y (by simp [hy])) (h x (by simp))
theorem choB_list (row : List (List Int)) (f : Nat) : ∀ k, choB row f k = orsB ((bitsTo f k).map fun s => orB (nth row s.toNat))
  | 0 => rfl
  | k + 1 => by
    rw [choB_succ, bitsTo_succ, choB_list row f k]
    split <;> simp [orsB]
def choRun (nx : List (List (List Int))) (f : Nat) (ws : List Int) : Nat := ws.foldl (fun g l => choMove (nth nx l.toNat) g) f
theorem choRun_take (nx : List (List (List Int))) (f : Nat) (ws : List Int) (k : Nat) (h : k < ws.length) : choRun nx f (ws.take (k + 1)) = choMove (nth nx (nth ws k).toNat) (choRun nx f (ws.take k)) := by
  rw [take_succ_nth ws k h]; simp [choRun]
theorem cho_orB {c : Cho} (h : choOk c = true) (l s : Nat) (hl : l < c.nx.length) (hs : s < c.n.toNat) : orB (nth (nth c.nx l) s) < 2 ^ c.n.toNat := by
  obtain ⟨h1, _, h3⟩ := choOk_parts h
  obtain ⟨r1, r2⟩ := h3 l hl
  refine orB_lt _ _ fun x hx => ?_
  obtain ⟨i, hi, rfl⟩ := mem_nth _ x hx
  have := setB_in (r2 s (by omega)) i hi
  omega
theorem choMove_lt {c : Cho} (h : choOk c = true) (l f : Nat) (hl : l < c.nx.length) (hf : f < 2 ^ c.n.toNat) : choMove (nth c.nx l) f < 2 ^ c.n.toNat := by
  have h1 := (choOk_parts h).1
  rw [choMove_eq _ hf (by omega)]
  exact choB_lt _ _ _ _ fun i hi _ => cho_orB h l i hl (by omega)
theorem choRun_lt {c : Cho} (h : choOk c = true) (ws : List Int) (hw : ∀ i, i < ws.length → 0 ≤ nth ws i ∧ nth ws i < c.nx.length) (f : Nat) (hf : f < 2 ^ c.n.toNat) : ∀ k, k ≤ ws.length → choRun c.nx f (ws.take k) < 2 ^ c.n.toNat := by
  intro k
  induction k with
  | zero => intro _; simpa [choRun] using hf
  | succ k ih =>
    intro hk
    rw [choRun_take _ _ _ _ (by omega)]
    have := hw k (by omega)
    exact choMove_lt h _ _ (by omega) (ih (by omega))
/-- The shape of an automaton with choices: lists that are not read. -/
def Cho.shape (c : Cho) : Aut := ⟨c.n, List.replicate c.nx.length []⟩
def ReachBy (c : Cho) (set ws : List Int) : List Int × Int :=
  if choOk c = true then (if (setB set c.n && wordOk c.shape ws) = true then (setOf (choRun c.nx (orB set) ws), 0) else ([], 2)) else ([], 1)
theorem ReachBy_len (c : Cho) (set ws : List Int) : (ReachBy c set ws).1.length ≤ 1048576 := by
  unfold ReachBy
  split
  · split
    · have := bitsTo_len (choRun c.nx (orB set) ws) 10; unfold setOf; simp only; omega
    · simp
  · simp
/-- Do sets, one at least, direct in a way? -/
def directB (xs : List Nat) (kind : Int) : Bool :=
  if kind = 1 then (xs.all fun x => x == nth xs 0) && (!(nth xs 0 == 0) && smallB (nth xs 0))
  else if kind = 2 then xs.all fun x => x == nth xs 0
  else !(xs.foldl (fun a x => a &&& x) (nth xs 0) == 0)
def reachList (c : Cho) (ws : List Int) : List Nat := (List.range c.n.toNat).map fun s => choRun c.nx (2 ^ s) ws
def Directs (c : Cho) (ws : List Int) (kind : Int) : Bool × Int :=
  if choOk c = true then (if (wordOk c.shape ws && inB kind 1 3) = true then (directB (reachList c ws) kind, 0) else (false, 2)) else (false, 1)

end Go.Proofs.Ytoeckejcmojeaaa
