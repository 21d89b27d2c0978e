/- Partial automata, as plain tests; where words lead in them. -/
import Derived.Test.YtnoajdhofdfafaaBase
import Derived.Test.YtnoajdhofdfafaaAut
import Derived.Test.YtnoajdhofdfafaaPlain1
import Derived.Test.YtnoajdhofdfafaaPlainRun
import Derived.Test.YtnoajdhofdfafaaPlainSet
import Derived.Test.YtnoajdhofdfafaaPlainBits
import Derived.WalkKit
import Derived.WalkSpells
import Derived.WalkLawsBesides
import Derived.Deep.QuietTactic
import Derived.Deep.OwnRows
import Derived.BigQuiet
import Derived.KernelRfl
namespace Go.Proofs.Ytnoajdhofdfafaa
open Go.RowKit

def partRow (xs : List Int) (n : Int) : Bool := decide ((xs.length : Int) = n) && allIn xs (-1) (n - 1)
def partRows (xss : List (List Int)) (n : Int) : Bool := xss.all fun r => partRow r n
def partOk (a : Aut) : Bool := inB a.n 1 10 && (inB a.nx.length 1 3 && partRows a.nx a.n)
theorem partRows_iff (xss : List (List Int)) (n : Int) : partRows xss n = true ↔ ∀ i, i < xss.length → partRow (nth xss i) n = true := by
  unfold partRows
  rw [List.all_eq_true]
  constructor
  · intro h i hi; exact h _ (nth_mem xss i hi)
  · intro h x hx; obtain ⟨i, hi, rfl⟩ := mem_nth xss x hx; exact h i hi
theorem partRows_false (xss : List (List Int)) (n : Int) (i : Nat) (hi' : i < xss.length) (h : partRow (nth xss i) n = false) : partRows xss n = false := by
  cases e : partRows xss n with
  | false => rfl
  | true => rw [(partRows_iff xss n).1 e i hi'] at h; cases h
theorem partOk_parts {a : Aut} (h : partOk a = true) : (1 ≤ a.n ∧ a.n ≤ 10) ∧ (1 ≤ a.nx.length ∧ a.nx.length ≤ 3) ∧
    ∀ i, i < a.nx.length → ((nth a.nx i).length : Int) = a.n ∧ ∀ j, j < (nth a.nx i).length → -1 ≤ nth (nth a.nx i) j ∧ nth (nth a.nx i) j < a.n := by
  unfold partOk at h
  simp only [Bool.and_eq_true] at h
  obtain ⟨h1, h2, h3⟩ := h
  have h2' := (inB_iff _ _ _).1 h2
  refine ⟨(inB_iff _ _ _).1 h1, by omega, fun i hi => ?_⟩
  have := (partRows_iff _ _).1 h3 i hi
  unfold partRow at this
  rw [Bool.and_eq_true, decide_eq_true_eq] at this
  refine ⟨this.1, fun j hj => ?_⟩
  have := (inB_iff _ _ _).1 ((allIn_iff _ _ _).1 this.2 j hj)
  omega
/-- Is there a gap at a member below k? -/
def badB (row : List Int) (f k : Nat) : Bool := (List.range k).any fun s => f.testBit s && decide (nth row s < 0)
theorem badB_succ (row : List Int) (f k : Nat) : badB row f (k + 1) = (badB row f k || (f.testBit k && decide (nth row k < 0))) := by
  simp [badB, List.range_succ]
theorem badB_more {f n : Nat} (row : List Int) (h : f < 2 ^ n) : ∀ k, badB row f (n + k) = badB row f n
  | 0 => rfl
  | k + 1 => by rw [← Nat.add_assoc, badB_succ, testBit_ge h (by omega), badB_more row h k]; simp
theorem badB_eq {f n : Nat} (row : List Int) (h : f < 2 ^ n) (hn : n ≤ 10) : badB row f 10 = badB row f n := by
  have := badB_more row h (10 - n)
  rw [show n + (10 - n) = 10 by omega] at this; exact this
theorem badB_mono (row : List Int) (f k s : Nat) (hs : s < k) (hb : f.testBit s = true) (hn : nth row s < 0) : badB row f k = true := by
  unfold badB
  rw [List.any_eq_true]
  exact ⟨s, List.mem_range.2 hs, by simp [hb, hn]⟩
theorem badB_list (row : List Int) (f : Nat) : ∀ k, badB row f k = (bitsTo f k).any fun s => decide (nth row s.toNat < 0)
  | 0 => rfl
  | k + 1 => by
    rw [badB_succ, bitsTo_succ, badB_list row f k, List.any_append]
    congr 1
    cases f.testBit k <;> simp
/-- Where a letter leads a set; none at a gap. -/
def pstep (row : List Int) (f : Nat) : Option Nat := if badB row f 10 = true then none else some (moved row f)
def prun (nx : List (List Int)) (f : Nat) (ws : List Int) : Option Nat := ws.foldl (fun o l => o.bind fun g => pstep (nth nx l.toNat) g) (some f)
theorem prun_take (nx : List (List Int)) (f : Nat) (ws : List Int) (k : Nat) (h : k < ws.length) : prun nx f (ws.take (k + 1)) = (prun nx f (ws.take k)).bind fun g => pstep (nth nx (nth ws k).toNat) g := by
  rw [take_succ_nth ws k h]; simp [prun]
theorem prun_none (nx : List (List Int)) (f : Nat) (ws : List Int) (k : Nat) (hk : k ≤ ws.length) (h : prun nx f (ws.take k) = none) : prun nx f ws = none := by
  have key : ∀ d, k + d ≤ ws.length → prun nx f (ws.take (k + d)) = none := by
    intro d
    induction d with
    | zero => intro _; exact h
    | succ d ih => intro hd; rw [← Nat.add_assoc, prun_take _ _ _ _ (by omega), ih (by omega)]; rfl
  have := key (ws.length - k) (by omega)
  rwa [show k + (ws.length - k) = ws.length by omega, List.take_length] at this
theorem moved_lt {a : Aut} (l f : Nat) (hn : a.n ≤ 10) (hlen : ((nth a.nx l).length : Int) = a.n) (hr : ∀ j, j < (nth a.nx l).length → nth (nth a.nx l) j < a.n) (h0 : 1 ≤ a.n) (hf : f < 2 ^ a.n.toNat) : moved (nth a.nx l) f < 2 ^ a.n.toNat := by
  rw [moved_eq (nth a.nx l) hf (by omega)]
  refine moveB_lt _ _ _ _ fun i hi _ => ?_
  have := hr i (by omega)
  omega
theorem prun_lt {a : Aut} (ha : partOk a = true) (ws : List Int) (hw : letters a ws) (f : Nat) (hf : f < 2 ^ a.n.toNat) : ∀ k, k ≤ ws.length → ∀ g, prun a.nx f (ws.take k) = some g → g < 2 ^ a.n.toNat := by
  obtain ⟨h1, h2, h3⟩ := partOk_parts ha
  intro k
  induction k with
  | zero => intro _ g hg; simp [prun] at hg; omega
  | succ k ih =>
    intro hk g hg
    rw [prun_take _ _ _ _ (by omega)] at hg
    cases e : prun a.nx f (ws.take k) with
    | none => rw [e] at hg; cases hg
    | some x =>
      rw [e] at hg
      have hx := ih (by omega) x e
      simp [pstep] at hg
      obtain ⟨_, rfl⟩ := hg
      have hl := hw k (by omega)
      obtain ⟨r1, r2⟩ := h3 (nth ws k).toNat (by omega)
      exact moved_lt _ _ h1.2 r1 (fun j hj => (r2 j hj).2) h1.1 hx
def IsCareful (p : Aut) (ws : List Int) : Bool × Int :=
  if partOk p = true then (if wordOk p ws = true then ((match prun p.nx (full p.n) ws with | some g => smallB g | none => false), 0) else (false, 2)) else (false, 1)
theorem wordOk_len (a b : Aut) (ws : List Int) (h : a.nx.length = b.nx.length) : wordOk a ws = wordOk b ws := by unfold wordOk; rw [h]
theorem full_cast (n : Nat) (h : n ≤ 10) : ((full n : Nat) : Int) = 2 ^ n - 1 := by
  unfold full
  have := Nat.two_pow_pos n
  rw [cast_pow, Int.toNat_natCast]; omega
theorem full_cast' (n : Int) (h0 : 1 ≤ n) (h1 : n ≤ 10) : ((full n : Nat) : Int) = IntKind.u64.wrap (IntKind.u64.wrap (2 ^ n.toNat) - 1) := by
  have hp := pow10' n.toNat (by omega)
  have := Nat.two_pow_pos n.toNat
  rw [cast_pow, wrap_u64_nat _ (by omega), show ((2 ^ n.toNat : Nat) : Int) - 1 = ((2 ^ n.toNat - 1 : Nat) : Int) by omega, wrap_u64_nat _ (by omega)]
  rfl

end Go.Proofs.Ytnoajdhofdfafaa
