/- Sets of states as bits. -/
import Derived.Test.YtcjmcpfdpnakkaaBase
import Derived.Test.YtcjmcpfdpnakkaaAut
import Derived.Test.YtcjmcpfdpnakkaaPlain1
import Derived.Test.YtcjmcpfdpnakkaaPlainRun
import Derived.Test.YtcjmcpfdpnakkaaPlainSet
import Derived.WalkKit
import Derived.WalkSpells
import Derived.WalkLawsBesides
import Derived.Deep.QuietTactic
import Derived.Deep.OwnRows
import Derived.BigQuiet
import Derived.KernelRfl
import Derived.Laws.BitsAllLaws
import Derived.Laws.BitsLemmas
import Derived.Laws.ShiftsVarLaws
namespace Go.Proofs.Ytcjmcpfdpnakkaa
open Go.RowKit

theorem snoc_ind {α : Type} {P : List α → Prop} (h0 : P []) (h1 : ∀ xs x, P xs → P (xs ++ [x])) (xs : List α) : P xs := by
  have key : ∀ ys : List α, P ys.reverse := by
    intro ys
    induction ys with
    | nil => exact h0
    | cons y r ih => rw [List.reverse_cons]; exact h1 _ _ ih
  have := key xs.reverse
  rwa [List.reverse_reverse] at this
/-- The members below k of a set as bits. -/
def bitsTo (f k : Nat) : List Int := (iota 0 k).filter fun s => f.testBit s.toNat
/-- A set of at most ten states. -/
def setOf (f : Nat) : List Int := bitsTo f 10
theorem bitsTo_zero (f : Nat) : bitsTo f 0 = [] := rfl
theorem bitsTo_succ (f k : Nat) : bitsTo f (k + 1) = bitsTo f k ++ if f.testBit k = true then [(k : Int)] else [] := by
  unfold bitsTo
  rw [iota_snoc, List.filter_append]
  congr 1
  rw [Int.zero_add]
  simp [List.filter_cons]
theorem testBit_ge {f n i : Nat} (h : f < 2 ^ n) (hi : n ≤ i) : f.testBit i = false :=
  Nat.testBit_lt_two_pow (Nat.lt_of_lt_of_le h (Nat.pow_le_pow_right (by decide) hi))
theorem bitsTo_more {f n : Nat} (h : f < 2 ^ n) : ∀ k, bitsTo f (n + k) = bitsTo f n
  | 0 => rfl
  | k + 1 => by rw [← Nat.add_assoc, bitsTo_succ, testBit_ge h (by omega), bitsTo_more h k]; simp
theorem setOf_eq {f n : Nat} (h : f < 2 ^ n) (hn : n ≤ 10) : setOf f = bitsTo f n := by
  have := bitsTo_more h (10 - n)
  rw [show n + (10 - n) = 10 by omega] at this; exact this
theorem bitsTo_len (f k : Nat) : (bitsTo f k).length ≤ k := by
  have := List.length_filter_le (fun s : Int => f.testBit s.toNat) (iota 0 k)
  rw [iota_length] at this; exact this
theorem mem_iota (k : Int) (n : Nat) (x : Int) : x ∈ iota k n ↔ k ≤ x ∧ x < k + n := by
  unfold iota
  simp only [List.mem_map, List.mem_range]
  constructor
  · rintro ⟨i, hi, rfl⟩; omega
  · rintro ⟨h1, h2⟩; exact ⟨(x - k).toNat, by omega, by omega⟩
theorem mem_bitsTo (f k : Nat) (x : Int) : x ∈ bitsTo f k ↔ 0 ≤ x ∧ x < k ∧ f.testBit x.toNat = true := by
  unfold bitsTo
  rw [List.mem_filter]
  have := mem_iota 0 k x
  constructor
  · rintro ⟨h1, h2⟩; have := this.1 h1; exact ⟨by omega, by omega, h2⟩
  · rintro ⟨h1, h2, h3⟩; exact ⟨this.2 ⟨by omega, by omega⟩, h3⟩
/-- Where a letter leads the members below k. -/
def moveB (row : List Int) (f k : Nat) : Nat := (List.range k).foldl (fun acc s => if f.testBit s = true then acc ||| 2 ^ (nth row s).toNat else acc) 0
theorem moveB_zero (row : List Int) (f : Nat) : moveB row f 0 = 0 := rfl
theorem moveB_succ (row : List Int) (f k : Nat) : moveB row f (k + 1) = if f.testBit k = true then moveB row f k ||| 2 ^ (nth row k).toNat else moveB row f k := by
  simp [moveB, List.range_succ]
theorem moveB_more {f n : Nat} (row : List Int) (h : f < 2 ^ n) : ∀ k, moveB row f (n + k) = moveB row f n
  | 0 => rfl
  | k + 1 => by rw [← Nat.add_assoc, moveB_succ, testBit_ge h (by omega), moveB_more row h k]; simp
def moved (row : List Int) (f : Nat) : Nat := moveB row f 10
theorem moved_eq {f n : Nat} (row : List Int) (h : f < 2 ^ n) (hn : n ≤ 10) : moved row f = moveB row f n := by
  have := moveB_more row h (10 - n)
  rw [show n + (10 - n) = 10 by omega] at this; exact this
theorem moveB_lt (row : List Int) (f n : Nat) : ∀ k, (∀ i, i < k → f.testBit i = true → (nth row i).toNat < n) → moveB row f k < 2 ^ n
  | 0, _ => by simp [moveB_zero, Nat.two_pow_pos]
  | k + 1, h => by
    have ih := moveB_lt row f n k (fun i hi => h i (by omega))
    rw [moveB_succ]
    split
    · rename_i hb
      exact Nat.or_lt_two_pow ih (Nat.pow_lt_pow_right (by decide) (h k (by omega) hb))
    · exact ih
/-- Members of a list, as bits. -/
def orB (xs : List Int) : Nat := xs.foldl (fun acc s => acc ||| 2 ^ s.toNat) 0
theorem orB_snoc (xs : List Int) (x : Int) : orB (xs ++ [x]) = orB xs ||| 2 ^ x.toNat := by simp [orB]
theorem orB_take (xs : List Int) (k : Nat) (h : k < xs.length) : orB (xs.take (k + 1)) = orB (xs.take k) ||| 2 ^ (nth xs k).toNat := by
  rw [take_succ_nth xs k h, orB_snoc]
theorem orB_lt (xs : List Int) (n : Nat) (h : ∀ x, x ∈ xs → x.toNat < n) : orB xs < 2 ^ n := by
  induction xs using snoc_ind with
  | h0 => simp [orB, Nat.two_pow_pos]
  | h1 xs x ih =>
    rw [orB_snoc]
    exact Nat.or_lt_two_pow (ih fun y hy => h y (by simp [hy])) (Nat.pow_lt_pow_right (by decide) (h x (by simp)))
theorem orB_take_lt (xs : List Int) (n k : Nat) (h : ∀ x, x ∈ xs → x.toNat < n) : orB (xs.take k) < 2 ^ n :=
  orB_lt _ n fun x hx => h x (List.mem_of_mem_take hx)
/-- Where a letter leads a set, member by member. -/
theorem moveB_list (row : List Int) (f : Nat) : ∀ k, moveB row f k = orB ((bitsTo f k).map fun s => nth row s.toNat)
  | 0 => rfl
  | k + 1 => by
    rw [moveB_succ, bitsTo_succ, moveB_list row f k]
    split <;> simp [orB]
theorem testBit_orB (xs : List Int) (i : Nat) : (orB xs).testBit i = true ↔ ∃ x, x ∈ xs ∧ x.toNat = i := by
  induction xs using snoc_ind with
  | h0 => simp [orB]
  | h1 xs x ih =>
    rw [orB_snoc, Nat.testBit_or, Bool.or_eq_true, ih, Nat.testBit_two_pow]
    constructor
    · rintro (⟨y, hy, rfl⟩ | h)
      · exact ⟨y, by simp [hy], rfl⟩
      · exact ⟨x, by simp, by simpa using h⟩
    · rintro ⟨y, hy, rfl⟩
      rcases List.mem_append.1 hy with h | h
      · exact Or.inl ⟨y, h, rfl⟩
      · simp at h; subst h; right; simp
/-- At most one member. -/
def smallB (f : Nat) : Bool := f &&& (f - 1) == 0
-- the walk's own forms
theorem wrap_i64_nat (n : Nat) (h : n < 9223372036854775808) : IntKind.i64.wrap (n : Int) = n := by rw [IntKind.wrap_i64]; omega
theorem wrap_u64_nat (n : Nat) (h : n < 18446744073709551616) : IntKind.u64.wrap (n : Int) = n := by rw [IntKind.wrap_u64]; omega
theorem wraps_i64 (n : Int) (h₀ : 0 ≤ n) (h₁ : n < 2 ^ 63) : IntKind.i64.wrap n = n := by rw [IntKind.wrap_i64]; omega
theorem wraps_u64 (n : Int) (h₀ : 0 ≤ n) (h₁ : n < 2 ^ 64) : IntKind.u64.wrap n = n := by rw [IntKind.wrap_u64]; omega
theorem pow10 (x : Nat) (h : x < 10) : 2 ^ x < 1024 := Nat.pow_lt_pow_right (a := 2) (by decide) h
theorem cast_pow (x : Nat) : ((2 : Int) ^ x) = ((2 ^ x : Nat) : Int) := by simp
theorem or_lt10 (F x : Nat) (hF : F < 1024) (hx : x < 10) : F ||| 2 ^ x < 1024 := Nat.or_lt_two_pow (n := 10) hF (pow10 x hx)
theorem or_u64 (F x : Nat) (hF : F < 1024) (hx : x < 10) : bits .or .u64 (F : Int) (IntKind.u64.wrap ((2 : Int) ^ x)) = ((F ||| 2 ^ x : Nat) : Int) := by
  have := pow10 x hx
  rw [cast_pow, wrap_u64_nat _ (by omega), u64_or_nat _ _ (by omega) (by omega)]
theorem or_i64 (F x : Nat) (hF : F < 1024) (hx : x < 10) : bits .or .i64 (F : Int) (IntKind.i64.wrap ((2 : Int) ^ x)) = ((F ||| 2 ^ x : Nat) : Int) := by
  have := pow10 x hx
  rw [cast_pow, wrap_i64_nat _ (by omega), (bits_nat .i64 63 (by decide) wraps_i64 _ _ (by omega) (by omega)).2]
theorem div_cast (F k : Nat) : ((F : Int) / 2 ^ k) = ((F / 2 ^ k : Nat) : Int) := by rw [cast_pow]; rfl
theorem bit_cast (F k : Nat) : ((F / 2 ^ k % 2 : Nat) : Int) = if F.testBit k = true then 1 else 0 := by
  rw [Nat.testBit_eq_decide_div_mod_eq]
  split
  · rename_i h; simp at h; omega
  · rename_i h; simp at h; omega
theorem bit_u64 (F k : Nat) (hF : F < 1024) : bits .and .u64 ((F : Int) / 2 ^ k) 1 = if F.testBit k = true then 1 else 0 := by
  have h1 : F / 2 ^ k ≤ F := Nat.div_le_self _ _
  rw [div_cast, show (1 : Int) = ((1 : Nat) : Int) from rfl, u64_and_nat _ _ (by omega) (by omega), nat_mask1]
  exact bit_cast F k
theorem bit_i64 (F k : Nat) (hF : F < 1024) : bits .and .i64 ((F : Int) / 2 ^ k) 1 = if F.testBit k = true then 1 else 0 := by
  have h1 : F / 2 ^ k ≤ F := Nat.div_le_self _ _
  rw [div_cast, show (1 : Int) = ((1 : Nat) : Int) from rfl, (bits_nat .i64 63 (by decide) wraps_i64 _ _ (by omega) (by omega)).1, nat_mask1]
  exact bit_cast F k
theorem div_pos_iff (F k : Nat) : 0 < (F : Int) / 2 ^ k ↔ 2 ^ k ≤ F := by
  rw [div_cast]
  have : 0 < F / 2 ^ k ↔ 2 ^ k ≤ F := by
    rw [Nat.div_pos_iff]
    constructor
    · intro h; exact h.2
    · intro h; exact ⟨Nat.two_pow_pos k, h⟩
  rw [← this]; omega
theorem small_u64 (F : Nat) (hF : F < 1024) : bits .and .u64 (F : Int) (IntKind.u64.wrap ((F : Int) - 1)) = ((F &&& (F - 1) : Nat) : Int) := by
  by_cases h : F = 0
  · subst h; decide
  · rw [show (F : Int) - 1 = ((F - 1 : Nat) : Int) by omega, wrap_u64_nat _ (by omega), u64_and_nat _ _ (by omega) (by omega)]
theorem small_i64 (F : Nat) (hF : F < 1024) : bits .and .i64 (F : Int) (IntKind.i64.wrap ((F : Int) - 1)) = ((F &&& (F - 1) : Nat) : Int) := by
  by_cases h : F = 0
  · subst h; decide
  · rw [show (F : Int) - 1 = ((F - 1 : Nat) : Int) by omega, wrap_i64_nat _ (by omega), (bits_nat .i64 63 (by decide) wraps_i64 _ _ (by omega) (by omega)).1]
theorem smallB_eq (F : Nat) : (((F &&& (F - 1) : Nat) : Int) == 0) = smallB F := by
  unfold smallB
  rw [Bool.eq_iff_iff]; simp
/-- All states. -/
def full (n : Int) : Nat := 2 ^ n.toNat - 1
theorem full_lt (n : Int) : full n < 2 ^ n.toNat := by unfold full; have := Nat.two_pow_pos n.toNat; omega
theorem lt_10 {f n : Nat} (h : f < 2 ^ n) (hn : n ≤ 10) : f < 1024 := Nat.lt_of_lt_of_le h (Nat.pow_le_pow_right (n := 2) (by decide) hn)
theorem wrap64_wrap (n : Int) : Go.RowKit.wrap64 n = IntKind.i64.wrap n := by rw [IntKind.wrap_i64]; unfold Go.RowKit.wrap64; omega
theorem or_w64 (F x : Nat) (hF : F < 1024) (hx : x < 10) : bits .or .i64 (F : Int) (Go.RowKit.wrap64 ((2 : Int) ^ x)) = ((F ||| 2 ^ x : Nat) : Int) := by
  rw [wrap64_wrap]; exact or_i64 F x hF hx
theorem small_w64 (F : Nat) (hF : F < 1024) : bits .and .i64 (F : Int) (Go.RowKit.wrap64 ((F : Int) - 1)) = ((F &&& (F - 1) : Nat) : Int) := by
  rw [wrap64_wrap]; exact small_i64 F hF
theorem small_raw (F : Nat) (hF : F < 1024) : bits .and .i64 (F : Int) ((F : Int) - 1) = ((F &&& (F - 1) : Nat) : Int) := by
  rw [← small_i64 F hF, IntKind.wrap_i64, show ((F : Int) - 1 + 9223372036854775808) % 18446744073709551616 - 9223372036854775808 = (F : Int) - 1 by omega]
theorem pow10' (x : Nat) (h : x ≤ 10) : 2 ^ x ≤ 1024 := Nat.pow_le_pow_right (n := 2) (by decide) h

end Go.Proofs.Ytcjmcpfdpnakkaa
