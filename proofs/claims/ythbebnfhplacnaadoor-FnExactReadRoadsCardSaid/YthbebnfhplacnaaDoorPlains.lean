/- Parts of the proof that lean on no program: Plain1, PlainRun, PlainSet, PlainBits, PlainTour, PlainFirst, PlainBfs, PlainFind, PlainRen, PMach, PlainOut, PlainPart. -/
import Derived.Test.YthbebnfhplacnaaDoorCore
import Derived.WalkKit
import Derived.WalkSpells
import Derived.WalkLawsBesides
import Derived.Deep.QuietTactic
import Derived.Deep.OwnRows
import Derived.BigQuiet
import Derived.KernelRfl
import Derived.Laws.BitsAllLaws
import Derived.Laws.BitsLemmas
import Derived.Laws.ShiftsVarLaws
namespace Go.Proofs.YthbebnfhplacnaaDoor
open Go.RowKit

section
/-- From lo to hi. -/
def inB (x lo hi : Int) : Bool := decide (lo ≤ x) && decide (x ≤ hi)
theorem inB_iff (x lo hi : Int) : inB x lo hi = true ↔ lo ≤ x ∧ x ≤ hi := by simp [inB]
theorem inB_false (x lo hi : Int) : inB x lo hi = false ↔ x < lo ∨ hi < x := by
  unfold inB; rw [Bool.and_eq_false_iff]; simp
def allIn (xs : List Int) (lo hi : Int) : Bool := xs.all fun x => inB x lo hi
theorem allIn_iff (xs : List Int) (lo hi : Int) : allIn xs lo hi = true ↔ ∀ i, i < xs.length → inB (nth xs i) lo hi = true := by
  unfold allIn
  rw [List.all_eq_true]
  constructor
  · intro h i hi; exact h _ (nth_mem xs i hi)
  · intro h x hx; obtain ⟨i, hi, rfl⟩ := mem_nth xs x hx; exact h i hi
theorem allIn_false (xs : List Int) (lo hi : Int) (i : Nat) (hi' : i < xs.length) (h : inB (nth xs i) lo hi = false) : allIn xs lo hi = false := by
  cases e : allIn xs lo hi with
  | false => rfl
  | true => rw [(allIn_iff xs lo hi).1 e i hi'] at h; cases h
/-- A list that leads from n states to n states. -/
def mapOk (xs : List Int) (n : Int) : Bool := allIn xs 0 (n - 1) && decide ((xs.length : Int) = n)
def rowsOk (xss : List (List Int)) (n : Int) : Bool := xss.all fun r => mapOk r n
theorem rowsOk_iff (xss : List (List Int)) (n : Int) : rowsOk xss n = true ↔ ∀ i, i < xss.length → mapOk (nth xss i) n = true := by
  unfold rowsOk
  rw [List.all_eq_true]
  constructor
  · intro h i hi; exact h _ (nth_mem xss i hi)
  · intro h x hx; obtain ⟨i, hi, rfl⟩ := mem_nth xss x hx; exact h i hi
theorem rowsOk_false (xss : List (List Int)) (n : Int) (i : Nat) (hi' : i < xss.length) (h : mapOk (nth xss i) n = false) : rowsOk xss n = false := by
  cases e : rowsOk xss n with
  | false => rfl
  | true => rw [(rowsOk_iff xss n).1 e i hi'] at h; cases h
def autOk (a : Aut) : Bool := inB a.n 1 10 && inB a.nx.length 1 3 && rowsOk a.nx a.n
def wordOk (a : Aut) (ws : List Int) : Bool := allIn ws 0 ((a.nx.length : Int) - 1) && decide (ws.length ≤ 400)
theorem autOk_iff (a : Aut) : autOk a = true ↔ (1 ≤ a.n ∧ a.n ≤ 10) ∧ (1 ≤ a.nx.length ∧ a.nx.length ≤ 3) ∧ ∀ i, i < a.nx.length → mapOk (nth a.nx i) a.n = true := by
  unfold autOk
  rw [Bool.and_eq_true, Bool.and_eq_true, inB_iff, inB_iff, rowsOk_iff]
  constructor
  · rintro ⟨⟨h1, h2⟩, h3⟩; exact ⟨h1, by omega, h3⟩
  · rintro ⟨h1, h2, h3⟩; exact ⟨⟨h1, by omega⟩, h3⟩
/-- A pointer to an automaton. -/
def PAut (w : World) (v : Value) (a : Aut) : Prop := ∃ b rv, v = .pointer (some ⟨b, 0, none⟩) ∧ w.cell? ⟨b, 0, none⟩ = some (.int .i64 a.n) ∧ w.cell? ⟨b, 1, none⟩ = some rv ∧ RowsAt w rv a.nx
theorem PAut.new {w w' : World} {v : Value} {a : Aut} (h : PAut w v a) (hw : New w w') : PAut w' v a :=
  let ⟨b, rv, e, h1, h2, h3⟩ := h; ⟨b, rv, e, hw.cell h1, hw.cell h2, h3.new hw⟩
/-- What a boxed automaton is. -/
theorem PAut.box {w : World} {A : Option Addr} {c : Nat} {a : Aut} (h : RowsAt w (.slice A a.nx.length c) a.nx) (t : TypeId) : PAut (w.alloc (.cells #[.int .i64 a.n, .slice A a.nx.length c] t)) (.pointer (some ⟨w.heap.size, 0, none⟩)) a :=
  ⟨_, _, rfl, by unfold World.cell?; rw [heap_alloc_new]; rfl, by unfold World.cell?; rw [heap_alloc_new]; rfl, h.new ((New.refl _).alloc _)⟩
end
section
def stepOf (nx : List (List Int)) (s l : Int) : Int := nth (nth nx l.toNat) s.toNat
def runOf (nx : List (List Int)) (s : Int) (ws : List Int) : Int := ws.foldl (stepOf nx) s
def actOf (a : Aut) (ws : List Int) : List Int := (iota 0 a.n.toNat).map fun s => runOf a.nx s ws
theorem runOf_snoc (nx : List (List Int)) (s : Int) (ws : List Int) (l : Int) : runOf nx s (ws ++ [l]) = stepOf nx (runOf nx s ws) l := by simp [runOf]
theorem runOf_take (nx : List (List Int)) (s : Int) (ws : List Int) (k : Nat) (h : k < ws.length) : runOf nx s (ws.take (k + 1)) = stepOf nx (runOf nx s (ws.take k)) (nth ws k) := by
  rw [take_succ_nth ws k h, runOf_snoc]
theorem mapOk_iff (xs : List Int) (n : Int) : mapOk xs n = true ↔ (xs.length : Int) = n ∧ ∀ i, i < xs.length → 0 ≤ nth xs i ∧ nth xs i < n := by
  unfold mapOk
  rw [Bool.and_eq_true, allIn_iff, decide_eq_true_eq]
  constructor
  · rintro ⟨h1, h2⟩; exact ⟨h2, fun i hi => by have := (inB_iff _ _ _).1 (h1 i hi); omega⟩
  · rintro ⟨h1, h2⟩; exact ⟨fun i hi => (inB_iff _ _ _).2 (by have := h2 i hi; omega), h1⟩
theorem autOk_row {a : Aut} (h : autOk a = true) (l : Nat) (hl : l < a.nx.length) : ((nth a.nx l).length : Int) = a.n ∧ ∀ i, i < (nth a.nx l).length → 0 ≤ nth (nth a.nx l) i ∧ nth (nth a.nx l) i < a.n :=
  (mapOk_iff _ _).1 (((autOk_iff a).1 h).2.2 l hl)
theorem autOk_n {a : Aut} (h : autOk a = true) : 1 ≤ a.n ∧ a.n ≤ 10 := ((autOk_iff a).1 h).1
theorem autOk_l {a : Aut} (h : autOk a = true) : 1 ≤ a.nx.length ∧ a.nx.length ≤ 3 := ((autOk_iff a).1 h).2.1
theorem wordOk_iff (a : Aut) (ws : List Int) : wordOk a ws = true ↔ ws.length ≤ 400 ∧ ∀ i, i < ws.length → 0 ≤ nth ws i ∧ nth ws i < a.nx.length := by
  unfold wordOk
  rw [Bool.and_eq_true, allIn_iff, decide_eq_true_eq]
  constructor
  · rintro ⟨h1, h2⟩; exact ⟨h2, fun i hi => by have := (inB_iff _ _ _).1 (h1 i hi); omega⟩
  · rintro ⟨h1, h2⟩; exact ⟨fun i hi => (inB_iff _ _ _).2 (by have := h2 i hi; omega), h1⟩
theorem stepOf_in {a : Aut} (h : autOk a = true) (s l : Int) (hs : 0 ≤ s ∧ s < a.n) (hl : 0 ≤ l ∧ l < a.nx.length) : 0 ≤ stepOf a.nx s l ∧ stepOf a.nx s l < a.n := by
  obtain ⟨h1, h2⟩ := autOk_row h l.toNat (by omega)
  exact h2 s.toNat (by omega)
/-- A word all of whose letters are letters. -/
def letters (a : Aut) (ws : List Int) : Prop := ∀ i, i < ws.length → 0 ≤ nth ws i ∧ nth ws i < a.nx.length
theorem letters_of {a : Aut} {ws : List Int} (h : wordOk a ws = true) : letters a ws := ((wordOk_iff a ws).1 h).2
theorem runOf_in {a : Aut} (h : autOk a = true) (ws : List Int) (hw : letters a ws) (s : Int) (hs : 0 ≤ s ∧ s < a.n) : ∀ k, k ≤ ws.length → 0 ≤ runOf a.nx s (ws.take k) ∧ runOf a.nx s (ws.take k) < a.n := by
  intro k
  induction k with
  | zero => intro _; simpa [runOf] using hs
  | succ k ih =>
    intro hk
    rw [runOf_take _ _ _ _ (by omega)]
    exact stepOf_in h _ _ (ih (by omega)) (hw k (by omega))
def ActionOf (a : Aut) (ws : List Int) : List Int × Int := if autOk a = true then (if wordOk a ws = true then (actOf a ws, 0) else ([], 2)) else ([], 1)
theorem iota_snoc (k : Int) (n : Nat) : iota k (n + 1) = iota k n ++ [k + n] := by simp [iota, List.range_succ]
end
section
/-- Is the i-th element right for a rising list from lo to hi? -/
def riseAt (xs : List Int) (lo hi : Int) (i : Nat) : Bool := inB (nth xs i) lo hi && (i == 0 || decide (nth xs (i - 1) < nth xs i))
def riseB (xs : List Int) (lo hi : Int) : Bool := (List.range xs.length).all fun i => riseAt xs lo hi i
def setB (xs : List Int) (n : Int) : Bool := riseB xs 0 (n - 1)
theorem riseB_iff (xs : List Int) (lo hi : Int) : riseB xs lo hi = true ↔ ∀ i, i < xs.length → riseAt xs lo hi i = true := by
  unfold riseB; rw [List.all_eq_true]; simp
theorem riseB_false (xs : List Int) (lo hi : Int) (i : Nat) (hi' : i < xs.length) (h : riseAt xs lo hi i = false) : riseB xs lo hi = false := by
  cases e : riseB xs lo hi with
  | false => rfl
  | true => rw [(riseB_iff xs lo hi).1 e i hi'] at h; cases h
theorem setB_in {xs : List Int} {n : Int} (h : setB xs n = true) (i : Nat) (hi : i < xs.length) : 0 ≤ nth xs i ∧ nth xs i < n := by
  have := (riseB_iff _ _ _).1 h i hi
  unfold riseAt at this
  rw [Bool.and_eq_true, inB_iff] at this
  omega
theorem setB_lt {xs : List Int} {n : Int} (h : setB xs n = true) (i : Nat) (hi : i + 1 < xs.length) : nth xs i < nth xs (i + 1) := by
  have := (riseB_iff _ _ _).1 h (i + 1) hi
  unfold riseAt at this
  rw [Bool.and_eq_true] at this
  simpa using this.2
theorem setB_mono {xs : List Int} {n : Int} (h : setB xs n = true) (i j : Nat) (hij : i < j) (hj : j < xs.length) : nth xs i < nth xs j := by
  induction j with
  | zero => omega
  | succ j ih =>
    have h1 := setB_lt h j hj
    rcases Nat.lt_succ_iff_lt_or_eq.1 hij with h2 | h2
    · have := ih h2 (by omega); omega
    · subst h2; exact h1
theorem setB_len {xs : List Int} {n : Int} (h : setB xs n = true) (h0 : 0 ≤ n) : (xs.length : Int) ≤ n := by
  have key : ∀ i, i < xs.length → (i : Int) ≤ nth xs i := by
    intro i
    induction i with
    | zero => intro hi; exact (setB_in h 0 hi).1
    | succ i ih => intro hi; have := ih (by omega); have := setB_lt h i hi; omega
  cases e : xs.length with
  | zero => simpa using h0
  | succ k => have := key k (by omega); have := (setB_in h k (by omega)).2; omega
/-- Is n in the list? -/
def hasB (xs : List Int) (n : Int) : Bool := xs.any fun x => decide (x = n)
theorem hasB_iff (xs : List Int) (n : Int) : hasB xs n = true ↔ n ∈ xs := by
  unfold hasB; rw [List.any_eq_true]
  constructor
  · rintro ⟨x, hx, h⟩; rw [decide_eq_true_eq] at h; subst h; exact hx
  · intro h; exact ⟨n, h, by simp⟩
def preOf (a : Aut) (set ws : List Int) : List Int := (iota 0 a.n.toNat).filter fun s => hasB set (runOf a.nx s ws)
def PreimageOf (a : Aut) (set ws : List Int) : List Int × Int := if autOk a = true then (if (setB set a.n && wordOk a ws) = true then (preOf a set ws, 0) else ([], 2)) else ([], 1)
end
section
theorem snoc_ind {α : Type} {P : List α → Prop} (h0 : P []) (h1 : ∀ xs x, P xs → P (xs ++ [x])) (xs : List α) : P xs := by
  have key : ∀ ys : List α, P ys.reverse := by
    intro ys
    induction ys with
    | nil => exact h0
    | cons y r ih => rw [List.reverse_cons]; exact h1 _ _ ih
  have := key xs.reverse
  rwa [List.reverse_reverse] at this
/-- The members below k of a set as bits. -/
def bitsTo (f k : Nat) : List Int := (iota 0 k).filter fun s => f.testBit s.toNat
/-- A set of at most ten states. -/
def setOf (f : Nat) : List Int := bitsTo f 10
theorem bitsTo_zero (f : Nat) : bitsTo f 0 = [] := rfl
theorem bitsTo_succ (f k : Nat) : bitsTo f (k + 1) = bitsTo f k ++ if f.testBit k = true then [(k : Int)] else [] := by
  unfold bitsTo
  rw [iota_snoc, List.filter_append]
  congr 1
  rw [Int.zero_add]
  simp [List.filter_cons]
theorem testBit_ge {f n i : Nat} (h : f < 2 ^ n) (hi : n ≤ i) : f.testBit i = false :=
  Nat.testBit_lt_two_pow (Nat.lt_of_lt_of_le h (Nat.pow_le_pow_right (by decide) hi))
theorem bitsTo_more {f n : Nat} (h : f < 2 ^ n) : ∀ k, bitsTo f (n + k) = bitsTo f n
  | 0 => rfl
  | k + 1 => by rw [← Nat.add_assoc, bitsTo_succ, testBit_ge h (by omega), bitsTo_more h k]; simp
theorem setOf_eq {f n : Nat} (h : f < 2 ^ n) (hn : n ≤ 10) : setOf f = bitsTo f n := by
  have := bitsTo_more h (10 - n)
  rw [show n + (10 - n) = 10 by omega] at this; exact this
theorem bitsTo_len (f k : Nat) : (bitsTo f k).length ≤ k := by
  have := List.length_filter_le (fun s : Int => f.testBit s.toNat) (iota 0 k)
  rw [iota_length] at this; exact this
theorem mem_iota (k : Int) (n : Nat) (x : Int) : x ∈ iota k n ↔ k ≤ x ∧ x < k + n := by
  unfold iota
  simp only [List.mem_map, List.mem_range]
  constructor
  · rintro ⟨i, hi, rfl⟩; omega
  · rintro ⟨h1, h2⟩; exact ⟨(x - k).toNat, by omega, by omega⟩
theorem mem_bitsTo (f k : Nat) (x : Int) : x ∈ bitsTo f k ↔ 0 ≤ x ∧ x < k ∧ f.testBit x.toNat = true := by
  unfold bitsTo
  rw [List.mem_filter]
  have := mem_iota 0 k x
  constructor
  · rintro ⟨h1, h2⟩; have := this.1 h1; exact ⟨by omega, by omega, h2⟩
  · rintro ⟨h1, h2, h3⟩; exact ⟨this.2 ⟨by omega, by omega⟩, h3⟩
/-- Where a letter leads the members below k. -/
def moveB (row : List Int) (f k : Nat) : Nat := (List.range k).foldl (fun acc s => if f.testBit s = true then acc ||| 2 ^ (nth row s).toNat else acc) 0
theorem moveB_zero (row : List Int) (f : Nat) : moveB row f 0 = 0 := rfl
theorem moveB_succ (row : List Int) (f k : Nat) : moveB row f (k + 1) = if f.testBit k = true then moveB row f k ||| 2 ^ (nth row k).toNat else moveB row f k := by
  simp [moveB, List.range_succ]
theorem moveB_more {f n : Nat} (row : List Int) (h : f < 2 ^ n) : ∀ k, moveB row f (n + k) = moveB row f n
  | 0 => rfl
  | k + 1 => by rw [← Nat.add_assoc, moveB_succ, testBit_ge h (by omega), moveB_more row h k]; simp
def moved (row : List Int) (f : Nat) : Nat := moveB row f 10
theorem moved_eq {f n : Nat} (row : List Int) (h : f < 2 ^ n) (hn : n ≤ 10) : moved row f = moveB row f n := by
  have := moveB_more row h (10 - n)
  rw [show n + (10 - n) = 10 by omega] at this; exact this
theorem moveB_lt (row : List Int) (f n : Nat) : ∀ k, (∀ i, i < k → f.testBit i = true → (nth row i).toNat < n) → moveB row f k < 2 ^ n
  | 0, _ => by simp [moveB_zero, Nat.two_pow_pos]
  | k + 1, h => by
    have ih := moveB_lt row f n k (fun i hi => h i (by omega))
    rw [moveB_succ]
    split
    · rename_i hb
      exact Nat.or_lt_two_pow ih (Nat.pow_lt_pow_right (by decide) (h k (by omega) hb))
    · exact ih
/-- Members of a list, as bits. -/
def orB (xs : List Int) : Nat := xs.foldl (fun acc s => acc ||| 2 ^ s.toNat) 0
theorem orB_snoc (xs : List Int) (x : Int) : orB (xs ++ [x]) = orB xs ||| 2 ^ x.toNat := by simp [orB]
theorem orB_take (xs : List Int) (k : Nat) (h : k < xs.length) : orB (xs.take (k + 1)) = orB (xs.take k) ||| 2 ^ (nth xs k).toNat := by
  rw [take_succ_nth xs k h, orB_snoc]
theorem orB_lt (xs : List Int) (n : Nat) (h : ∀ x, x ∈ xs → x.toNat < n) : orB xs < 2 ^ n := by
  induction xs using snoc_ind with
  | h0 => simp [orB, Nat.two_pow_pos]
  | h1 xs x ih =>
    rw [orB_snoc]
    exact Nat.or_lt_two_pow (ih fun y hy => h y (by simp [hy])) (Nat.pow_lt_pow_right (by decide) (h x (by simp)))
theorem orB_take_lt (xs : List Int) (n k : Nat) (h : ∀ x, x ∈ xs → x.toNat < n) : orB (xs.take k) < 2 ^ n :=
  orB_lt _ n fun x hx => h x (List.mem_of_mem_take hx)
/-- Where a letter leads a set, member by member. -/
theorem moveB_list (row : List Int) (f : Nat) : ∀ k, moveB row f k = orB ((bitsTo f k).map fun s => nth row s.toNat)
  | 0 => rfl
  | k + 1 => by
    rw [moveB_succ, bitsTo_succ, moveB_list row f k]
    split <;> simp [orB]
theorem testBit_orB (xs : List Int) (i : Nat) : (orB xs).testBit i = true ↔ ∃ x, x ∈ xs ∧ x.toNat = i := by
  induction xs using snoc_ind with
  | h0 => simp [orB]
  | h1 xs x ih =>
    rw [orB_snoc, Nat.testBit_or, Bool.or_eq_true, ih, Nat.testBit_two_pow]
    constructor
    · rintro (⟨y, hy, rfl⟩ | h)
      · exact ⟨y, by simp [hy], rfl⟩
      · exact ⟨x, by simp, by simpa using h⟩
    · rintro ⟨y, hy, rfl⟩
      rcases List.mem_append.1 hy with h | h
      · exact Or.inl ⟨y, h, rfl⟩
      · simp at h; subst h; right; simp
/-- At most one member. -/
def smallB (f : Nat) : Bool := f &&& (f - 1) == 0
-- the walk's own forms
theorem wrap_i64_nat (n : Nat) (h : n < 9223372036854775808) : IntKind.i64.wrap (n : Int) = n := by rw [IntKind.wrap_i64]; omega
theorem wrap_u64_nat (n : Nat) (h : n < 18446744073709551616) : IntKind.u64.wrap (n : Int) = n := by rw [IntKind.wrap_u64]; omega
theorem wraps_i64 (n : Int) (h₀ : 0 ≤ n) (h₁ : n < 2 ^ 63) : IntKind.i64.wrap n = n := by rw [IntKind.wrap_i64]; omega
theorem wraps_u64 (n : Int) (h₀ : 0 ≤ n) (h₁ : n < 2 ^ 64) : IntKind.u64.wrap n = n := by rw [IntKind.wrap_u64]; omega
theorem pow10 (x : Nat) (h : x < 10) : 2 ^ x < 1024 := Nat.pow_lt_pow_right (a := 2) (by decide) h
theorem cast_pow (x : Nat) : ((2 : Int) ^ x) = ((2 ^ x : Nat) : Int) := by simp
theorem or_lt10 (F x : Nat) (hF : F < 1024) (hx : x < 10) : F ||| 2 ^ x < 1024 := Nat.or_lt_two_pow (n := 10) hF (pow10 x hx)
theorem or_u64 (F x : Nat) (hF : F < 1024) (hx : x < 10) : bits .or .u64 (F : Int) (IntKind.u64.wrap ((2 : Int) ^ x)) = ((F ||| 2 ^ x : Nat) : Int) := by
  have := pow10 x hx
  rw [cast_pow, wrap_u64_nat _ (by omega), u64_or_nat _ _ (by omega) (by omega)]
theorem or_i64 (F x : Nat) (hF : F < 1024) (hx : x < 10) : bits .or .i64 (F : Int) (IntKind.i64.wrap ((2 : Int) ^ x)) = ((F ||| 2 ^ x : Nat) : Int) := by
  have := pow10 x hx
  rw [cast_pow, wrap_i64_nat _ (by omega), (bits_nat .i64 63 (by decide) wraps_i64 _ _ (by omega) (by omega)).2]
theorem div_cast (F k : Nat) : ((F : Int) / 2 ^ k) = ((F / 2 ^ k : Nat) : Int) := by rw [cast_pow]; rfl
theorem bit_cast (F k : Nat) : ((F / 2 ^ k % 2 : Nat) : Int) = if F.testBit k = true then 1 else 0 := by
  rw [Nat.testBit_eq_decide_div_mod_eq]
  split
  · rename_i h; simp at h; omega
  · rename_i h; simp at h; omega
theorem bit_u64 (F k : Nat) (hF : F < 1024) : bits .and .u64 ((F : Int) / 2 ^ k) 1 = if F.testBit k = true then 1 else 0 := by
  have h1 : F / 2 ^ k ≤ F := Nat.div_le_self _ _
  rw [div_cast, show (1 : Int) = ((1 : Nat) : Int) from rfl, u64_and_nat _ _ (by omega) (by omega), nat_mask1]
  exact bit_cast F k
theorem bit_i64 (F k : Nat) (hF : F < 1024) : bits .and .i64 ((F : Int) / 2 ^ k) 1 = if F.testBit k = true then 1 else 0 := by
  have h1 : F / 2 ^ k ≤ F := Nat.div_le_self _ _
  rw [div_cast, show (1 : Int) = ((1 : Nat) : Int) from rfl, (bits_nat .i64 63 (by decide) wraps_i64 _ _ (by omega) (by omega)).1, nat_mask1]
  exact bit_cast F k
theorem div_pos_iff (F k : Nat) : 0 < (F : Int) / 2 ^ k ↔ 2 ^ k ≤ F := by
  rw [div_cast]
  have : 0 < F / 2 ^ k ↔ 2 ^ k ≤ F := by
    rw [Nat.div_pos_iff]
    constructor
    · intro h; exact h.2
    · intro h; exact ⟨Nat.two_pow_pos k, h⟩
  rw [← this]; omega
theorem small_u64 (F : Nat) (hF : F < 1024) : bits .and .u64 (F : Int) (IntKind.u64.wrap ((F : Int) - 1)) = ((F &&& (F - 1) : Nat) : Int) := by
  by_cases h : F = 0
  · subst h; decide
  · rw [show (F : Int) - 1 = ((F - 1 : Nat) : Int) by omega, wrap_u64_nat _ (by omega), u64_and_nat _ _ (by omega) (by omega)]
theorem small_i64 (F : Nat) (hF : F < 1024) : bits .and .i64 (F : Int) (IntKind.i64.wrap ((F : Int) - 1)) = ((F &&& (F - 1) : Nat) : Int) := by
  by_cases h : F = 0
  · subst h; decide
  · rw [show (F : Int) - 1 = ((F - 1 : Nat) : Int) by omega, wrap_i64_nat _ (by omega), (bits_nat .i64 63 (by decide) wraps_i64 _ _ (by omega) (by omega)).1]
theorem smallB_eq (F : Nat) : (((F &&& (F - 1) : Nat) : Int) == 0) = smallB F := by
  unfold smallB
  rw [Bool.eq_iff_iff]; simp
/-- All states. -/
def full (n : Int) : Nat := 2 ^ n.toNat - 1
theorem full_lt (n : Int) : full n < 2 ^ n.toNat := by unfold full; have := Nat.two_pow_pos n.toNat; omega
theorem lt_10 {f n : Nat} (h : f < 2 ^ n) (hn : n ≤ 10) : f < 1024 := Nat.lt_of_lt_of_le h (Nat.pow_le_pow_right (n := 2) (by decide) hn)
theorem wrap64_wrap (n : Int) : Go.RowKit.wrap64 n = IntKind.i64.wrap n := by rw [IntKind.wrap_i64]; unfold Go.RowKit.wrap64; omega
theorem or_w64 (F x : Nat) (hF : F < 1024) (hx : x < 10) : bits .or .i64 (F : Int) (Go.RowKit.wrap64 ((2 : Int) ^ x)) = ((F ||| 2 ^ x : Nat) : Int) := by
  rw [wrap64_wrap]; exact or_i64 F x hF hx
theorem small_w64 (F : Nat) (hF : F < 1024) : bits .and .i64 (F : Int) (Go.RowKit.wrap64 ((F : Int) - 1)) = ((F &&& (F - 1) : Nat) : Int) := by
  rw [wrap64_wrap]; exact small_i64 F hF
theorem small_raw (F : Nat) (hF : F < 1024) : bits .and .i64 (F : Int) ((F : Int) - 1) = ((F &&& (F - 1) : Nat) : Int) := by
  rw [← small_i64 F hF, IntKind.wrap_i64, show ((F : Int) - 1 + 9223372036854775808) % 18446744073709551616 - 9223372036854775808 = (F : Int) - 1 by omega]
theorem pow10' (x : Nat) (h : x ≤ 10) : 2 ^ x ≤ 1024 := Nat.pow_le_pow_right (n := 2) (by decide) h
end
section
structure Tour where
  sets : List Nat
  words : List (List Int)
  before : List Int
  letters : List Int
def tStep (nx : List (List Int)) (i l : Nat) (t : Tour) : Tour :=
  if t.sets.contains (moved (nth nx l) (nth t.sets i)) = true then t
  else ⟨t.sets ++ [moved (nth nx l) (nth t.sets i)], t.words ++ [nth t.words i ++ [(l : Int)]], t.before ++ [(i : Int)], t.letters ++ [(l : Int)]⟩
def tRow (nx : List (List Int)) (i : Nat) (t : Tour) (k : Nat) : Tour := (List.range k).foldl (fun t l => tStep nx i l t) t
def tStart (f : Nat) : Tour := ⟨[f], [[]], [-1], [0]⟩
def tTo (nx : List (List Int)) (f k : Nat) : Tour := (List.range k).foldl (fun t i => if i < t.sets.length then tRow nx i t nx.length else t) (tStart f)
/-- All sets to which words lead from one. -/
def tourOf (nx : List (List Int)) (f : Nat) : Tour := tTo nx f 1024
theorem tRow_zero (nx : List (List Int)) (i : Nat) (t : Tour) : tRow nx i t 0 = t := rfl
theorem tRow_succ (nx : List (List Int)) (i : Nat) (t : Tour) (k : Nat) : tRow nx i t (k + 1) = tStep nx i k (tRow nx i t k) := by simp [tRow, List.range_succ]
theorem tTo_zero (nx : List (List Int)) (f : Nat) : tTo nx f 0 = tStart f := rfl
theorem tTo_succ (nx : List (List Int)) (f k : Nat) : tTo nx f (k + 1) = if k < (tTo nx f k).sets.length then tRow nx k (tTo nx f k) nx.length else tTo nx f k := by
  unfold tTo; rw [List.range_succ, List.foldl_append]; rfl
theorem tTo_stop (nx : List (List Int)) (f k : Nat) (h : (tTo nx f k).sets.length ≤ k) : ∀ d, tTo nx f (k + d) = tTo nx f k
  | 0 => rfl
  | d + 1 => by
    have ih := tTo_stop nx f k h d
    rw [← Nat.add_assoc, tTo_succ, ih, if_neg (by omega)]
theorem nodup_bound : ∀ (N : Nat) (xs : List Nat), xs.Nodup → (∀ x, x ∈ xs → x < N) → xs.length ≤ N
  | 0, xs, _, h => by
    cases xs with
    | nil => simp
    | cons x r => exact absurd (h x (by simp)) (by omega)
  | N + 1, xs, hd, h => by
    by_cases hm : N ∈ xs
    · have h1 := nodup_bound N (xs.erase N) (hd.erase N) (fun x hx => by
        have h2 := (List.Nodup.mem_erase_iff hd).1 hx
        have h3 := h x h2.2
        have h4 := h2.1
        omega)
      have h2 := List.length_erase_of_mem hm
      have h3 : 0 < xs.length := List.length_pos_of_mem hm
      omega
    · have := nodup_bound N xs hd (fun x hx => by
        have h3 := h x hx
        have : x ≠ N := fun e => hm (e ▸ hx)
        omega)
      omega
/-- What holds of a tour at each moment. -/
structure TOk (a : Aut) (t : Tour) : Prop where
  nodup : t.sets.Nodup
  lt : ∀ x, x ∈ t.sets → x < 2 ^ a.n.toNat
  lw : t.words.length = t.sets.length
  lb : t.before.length = t.sets.length
  ll : t.letters.length = t.sets.length
  pos : 0 < t.sets.length
  lets : ∀ i, i < t.sets.length → 0 ≤ nth t.letters i ∧ nth t.letters i < a.nx.length
  chain : ∀ i, i < t.sets.length → (nth t.before i = -1 ∧ nth t.words i = []) ∨ (∃ j : Nat, j < i ∧ nth t.before i = j ∧ nth t.words i = nth t.words j ++ [nth t.letters i])
  wl : ∀ i, i < t.sets.length → (nth t.words i).length ≤ i
theorem TOk.len {a : Aut} {t : Tour} (h : TOk a t) (hn : a.n ≤ 10) : t.sets.length ≤ 1024 := by
  have := nodup_bound _ _ h.nodup h.lt
  have h2 := pow10' a.n.toNat (by omega)
  omega
theorem TOk.start {a : Aut} (ha : 1 ≤ a.nx.length) (f : Nat) (hf : f < 2 ^ a.n.toNat) : TOk a (tStart f) where
  nodup := by simp [tStart]
  lt := by simp [tStart]; exact hf
  lw := rfl
  lb := rfl
  ll := rfl
  pos := by simp [tStart]
  lets := by
    intro i hi
    simp [tStart] at hi
    subst hi
    simp [tStart, nth]; omega
  chain := by
    intro i hi
    simp [tStart] at hi
    subst hi
    left; exact ⟨rfl, rfl⟩
  wl := by
    intro i hi
    simp [tStart] at hi
    subst hi
    simp [tStart, nth]
theorem contains_iff (xs : List Nat) (x : Nat) : xs.contains x = true ↔ x ∈ xs := by simp
theorem tStep_has (nx : List (List Int)) (i l : Nat) (t : Tour) (h : t.sets.contains (moved (nth nx l) (nth t.sets i)) = true) : tStep nx i l t = t := by unfold tStep; rw [if_pos h]
theorem tStep_new (nx : List (List Int)) (i l : Nat) (t : Tour) (h : t.sets.contains (moved (nth nx l) (nth t.sets i)) = false) :
    tStep nx i l t = ⟨t.sets ++ [moved (nth nx l) (nth t.sets i)], t.words ++ [nth t.words i ++ [(l : Int)]], t.before ++ [(i : Int)], t.letters ++ [(l : Int)]⟩ := by unfold tStep; rw [if_neg (by rw [h]; simp)]
theorem moved_ok {a : Aut} (ha : autOk a = true) (l f : Nat) (hl : l < a.nx.length) (hf : f < 2 ^ a.n.toNat) : moved (nth a.nx l) f < 2 ^ a.n.toNat := by
  have h1 := autOk_n ha
  obtain ⟨h2, h3⟩ := autOk_row ha l hl
  rw [moved_eq (nth a.nx l) hf (by omega)]
  refine moveB_lt _ _ _ _ fun i hi _ => ?_
  have := h3 i (by omega)
  omega
theorem TOk.step {a : Aut} (ha : autOk a = true) {t : Tour} (h : TOk a t) (i l : Nat) (hi : i < t.sets.length) (hl : l < a.nx.length) : TOk a (tStep a.nx i l t) := by
  cases hc : t.sets.contains (moved (nth a.nx l) (nth t.sets i)) with
  | true => rw [tStep_has _ _ _ _ hc]; exact h
  | false =>
    rw [tStep_new _ _ _ _ hc]
    have hnot : moved (nth a.nx l) (nth t.sets i) ∉ t.sets := by rw [← contains_iff, hc]; simp
    have hmv := moved_ok ha l (nth t.sets i) hl (h.lt _ (nth_mem _ _ hi))
    refine ⟨?_, ?_, by simp [h.lw], by simp [h.lb], by simp [h.ll], by simp, ?_, ?_, ?_⟩
    · rw [List.nodup_append]
      refine ⟨h.nodup, by simp, ?_⟩
      intro x hx y hy
      simp at hy
      subst hy
      rintro rfl
      exact hnot hx
    · intro x hx
      rcases List.mem_append.1 hx with h1 | h1
      · exact h.lt x h1
      · simp at h1; subst h1; exact hmv
    · intro k hk
      simp at hk
      by_cases e : k < t.sets.length
      · rw [nth_append_left _ _ _ (by rw [h.ll]; exact e)]; exact h.lets k e
      · have : k = t.letters.length := by rw [h.ll]; omega
        subst this
        rw [nth_append_here]; omega
    · intro k hk
      simp at hk
      by_cases e : k < t.sets.length
      · simp only []
        rw [nth_append_left _ _ _ (by rw [h.lb]; exact e), nth_append_left _ _ _ (by rw [h.lw]; exact e), nth_append_left _ _ _ (by rw [h.ll]; exact e)]
        rcases h.chain k e with h1 | ⟨j, j1, j2, j3⟩
        · exact Or.inl h1
        · right
          exact ⟨j, j1, j2, by rw [nth_append_left _ _ _ (by rw [h.lw]; omega)]; exact j3⟩
      · have ek : k = t.sets.length := by omega
        right
        refine ⟨i, by omega, ?_, ?_⟩
        · have : k = t.before.length := by rw [h.lb]; omega
          rw [this, nth_append_here]
        · have e1 : k = t.words.length := by rw [h.lw]; omega
          have e2 : k = t.letters.length := by rw [h.ll]; omega
          simp only []
          rw [nth_append_left t.words _ i (by rw [h.lw]; exact hi)]
          conv => lhs; rw [e1, nth_append_here]
          rw [e2, nth_append_here]
    · intro k hk
      simp at hk
      by_cases e : k < t.sets.length
      · simp only []
        rw [nth_append_left _ _ _ (by rw [h.lw]; exact e)]; exact h.wl k e
      · have e1 : k = t.words.length := by rw [h.lw]; omega
        have := h.wl i hi
        rw [e1, nth_append_here]
        rw [h.lw]
        simp; omega
theorem tStep_sets (nx : List (List Int)) (i l : Nat) (t : Tour) : t.sets.length ≤ (tStep nx i l t).sets.length ∧ ∀ k, k < t.sets.length → nth (tStep nx i l t).sets k = nth t.sets k := by
  cases hc : t.sets.contains (moved (nth nx l) (nth t.sets i)) with
  | true => rw [tStep_has _ _ _ _ hc]; exact ⟨Nat.le_refl _, fun _ _ => rfl⟩
  | false =>
    rw [tStep_new _ _ _ _ hc]
    exact ⟨by simp, fun k hk => nth_append_left _ _ _ hk⟩
theorem tRow_sets (nx : List (List Int)) (i : Nat) (t : Tour) : ∀ k, t.sets.length ≤ (tRow nx i t k).sets.length ∧ ∀ j, j < t.sets.length → nth (tRow nx i t k).sets j = nth t.sets j
  | 0 => ⟨Nat.le_refl _, fun _ _ => rfl⟩
  | k + 1 => by
    rw [tRow_succ]
    obtain ⟨h1, h2⟩ := tRow_sets nx i t k
    obtain ⟨h3, h4⟩ := tStep_sets nx i k (tRow nx i t k)
    exact ⟨by omega, fun j hj => by rw [h4 j (by omega), h2 j hj]⟩
theorem TOk.row {a : Aut} (ha : autOk a = true) {t : Tour} (h : TOk a t) (i : Nat) (hi : i < t.sets.length) : ∀ k, k ≤ a.nx.length → TOk a (tRow a.nx i t k)
  | 0, _ => h
  | k + 1, hk => by
    rw [tRow_succ]
    have := (tRow_sets a.nx i t k).1
    exact (TOk.row ha h i hi k (by omega)).step ha i k (by omega) (by omega)
theorem TOk.to {a : Aut} (ha : autOk a = true) (f : Nat) (hf : f < 2 ^ a.n.toNat) : ∀ k, TOk a (tTo a.nx f k)
  | 0 => TOk.start (by have := autOk_l ha; omega) f hf
  | k + 1 => by
    rw [tTo_succ]
    split
    · rename_i h; exact (TOk.to ha f hf k).row ha k h _ (Nat.le_refl _)
    · exact TOk.to ha f hf k
theorem tour_end {a : Aut} (ha : autOk a = true) (f : Nat) (hf : f < 2 ^ a.n.toNat) (k : Nat) (h : (tTo a.nx f k).sets.length = k) : tourOf a.nx f = tTo a.nx f k := by
  have h1 := (TOk.to ha f hf k).len (autOk_n ha).2
  have := tTo_stop a.nx f k (by omega) (1024 - k)
  rwa [show k + (1024 - k) = 1024 by omega] at this
theorem tourOk {a : Aut} (ha : autOk a = true) (f : Nat) (hf : f < 2 ^ a.n.toNat) : TOk a (tourOf a.nx f) := TOk.to ha f hf _
end
section
def firstWord (p : Nat → Bool) (t : Tour) : List Int × Bool := match t.sets.findIdx? p with
  | some i => (nth t.words i, true)
  | none => ([], false)
theorem firstWord_hit (p : Nat → Bool) (t : Tour) (k : Nat) (hk : k < t.sets.length) (h : p (nth t.sets k) = true) (hb : ∀ j, j < k → p (nth t.sets j) = false) : firstWord p t = (nth t.words k, true) := by
  have : t.sets.findIdx? p = some k := by
    rw [List.findIdx?_eq_some_iff_getElem]
    refine ⟨hk, by rw [← nth_eq t.sets k hk]; exact h, fun j hj => ?_⟩
    rw [← nth_eq t.sets j (by omega)]; simp [hb j hj]
  simp [firstWord, this]
theorem firstWord_none (p : Nat → Bool) (t : Tour) (hb : ∀ j, j < t.sets.length → p (nth t.sets j) = false) : firstWord p t = ([], false) := by
  have : t.sets.findIdx? p = none := by
    rw [List.findIdx?_eq_none_iff]
    intro x hx; obtain ⟨i, hi, rfl⟩ := mem_nth t.sets x hx; exact hb i hi
  simp [firstWord, this]
theorem firstWord_len {a : Aut} {t : Tour} (h : TOk a t) (hn : a.n ≤ 10) (p : Nat → Bool) : (firstWord p t).1.length ≤ 1024 := by
  have hl := h.len hn
  unfold firstWord
  split
  · rename_i i e
    rw [List.findIdx?_eq_some_iff_getElem] at e
    obtain ⟨hi, _⟩ := e
    have := h.wl i hi
    show (nth t.words i).length ≤ 1024
    omega
  · simp
def told (r : List Int × Bool) : List Int × Int := if r.2 = true then (r.1, 0) else ([], 6)
theorem told_len (r : List Int × Bool) (n : Nat) (h : r.1.length ≤ n) : (told r).1.length ≤ n := by
  unfold told; split
  · exact h
  · simp
theorem tTo_first (nx : List (List Int)) (f : Nat) : ∀ k, 0 < (tTo nx f k).sets.length ∧ nth (tTo nx f k).sets 0 = f
  | 0 => by simp [tTo_zero, tStart, nth]
  | k + 1 => by
    obtain ⟨h1, h2⟩ := tTo_first nx f k
    rw [tTo_succ]
    split
    · obtain ⟨h3, h4⟩ := tRow_sets nx k (tTo nx f k) nx.length
      exact ⟨by omega, by rw [h4 0 h1, h2]⟩
    · exact ⟨h1, h2⟩
theorem tour_first (nx : List (List Int)) (f : Nat) : nth (tourOf nx f).sets 0 = f := (tTo_first nx f 1024).2
/-- The least number of states, of m and the first k sets. -/
def leastTo (sets : List Nat) (m : Nat) (k : Nat) : Nat := (sets.take k).foldl (fun m f => min m (setOf f).length) m
theorem leastTo_zero (sets : List Nat) (m : Nat) : leastTo sets m 0 = m := rfl
theorem leastTo_succ (sets : List Nat) (m k : Nat) (h : k < sets.length) : leastTo sets m (k + 1) = min (leastTo sets m k) (setOf (nth sets k)).length := by
  unfold leastTo
  rw [take_succ_nth sets k h, List.foldl_append]; rfl
theorem leastTo_le (sets : List Nat) (m : Nat) : ∀ k, leastTo sets m k ≤ m := by
  intro k
  induction k with
  | zero => exact Nat.le_refl _
  | succ k ih =>
    by_cases h : k < sets.length
    · rw [leastTo_succ _ _ _ h]; omega
    · have : leastTo sets m (k + 1) = leastTo sets m k := by
        unfold leastTo; rw [List.take_of_length_le (by omega), List.take_of_length_le (by omega)]
      omega
/-- The least number of states to which words lead from a set. -/
def leastOf (nx : List (List Int)) (f : Nat) : Nat := leastTo (tourOf nx f).sets (setOf f).length (tourOf nx f).sets.length
def RankOfSet (a : Aut) (set : List Int) : Int × Int := if autOk a = true then (if setB set a.n = true then ((leastOf a.nx (orB set) : Nat), 0) else (0, 2)) else (0, 1)
def ShortestTo (a : Aut) (s : Int) : List Int × Int := if autOk a = true then (if inB s 0 (a.n - 1) = true then told (firstWord (fun f => f == 2 ^ s.toNat) (tourOf a.nx (full a.n))) else ([], 2)) else ([], 1)
def ShortestFor (a : Aut) (set : List Int) : List Int × Int := if autOk a = true then (if setB set a.n = true then told (firstWord smallB (tourOf a.nx (orB set))) else ([], 2)) else ([], 1)
def SetWord (a : Aut) (set : List Int) : List Int × Int := if autOk a = true then (if setB set a.n = true then told (firstWord (fun f => f == orB set) (tourOf a.nx (full a.n))) else ([], 2)) else ([], 1)
/-- The pair of two states, as bits. -/
def pairOf (s t : Int) : Nat := 2 ^ s.toNat ||| 2 ^ t.toNat
def MergingWord (a : Aut) (s t : Int) : List Int × Int := if autOk a = true then (if (inB s 0 (a.n - 1) && inB t 0 (a.n - 1)) = true then told (firstWord smallB (tourOf a.nx (pairOf s t))) else ([], 2)) else ([], 1)
end
section
structure Bfs (α : Type) where
  list : List α
  words : List (List Int)
section
variable {α : Type} [DecidableEq α] [Inhabited α] (g : Nat → α → Option α)
def bStep (i l : Nat) (t : Bfs α) : Bfs α := match g l (nth t.list i) with
  | none => t
  | some x => if x ∈ t.list then t else ⟨t.list ++ [x], t.words ++ [nth t.words i ++ [(l : Int)]]⟩
def bRow (i : Nat) (t : Bfs α) (k : Nat) : Bfs α := (List.range k).foldl (fun t l => bStep g i l t) t
def bStart (s : α) : Bfs α := ⟨[s], [[]]⟩
def bTo (L : Nat) (s : α) (k : Nat) : Bfs α := (List.range k).foldl (fun t i => if i < t.list.length then bRow g i t L else t) (bStart s)
theorem bRow_zero (i : Nat) (t : Bfs α) : bRow g i t 0 = t := rfl
theorem bRow_succ (i : Nat) (t : Bfs α) (k : Nat) : bRow g i t (k + 1) = bStep g i k (bRow g i t k) := by simp [bRow, List.range_succ]
theorem bTo_zero (L : Nat) (s : α) : bTo g L s 0 = bStart s := rfl
theorem bTo_succ (L : Nat) (s : α) (k : Nat) : bTo g L s (k + 1) = if k < (bTo g L s k).list.length then bRow g k (bTo g L s k) L else bTo g L s k := by
  unfold bTo; rw [List.range_succ, List.foldl_append]; rfl
theorem bTo_stop (L : Nat) (s : α) (k : Nat) (h : (bTo g L s k).list.length ≤ k) : ∀ d, bTo g L s (k + d) = bTo g L s k
  | 0 => rfl
  | d + 1 => by
    have ih := bTo_stop L s k h d
    rw [← Nat.add_assoc, bTo_succ, ih, if_neg (by omega)]
theorem bStep_none (i l : Nat) (t : Bfs α) (h : g l (nth t.list i) = none) : bStep g i l t = t := by unfold bStep; rw [h]
theorem bStep_has (i l : Nat) (t : Bfs α) (x : α) (h : g l (nth t.list i) = some x) (hx : x ∈ t.list) : bStep g i l t = t := by unfold bStep; rw [h]; simp only []; rw [if_pos hx]
theorem bStep_new (i l : Nat) (t : Bfs α) (x : α) (h : g l (nth t.list i) = some x) (hx : x ∉ t.list) : bStep g i l t = ⟨t.list ++ [x], t.words ++ [nth t.words i ++ [(l : Int)]]⟩ := by unfold bStep; rw [h]; simp only []; rw [if_neg hx]
/-- What holds at each moment: P of each thing that is reached. -/
structure BOk (P : α → Prop) (L : Nat) (t : Bfs α) : Prop where
  nodup : t.list.Nodup
  ok : ∀ x, x ∈ t.list → P x
  lw : t.words.length = t.list.length
  pos : 0 < t.list.length
  wl : ∀ i, i < t.list.length → (nth t.words i).length ≤ i
  lets : ∀ i, i < t.list.length → ∀ x, x ∈ nth t.words i → 0 ≤ x ∧ x < (L : Int)
variable {g} {P : α → Prop} {L : Nat}
omit [DecidableEq α] [Inhabited α] in
theorem BOk.start (s : α) (h : P s) : BOk P L (bStart s) where
  nodup := by simp [bStart]
  ok := by simp [bStart]; exact h
  lw := rfl
  pos := by simp [bStart]
  wl := by
    intro i hi
    simp [bStart] at hi
    subst hi
    simp [bStart, nth]
  lets := by
    intro i hi
    simp [bStart] at hi
    subst hi
    simp [bStart, nth]
theorem BOk.step (hg : ∀ l x y, l < L → P x → g l x = some y → P y) {t : Bfs α} (h : BOk P L t) (i l : Nat) (hi : i < t.list.length) (hl : l < L) : BOk P L (bStep g i l t) := by
  cases e : g l (nth t.list i) with
  | none => rw [bStep_none g i l t e]; exact h
  | some x =>
    by_cases hx : x ∈ t.list
    · rw [bStep_has g i l t x e hx]; exact h
    · rw [bStep_new g i l t x e hx]
      have hP := hg l _ x hl (h.ok _ (nth_mem _ _ hi)) e
      refine ⟨?_, ?_, by simp [h.lw], by simp, ?_, ?_⟩
      · rw [List.nodup_append]
        refine ⟨h.nodup, by simp, ?_⟩
        intro y hy z hz
        simp at hz
        subst hz
        rintro rfl
        exact hx hy
      · intro y hy
        rcases List.mem_append.1 hy with h1 | h1
        · exact h.ok y h1
        · simp at h1; subst h1; exact hP
      · intro k hk
        simp at hk
        simp only []
        by_cases e : k < t.list.length
        · rw [nth_append_left _ _ _ (by rw [h.lw]; exact e)]; exact h.wl k e
        · have e1 : k = t.words.length := by rw [h.lw]; omega
          have := h.wl i hi
          rw [e1, nth_append_here]
          rw [h.lw]
          simp; omega
      · intro k hk
        simp at hk
        simp only []
        by_cases e : k < t.list.length
        · rw [nth_append_left _ _ _ (by rw [h.lw]; exact e)]; exact h.lets k e
        · have e1 : k = t.words.length := by rw [h.lw]; omega
          rw [e1, nth_append_here]
          intro y hy
          rcases List.mem_append.1 hy with h1 | h1
          · exact h.lets i hi y h1
          · simp at h1; subst h1; omega
/-- t' goes on from t. -/
def BPre (t t' : Bfs α) : Prop := t.list.length ≤ t'.list.length ∧ ∀ j, j < t.list.length → nth t'.list j = nth t.list j ∧ (t.words.length = t.list.length → nth t'.words j = nth t.words j)
omit [DecidableEq α] in
theorem BPre.refl (t : Bfs α) : BPre t t := ⟨Nat.le_refl _, fun _ _ => ⟨rfl, fun _ => rfl⟩⟩
theorem bStep_lw (i l : Nat) (t : Bfs α) (h : t.words.length = t.list.length) : (bStep g i l t).words.length = (bStep g i l t).list.length := by
  unfold bStep
  split
  · exact h
  · split
    · exact h
    · simp [h]
omit [DecidableEq α] in
theorem BPre.trans {a b c : Bfs α} (h : BPre a b) (hb : a.words.length = a.list.length → b.words.length = b.list.length) (k : BPre b c) : BPre a c :=
  ⟨Nat.le_trans h.1 k.1, fun j hj => ⟨by rw [(k.2 j (by have := h.1; omega)).1, (h.2 j hj).1], fun e => by rw [(k.2 j (by have := h.1; omega)).2 (hb e), (h.2 j hj).2 e]⟩⟩
theorem bStep_pre (i l : Nat) (t : Bfs α) : BPre t (bStep g i l t) := by
  unfold bStep
  split
  · exact BPre.refl _
  · split
    · exact BPre.refl _
    · exact ⟨by simp, fun j hj => ⟨nth_append_left _ _ _ hj, fun e => nth_append_left _ _ _ (by rw [e]; exact hj)⟩⟩
theorem bRow_lw (i : Nat) (t : Bfs α) (h : t.words.length = t.list.length) : ∀ k, (bRow g i t k).words.length = (bRow g i t k).list.length
  | 0 => h
  | k + 1 => by rw [bRow_succ]; exact bStep_lw _ _ _ (bRow_lw i t h k)
theorem bRow_pre (i : Nat) (t : Bfs α) (k : Nat) : ∀ d, BPre (bRow g i t k) (bRow g i t (k + d))
  | 0 => BPre.refl _
  | d + 1 => by
    rw [← Nat.add_assoc, bRow_succ]
    refine (bRow_pre i t k d).trans (fun h => ?_) (bStep_pre _ _ _)
    induction d with
    | zero => exact h
    | succ d ih => rw [← Nat.add_assoc, bRow_succ]; exact bStep_lw _ _ _ ih
theorem bRow_pre' (i : Nat) (t : Bfs α) (k : Nat) : BPre t (bRow g i t k) := by
  have := bRow_pre (g := g) i t 0 k
  rwa [bRow_zero, Nat.zero_add] at this
theorem bTo_lw (s : α) : ∀ k, (bTo g L s k).words.length = (bTo g L s k).list.length
  | 0 => rfl
  | k + 1 => by
    rw [bTo_succ]
    split
    · exact bRow_lw _ _ (bTo_lw s k) _
    · exact bTo_lw s k
theorem bTo_pre (s : α) (k : Nat) : ∀ d, BPre (bTo g L s k) (bTo g L s (k + d))
  | 0 => BPre.refl _
  | d + 1 => by
    rw [← Nat.add_assoc]
    refine (bTo_pre s k d).trans (fun _ => bTo_lw _ _) ?_
    rw [bTo_succ]
    split
    · exact bRow_pre' _ _ _
    · exact BPre.refl _
/-- From the midst of row k to any later end. -/
theorem bMid_pre (s : α) (k l N : Nat) (hk : k < N) (hl : l ≤ L) (hlt : k < (bTo g L s k).list.length) : BPre (bRow g k (bTo g L s k) l) (bTo g L s N) := by
  have h1 := bRow_pre (g := g) k (bTo g L s k) l (L - l)
  have h2 := bTo_pre (g := g) (L := L) s (k + 1) (N - (k + 1))
  rw [show l + (L - l) = L by omega] at h1
  rw [show k + 1 + (N - (k + 1)) = N by omega, bTo_succ, if_pos hlt] at h2
  exact h1.trans (fun _ => bRow_lw _ _ (bTo_lw _ _) _) h2
theorem BOk.row (hg : ∀ l x y, l < L → P x → g l x = some y → P y) {t : Bfs α} (h : BOk P L t) (i : Nat) (hi : i < t.list.length) : ∀ k, k ≤ L → BOk P L (bRow g i t k)
  | 0, _ => h
  | k + 1, hk => by
    rw [bRow_succ]
    have := (bRow_pre' (g := g) i t k).1
    exact (BOk.row hg h i hi k (by omega)).step hg i k (by omega) (by omega)
theorem BOk.to (hg : ∀ l x y, l < L → P x → g l x = some y → P y) (s : α) (hs : P s) : ∀ k, BOk P L (bTo g L s k)
  | 0 => BOk.start s hs
  | k + 1 => by
    rw [bTo_succ]
    split
    · rename_i h; exact (BOk.to hg s hs k).row hg k h _ (Nat.le_refl _)
    · exact BOk.to hg s hs k
theorem bTo_end (s : α) (k N : Nat) (hk : k ≤ N) (h : (bTo g L s k).list.length = k) : bTo g L s N = bTo g L s k := by
  have := bTo_stop g L s k (by omega) (N - k)
  rwa [show k + (N - k) = N by omega] at this
omit [DecidableEq α] [Inhabited α] in
/-- Nothing is reached twice, so no more than there are numbers for. -/
theorem BOk.bound {t : Bfs α} (h : BOk P L t) (enc : α → Nat) (N : Nat) (he : ∀ x, P x → enc x < N) (hi : ∀ x y, P x → P y → enc x = enc y → x = y) : t.list.length ≤ N := by
  have := nodup_bound N (t.list.map enc) ?_ ?_
  · simpa using this
  · rw [List.nodup_iff_pairwise_ne, List.pairwise_map]
    have hp := List.nodup_iff_pairwise_ne.1 h.nodup
    exact hp.imp_of_mem fun {a b} ha hb hab e => hab (hi a b (h.ok a ha) (h.ok b hb) e)
  · intro x hx
    obtain ⟨y, hy, rfl⟩ := List.mem_map.1 hx
    exact he y (h.ok y hy)
/-- The first thing of which something is so, with its word. -/
def bFirst (p : α → Bool) (t : Bfs α) : List Int × Bool := match t.list.findIdx? p with
  | some i => (nth t.words i, true)
  | none => ([], false)
omit [DecidableEq α] in
theorem bFirst_hit (p : α → Bool) (t : Bfs α) (k : Nat) (hk : k < t.list.length) (h : p (nth t.list k) = true) (hb : ∀ j, j < k → p (nth t.list j) = false) : bFirst p t = (nth t.words k, true) := by
  have : t.list.findIdx? p = some k := by
    rw [List.findIdx?_eq_some_iff_getElem]
    refine ⟨hk, by rw [← nth_eq t.list k hk]; exact h, fun j hj => ?_⟩
    rw [← nth_eq t.list j (by omega)]; simp [hb j hj]
  simp [bFirst, this]
omit [DecidableEq α] in
theorem bFirst_none (p : α → Bool) (t : Bfs α) (hb : ∀ j, j < t.list.length → p (nth t.list j) = false) : bFirst p t = ([], false) := by
  have : t.list.findIdx? p = none := by
    rw [List.findIdx?_eq_none_iff]
    intro x hx; obtain ⟨i, hi, rfl⟩ := mem_nth t.list x hx; exact hb i hi
  simp [bFirst, this]
/-- The first letter behind the first thing for which something is so. -/
def bHit (hit : Nat → α → Bool) (L : Nat) (t : Bfs α) : List Int × Bool := match t.list.findIdx? (fun x => ((List.range L).find? fun l => hit l x).isSome) with
  | some i => match (List.range L).find? fun l => hit l (nth t.list i) with
    | some l => (nth t.words i ++ [(l : Int)], true)
    | none => ([], false)
  | none => ([], false)
omit [DecidableEq α] in
theorem bHit_hit (hit : Nat → α → Bool) (t : Bfs α) (k l : Nat) (hk : k < t.list.length) (hl : l < L) (h : hit l (nth t.list k) = true) (hb : ∀ m, m < l → hit m (nth t.list k) = false)
    (hbb : ∀ j m, j < k → m < L → hit m (nth t.list j) = false) : bHit hit L t = (nth t.words k ++ [(l : Int)], true) := by
  have h1 : (List.range L).find? (fun l => hit l (nth t.list k)) = some l := by
    rw [List.find?_eq_some_iff_getElem]
    refine ⟨h, l, by simpa using hl, by simp, fun j hj => ?_⟩
    simp [hb j hj]
  have : t.list.findIdx? (fun x => ((List.range L).find? fun l => hit l x).isSome) = some k := by
    rw [List.findIdx?_eq_some_iff_getElem]
    refine ⟨hk, by rw [← nth_eq t.list k hk, h1]; rfl, fun j hj => ?_⟩
    rw [← nth_eq t.list j (by omega)]
    simp only [List.find?_isSome, List.mem_range, not_exists, not_and]
    intro m hm
    rw [hbb j m hj hm]; simp
  unfold bHit
  rw [this]
  simp only [h1]
omit [DecidableEq α] in
theorem bHit_none (hit : Nat → α → Bool) (t : Bfs α) (hbb : ∀ j m, j < t.list.length → m < L → hit m (nth t.list j) = false) : bHit hit L t = ([], false) := by
  have : t.list.findIdx? (fun x => ((List.range L).find? fun l => hit l x).isSome) = none := by
    rw [List.findIdx?_eq_none_iff]
    intro x hx
    obtain ⟨i, hi, rfl⟩ := mem_nth t.list x hx
    rw [Bool.eq_false_iff]
    simp only [ne_eq, List.find?_isSome, List.mem_range, not_exists, not_and]
    intro m hm
    rw [hbb i m hi hm]; simp
  simp [bHit, this]
end
end
section
def findL (xss : List (List Int)) (xs : List Int) : Int := match xss.findIdx? (fun r => decide (r = xs)) with
  | some i => (i : Int)
  | none => -1
theorem findL_hit (xss : List (List Int)) (xs : List Int) (k : Nat) (hk : k < xss.length) (h : nth xss k = xs) (hb : ∀ j, j < k → nth xss j ≠ xs) : findL xss xs = k := by
  have : xss.findIdx? (fun r => decide (r = xs)) = some k := by
    rw [List.findIdx?_eq_some_iff_getElem]
    refine ⟨hk, by rw [← nth_eq xss k hk, h]; simp, fun j hj => ?_⟩
    rw [← nth_eq xss j (by omega)]
    simp [hb j hj]
  unfold findL
  rw [this]
theorem findL_none (xss : List (List Int)) (xs : List Int) (hb : ∀ j, j < xss.length → nth xss j ≠ xs) : findL xss xs = -1 := by
  have : xss.findIdx? (fun r => decide (r = xs)) = none := by
    rw [List.findIdx?_eq_none_iff]
    intro r hr
    obtain ⟨i, hi, rfl⟩ := mem_nth xss r hr
    simp [hb i hi]
  unfold findL
  rw [this]
theorem findL_mem {xss : List (List Int)} {xs : List Int} (h : xs ∈ xss) : ∃ k, k < xss.length ∧ findL xss xs = k ∧ nth xss k = xs := by
  cases e : xss.findIdx? (fun r => decide (r = xs)) with
  | none =>
    rw [List.findIdx?_eq_none_iff] at e
    have := e xs h
    simp at this
  | some k =>
    have e' := e
    rw [List.findIdx?_eq_some_iff_getElem] at e
    obtain ⟨hk, h1, _⟩ := e
    refine ⟨k, hk, ?_, ?_⟩
    · unfold findL; rw [e']
    · rw [nth_eq _ _ hk]; simpa using h1
theorem findL_not {xss : List (List Int)} {xs : List Int} (h : xs ∉ xss) : findL xss xs = -1 :=
  findL_none _ _ fun _j hj e => h (e ▸ nth_mem _ _ hj)
end
section
/-- The place of a number in a list. -/
def placeOf (xs : List Int) (n : Int) : Int := match xs.findIdx? (fun x => decide (x = n)) with
  | some i => i
  | none => -1
def renRow (order row : List Int) : List Int := order.map fun s => placeOf order (nth row s.toNat)
def renOf (a : Aut) (order : List Int) : Aut := ⟨order.length, a.nx.map fun row => renRow order row⟩
theorem placeOf_iota (n : Nat) (x : Int) (h0 : 0 ≤ x) (h1 : x < n) : placeOf (iota 0 n) x = x := by
  have hl : x.toNat < (iota 0 n).length := by rw [iota_length]; omega
  have : (iota 0 n).findIdx? (fun y => decide (y = x)) = some x.toNat := by
    rw [List.findIdx?_eq_some_iff_getElem]
    refine ⟨hl, ?_, fun j hj => ?_⟩
    · rw [← nth_eq _ _ hl, nth_iota _ _ _ (by omega)]; simp; omega
    · rw [← nth_eq _ _ (by omega), nth_iota _ _ _ (by rw [iota_length] at hl; omega)]; simp; omega
  unfold placeOf
  rw [this]; simp; omega
theorem renRow_iota (n : Nat) (row : List Int) (hl : row.length = n) (h : ∀ i, i < row.length → 0 ≤ nth row i ∧ nth row i < n) : renRow (iota 0 n) row = row := by
  apply ext_nth
  · simp [renRow, iota_length, hl]
  · intro i hi
    simp [renRow, iota_length] at hi
    unfold renRow
    rw [nth_map _ _ _ (by rw [iota_length]; omega), nth_iota _ _ _ (by omega)]
    have := h i (by omega)
    rw [show (0 + (i : Int)).toNat = i by omega]
    exact placeOf_iota n _ this.1 this.2
theorem renOf_all {a : Aut} (h : autOk a = true) : renOf a (iota 0 a.n.toNat) = a := by
  have hn := autOk_n h
  unfold renOf
  have e1 : ((iota 0 a.n.toNat).length : Int) = a.n := by rw [iota_length]; omega
  have e2 : a.nx.map (fun row => renRow (iota 0 a.n.toNat) row) = a.nx := by
    apply ext_nth
    · simp
    · intro i hi
      rw [List.length_map] at hi
      rw [nth_map _ _ _ hi]
      obtain ⟨h1, h2⟩ := autOk_row h i hi
      exact renRow_iota _ _ (by omega) (fun j hj => by have := h2 j hj; omega)
  rw [e1, e2]
theorem actOf_nil (a : Aut) : actOf a [] = iota 0 a.n.toNat := by
  unfold actOf runOf
  simp
/-- An order all of whose numbers are states. -/
def statesIn (a : Aut) (order : List Int) : Prop := ∀ i, i < order.length → 0 ≤ nth order i ∧ nth order i < a.n
theorem statesIn_all (a : Aut) : statesIn a (iota 0 a.n.toNat) := fun i hi => by
  rw [iota_length] at hi
  rw [nth_iota _ _ _ hi]; omega
theorem total_bound (xss : List (List Int)) (K : Nat) (h : ∀ i, i < xss.length → (nth xss i).length ≤ K) : total xss ≤ xss.length * K := by
  induction xss with
  | nil => simp [total]
  | cons x r ih =>
    have h0 := h 0 (by simp)
    have h1 := ih (fun i hi => by have := h (i + 1) (by simpa using hi); simpa [nth] using this)
    simp [nth] at h0
    simp only [total, List.length_cons, Nat.add_mul, Nat.one_mul]
    omega
theorem autOk_big {a : Aut} (h : autOk a = true) : a.nx.length ≤ 1048576 ∧ total a.nx ≤ 1073741824 := by
  have h1 := autOk_l h
  have h2 := autOk_n h
  have := total_bound a.nx 10 (fun i hi => by have := (autOk_row h i hi).1; omega)
  omega
end
section
def PMach (w : World) (v : Value) (m : Mach) : Prop := ∃ b r1 r2, v = .pointer (some ⟨b, 0, none⟩) ∧ w.cell? ⟨b, 0, none⟩ = some (.int .i64 m.n) ∧ w.cell? ⟨b, 1, none⟩ = some (.int .i64 m.o) ∧ w.cell? ⟨b, 2, none⟩ = some r1 ∧ w.cell? ⟨b, 3, none⟩ = some r2 ∧ RowsAt w r1 m.nx ∧ RowsAt w r2 m.out
theorem PMach.new {w w' : World} {v : Value} {m : Mach} (h : PMach w v m) (hw : New w w') : PMach w' v m :=
  let ⟨b, r1, r2, e, h0, h1, h2, h3, h4, h5⟩ := h; ⟨b, r1, r2, e, hw.cell h0, hw.cell h1, hw.cell h2, hw.cell h3, h4.new hw, h5.new hw⟩
theorem PMach.box {w : World} {A1 A2 : Option Addr} {c1 c2 : Nat} {m : Mach} (h1 : RowsAt w (.slice A1 m.nx.length c1) m.nx) (h2 : RowsAt w (.slice A2 m.out.length c2) m.out) (t : TypeId) :
    PMach (w.alloc (.cells #[.int .i64 m.n, .int .i64 m.o, .slice A1 m.nx.length c1, .slice A2 m.out.length c2] t)) (.pointer (some ⟨w.heap.size, 0, none⟩)) m :=
  ⟨_, _, _, rfl, by unfold World.cell?; rw [heap_alloc_new]; rfl, by unfold World.cell?; rw [heap_alloc_new]; rfl, by unfold World.cell?; rw [heap_alloc_new]; rfl, by unfold World.cell?; rw [heap_alloc_new]; rfl, h1.new ((New.refl _).alloc _), h2.new ((New.refl _).alloc _)⟩
def Mach.aut (m : Mach) : Aut := ⟨m.n, m.nx⟩
/-- A row of outputs. -/
def outOk (xs : List Int) (n o : Int) : Bool := decide ((xs.length : Int) = n) && allIn xs 0 (o - 1)
def outsOk (m : Mach) : Bool := m.out.all fun r => outOk r m.n m.o
def machOk (m : Mach) : Bool := autOk m.aut && (inB m.o 1 3 && (decide (m.out.length = m.nx.length) && outsOk m))
theorem outsOk_iff (m : Mach) : outsOk m = true ↔ ∀ i, i < m.out.length → outOk (nth m.out i) m.n m.o = true := by
  unfold outsOk
  rw [List.all_eq_true]
  constructor
  · intro h i hi; exact h _ (nth_mem m.out i hi)
  · intro h x hx; obtain ⟨i, hi, rfl⟩ := mem_nth m.out x hx; exact h i hi
theorem outsOk_false (m : Mach) (i : Nat) (hi' : i < m.out.length) (h : outOk (nth m.out i) m.n m.o = false) : outsOk m = false := by
  cases e : outsOk m with
  | false => rfl
  | true => rw [(outsOk_iff m).1 e i hi'] at h; cases h
end
section
theorem machOk_parts {m : Mach} (h : machOk m = true) : autOk m.aut = true ∧ (1 ≤ m.o ∧ m.o ≤ 3) ∧ m.out.length = m.nx.length ∧
    ∀ i, i < m.out.length → ((nth m.out i).length : Int) = m.n ∧ ∀ j, j < (nth m.out i).length → 0 ≤ nth (nth m.out i) j ∧ nth (nth m.out i) j < m.o := by
  unfold machOk at h
  simp only [Bool.and_eq_true, decide_eq_true_eq] at h
  obtain ⟨h1, h2, h3, h4⟩ := h
  refine ⟨h1, (inB_iff _ _ _).1 h2, h3, fun i hi => ?_⟩
  have := (outsOk_iff m).1 h4 i hi
  unfold outOk at this
  simp only [Bool.and_eq_true, decide_eq_true_eq] at this
  refine ⟨this.1, fun j hj => ?_⟩
  have := (inB_iff _ _ _).1 ((allIn_iff _ _ _).1 this.2 j hj)
  omega
def outsTo (m : Mach) (s : Int) (ws : List Int) (k : Nat) : List Int := (List.range k).map fun i => nth (nth m.out (nth ws i).toNat) (runOf m.nx s (ws.take i)).toNat
def outsOf (m : Mach) (s : Int) (ws : List Int) : List Int := outsTo m s ws ws.length
theorem outsTo_succ (m : Mach) (s : Int) (ws : List Int) (k : Nat) : outsTo m s ws (k + 1) = outsTo m s ws k ++ [nth (nth m.out (nth ws k).toNat) (runOf m.nx s (ws.take k)).toNat] := list_range_snoc _ _
theorem outsTo_len (m : Mach) (s : Int) (ws : List Int) (k : Nat) : (outsTo m s ws k).length = k := by simp [outsTo]
def OutputsOf (m : Mach) (s : Int) (ws : List Int) : List Int × Int × Int :=
  if machOk m = true then (if (inB s 0 (m.n - 1) && wordOk m.aut ws) = true then (outsOf m s ws, runOf m.nx s ws, 0) else ([], 0, 2)) else ([], 0, 1)
/-- Are two states told apart: before (tl), or afterwards? -/
def pairOk (m : Mach) (ws : List Int) (tl : Bool) (s t : Nat) : Bool := !(decide (outsOf m s ws = outsOf m t ws) && (tl || !decide (runOf m.nx s ws = runOf m.nx t ws)))
def tellsB (m : Mach) (ws : List Int) (tl : Bool) : Bool := (List.range m.n.toNat).all fun s => (List.range s).all fun t => pairOk m ws tl s t
theorem tellsB_iff (m : Mach) (ws : List Int) (tl : Bool) : tellsB m ws tl = true ↔ ∀ s, s < m.n.toNat → ∀ t, t < s → pairOk m ws tl s t = true := by
  unfold tellsB; simp [List.all_eq_true]
theorem tellsB_false (m : Mach) (ws : List Int) (tl : Bool) (s t : Nat) (hs : s < m.n.toNat) (ht : t < s) (h : pairOk m ws tl s t = false) : tellsB m ws tl = false := by
  cases e : tellsB m ws tl with
  | false => rfl
  | true => rw [(tellsB_iff m ws tl).1 e s hs t ht] at h; cases h
def Tells (m : Mach) (ws : List Int) (tl : Bool) : Bool × Int := if machOk m = true then (if wordOk m.aut ws = true then (tellsB m ws tl, 0) else (false, 2)) else (false, 1)
end
section
def partRow (xs : List Int) (n : Int) : Bool := decide ((xs.length : Int) = n) && allIn xs (-1) (n - 1)
def partRows (xss : List (List Int)) (n : Int) : Bool := xss.all fun r => partRow r n
def partOk (a : Aut) : Bool := inB a.n 1 10 && (inB a.nx.length 1 3 && partRows a.nx a.n)
theorem partRows_iff (xss : List (List Int)) (n : Int) : partRows xss n = true ↔ ∀ i, i < xss.length → partRow (nth xss i) n = true := by
  unfold partRows
  rw [List.all_eq_true]
  constructor
  · intro h i hi; exact h _ (nth_mem xss i hi)
  · intro h x hx; obtain ⟨i, hi, rfl⟩ := mem_nth xss x hx; exact h i hi
theorem partRows_false (xss : List (List Int)) (n : Int) (i : Nat) (hi' : i < xss.length) (h : partRow (nth xss i) n = false) : partRows xss n = false := by
  cases e : partRows xss n with
  | false => rfl
  | true => rw [(partRows_iff xss n).1 e i hi'] at h; cases h
theorem partOk_parts {a : Aut} (h : partOk a = true) : (1 ≤ a.n ∧ a.n ≤ 10) ∧ (1 ≤ a.nx.length ∧ a.nx.length ≤ 3) ∧
    ∀ i, i < a.nx.length → ((nth a.nx i).length : Int) = a.n ∧ ∀ j, j < (nth a.nx i).length → -1 ≤ nth (nth a.nx i) j ∧ nth (nth a.nx i) j < a.n := by
  unfold partOk at h
  simp only [Bool.and_eq_true] at h
  obtain ⟨h1, h2, h3⟩ := h
  have h2' := (inB_iff _ _ _).1 h2
  refine ⟨(inB_iff _ _ _).1 h1, by omega, fun i hi => ?_⟩
  have := (partRows_iff _ _).1 h3 i hi
  unfold partRow at this
  rw [Bool.and_eq_true, decide_eq_true_eq] at this
  refine ⟨this.1, fun j hj => ?_⟩
  have := (inB_iff _ _ _).1 ((allIn_iff _ _ _).1 this.2 j hj)
  omega
/-- Is there a gap at a member below k? -/
def badB (row : List Int) (f k : Nat) : Bool := (List.range k).any fun s => f.testBit s && decide (nth row s < 0)
theorem badB_succ (row : List Int) (f k : Nat) : badB row f (k + 1) = (badB row f k || (f.testBit k && decide (nth row k < 0))) := by
  simp [badB, List.range_succ]
theorem badB_more {f n : Nat} (row : List Int) (h : f < 2 ^ n) : ∀ k, badB row f (n + k) = badB row f n
  | 0 => rfl
  | k + 1 => by rw [← Nat.add_assoc, badB_succ, testBit_ge h (by omega), badB_more row h k]; simp
theorem badB_eq {f n : Nat} (row : List Int) (h : f < 2 ^ n) (hn : n ≤ 10) : badB row f 10 = badB row f n := by
  have := badB_more row h (10 - n)
  rw [show n + (10 - n) = 10 by omega] at this; exact this
theorem badB_mono (row : List Int) (f k s : Nat) (hs : s < k) (hb : f.testBit s = true) (hn : nth row s < 0) : badB row f k = true := by
  unfold badB
  rw [List.any_eq_true]
  exact ⟨s, List.mem_range.2 hs, by simp [hb, hn]⟩
theorem badB_list (row : List Int) (f : Nat) : ∀ k, badB row f k = (bitsTo f k).any fun s => decide (nth row s.toNat < 0)
  | 0 => rfl
  | k + 1 => by
    rw [badB_succ, bitsTo_succ, badB_list row f k, List.any_append]
    congr 1
    cases f.testBit k <;> simp
/-- Where a letter leads a set; none at a gap. -/
def pstep (row : List Int) (f : Nat) : Option Nat := if badB row f 10 = true then none else some (moved row f)
def prun (nx : List (List Int)) (f : Nat) (ws : List Int) : Option Nat := ws.foldl (fun o l => o.bind fun g => pstep (nth nx l.toNat) g) (some f)
theorem prun_take (nx : List (List Int)) (f : Nat) (ws : List Int) (k : Nat) (h : k < ws.length) : prun nx f (ws.take (k + 1)) = (prun nx f (ws.take k)).bind fun g => pstep (nth nx (nth ws k).toNat) g := by
  rw [take_succ_nth ws k h]; simp [prun]
theorem prun_none (nx : List (List Int)) (f : Nat) (ws : List Int) (k : Nat) (hk : k ≤ ws.length) (h : prun nx f (ws.take k) = none) : prun nx f ws = none := by
  have key : ∀ d, k + d ≤ ws.length → prun nx f (ws.take (k + d)) = none := by
    intro d
    induction d with
    | zero => intro _; exact h
    | succ d ih => intro hd; rw [← Nat.add_assoc, prun_take _ _ _ _ (by omega), ih (by omega)]; rfl
  have := key (ws.length - k) (by omega)
  rwa [show k + (ws.length - k) = ws.length by omega, List.take_length] at this
theorem moved_lt {a : Aut} (l f : Nat) (hn : a.n ≤ 10) (hlen : ((nth a.nx l).length : Int) = a.n) (hr : ∀ j, j < (nth a.nx l).length → nth (nth a.nx l) j < a.n) (h0 : 1 ≤ a.n) (hf : f < 2 ^ a.n.toNat) : moved (nth a.nx l) f < 2 ^ a.n.toNat := by
  rw [moved_eq (nth a.nx l) hf (by omega)]
  refine moveB_lt _ _ _ _ fun i hi _ => ?_
  have := hr i (by omega)
  omega
theorem prun_lt {a : Aut} (ha : partOk a = true) (ws : List Int) (hw : letters a ws) (f : Nat) (hf : f < 2 ^ a.n.toNat) : ∀ k, k ≤ ws.length → ∀ g, prun a.nx f (ws.take k) = some g → g < 2 ^ a.n.toNat := by
  obtain ⟨h1, h2, h3⟩ := partOk_parts ha
  intro k
  induction k with
  | zero => intro _ g hg; simp [prun] at hg; omega
  | succ k ih =>
    intro hk g hg
    rw [prun_take _ _ _ _ (by omega)] at hg
    cases e : prun a.nx f (ws.take k) with
    | none => rw [e] at hg; cases hg
    | some x =>
      rw [e] at hg
      have hx := ih (by omega) x e
      simp [pstep] at hg
      obtain ⟨_, rfl⟩ := hg
      have hl := hw k (by omega)
      obtain ⟨r1, r2⟩ := h3 (nth ws k).toNat (by omega)
      exact moved_lt _ _ h1.2 r1 (fun j hj => (r2 j hj).2) h1.1 hx
def IsCareful (p : Aut) (ws : List Int) : Bool × Int :=
  if partOk p = true then (if wordOk p ws = true then ((match prun p.nx (full p.n) ws with | some g => smallB g | none => false), 0) else (false, 2)) else (false, 1)
theorem wordOk_len (a b : Aut) (ws : List Int) (h : a.nx.length = b.nx.length) : wordOk a ws = wordOk b ws := by unfold wordOk; rw [h]
theorem full_cast (n : Nat) (_h : n ≤ 10) : ((full n : Nat) : Int) = 2 ^ n - 1 := by
  unfold full
  have := Nat.two_pow_pos n
  rw [cast_pow, Int.toNat_natCast]; omega
theorem full_cast' (n : Int) (h0 : 1 ≤ n) (h1 : n ≤ 10) : ((full n : Nat) : Int) = IntKind.u64.wrap (IntKind.u64.wrap (2 ^ n.toNat) - 1) := by
  have hp := pow10' n.toNat (by omega)
  have := Nat.two_pow_pos n.toNat
  rw [cast_pow, wrap_u64_nat _ (by omega), show ((2 ^ n.toNat : Nat) : Int) - 1 = ((2 ^ n.toNat - 1 : Nat) : Int) by omega, wrap_u64_nat _ (by omega)]
  rfl
end

end Go.Proofs.YthbebnfhplacnaaDoor
