/- Texts cut at a byte; the text of roads, and how it is read. -/
import Derived.Test.YthbebnfhplacnaaDoorCore
import Derived.Test.YthbebnfhplacnaaDoorPlains
import Derived.Test.YthbebnfhplacnaaDoorJoins
import Derived.WalkKit
import Derived.WalkSpells
import Derived.WalkLawsBesides
import Derived.Deep.QuietTactic
import Derived.Deep.OwnRows
import Derived.BigQuiet
import Derived.KernelRfl
import Derived.Lib.SplitLaws
import Derived.Lib.ParseIntB
import Derived.Lib.ItoaNum
namespace Go.Proofs.YthbebnfhplacnaaDoor
open Go.RowKit

/-- A text cut at a byte. -/
def splitC (c : UInt8) : List UInt8 → List (List UInt8)
  | [] => [[]]
  | b :: l => if b = c then [] :: splitC c l else (match splitC c l with | [] => [[b]] | h :: t => (b :: h) :: t)
theorem splitC_ne (c : UInt8) : ∀ l, splitC c l ≠ []
  | [] => by simp [splitC]
  | b :: l => by
    unfold splitC
    split
    · simp
    · split <;> simp
theorem splitC_none {c : UInt8} : ∀ {l : List UInt8}, c ∉ l → splitC c l = [l]
  | [], _ => rfl
  | b :: l, h => by
    have h1 : b ≠ c := fun e => h (by simp [e])
    have h2 : c ∉ l := fun e => h (by simp [e])
    unfold splitC
    rw [if_neg h1, splitC_none h2]
theorem splitC_cons {c : UInt8} (q : List UInt8) : ∀ {p : List UInt8}, c ∉ p → splitC c (p ++ c :: q) = p :: splitC c q
  | [], _ => by simp [splitC]
  | b :: p, h => by
    have h1 : b ≠ c := fun e => h (by simp [e])
    have h2 : c ∉ p := fun e => h (by simp [e])
    show splitC c (b :: (p ++ c :: q)) = _
    rw [splitC, if_neg h1, splitC_cons q h2]
theorem index_one (l : List UInt8) (c : UInt8) : (Go.Lib.index l [c] = -1 ∧ c ∉ l) ∨ ∃ i : Nat, Go.Lib.index l [c] = i ∧ i < l.length ∧ c ∉ l.take i ∧ l = l.take i ++ c :: l.drop (i + 1) := by
  have hocc : ∀ i, Go.Lib.occAt l [c] i = true ↔ l[i]? = some c := fun i => by
    unfold Go.Lib.occAt
    cases e : l.drop i with
    | nil =>
      have : l[i]? = none := by
        have := List.drop_eq_nil_iff.1 e
        simp [this]
      simp [this]
    | cons b r =>
      have : l[i]? = some b := by
        have h1 : (l.drop i)[0]? = some b := by rw [e]; rfl
        simpa using h1
      rw [this]
      simp [List.isPrefixOf]
      exact eq_comm
  rcases Go.Lib.index_spec l [c] with ⟨h1, h2⟩ | ⟨i, h1, h2, h3, h4⟩
  · refine Or.inl ⟨h1, fun hm => ?_⟩
    obtain ⟨i, hi, he⟩ := List.getElem_of_mem hm
    have := h2 i (by omega)
    rw [← Bool.not_eq_true, hocc] at this
    exact this (by simp [hi, he])
  · have hi := (hocc i).1 h3
    obtain ⟨hlt, he⟩ := List.getElem?_eq_some_iff.1 hi
    refine Or.inr ⟨i, h1, hlt, fun hm => ?_, ?_⟩
    · obtain ⟨j, hj, hje⟩ := List.getElem_of_mem hm
      rw [List.length_take] at hj
      have h5 := h4 j (by omega)
      rw [← Bool.not_eq_true, hocc] at h5
      refine h5 ?_
      rw [List.getElem_take] at hje
      rw [List.getElem?_eq_getElem (by omega), hje]
    · have : l.drop i = c :: l.drop (i + 1) := by rw [List.drop_eq_getElem_cons hlt, he]
      rw [← this, List.take_append_drop]
theorem splitK_c (c : UInt8) : ∀ (n : Nat) (l : List UInt8), l.length ≤ n → Go.Lib.splitK [c] 0 (Go.Lib.count l [c]) l = splitC c l
  | n, l, hn => by
    rcases index_one l c with ⟨h1, h2⟩ | ⟨i, h1, h2, h3, h4⟩
    · rw [Go.Lib.count_miss h1, splitC_none h2]; rfl
    · rw [Go.Lib.count_hit (by simp) h1, Nat.add_comm]
      unfold Go.Lib.splitK
      have hm : ¬ (Go.Lib.index l [c] == -1) = true := fun e => by have := beq_iff_eq.1 e; omega
      rw [if_neg hm, h1]
      cases n with
      | zero => omega
      | succ n =>
        have ih := splitK_c c n (l.drop (i + 1)) (by rw [List.length_drop]; omega)
        have e : ((i : Int)).toNat = i := by omega
        rw [e, List.length_singleton, Nat.add_zero, ih]
        conv => rhs; rw [h4]
        rw [splitC_cons _ h3]
theorem countC (c : UInt8) (l : List UInt8) : Go.Lib.count l [c] + 1 = (splitC c l).length := by
  have key : ∀ (n : Nat) (l : List UInt8), l.length ≤ n → Go.Lib.count l [c] + 1 = (splitC c l).length := by
    intro n
    induction n with
    | zero =>
      intro l h
      have : l = [] := List.eq_nil_of_length_eq_zero (by omega)
      subst this; rfl
    | succ n ih =>
      intro l h
      rcases index_one l c with ⟨h1, h2⟩ | ⟨i, h1, h2, h3, h4⟩
      · rw [Go.Lib.count_miss h1, splitC_none h2]; rfl
      · rw [Go.Lib.count_hit (by simp) h1]
        conv => rhs; rw [h4]
        rw [splitC_cons _ h3]
        have h6 := ih (l.drop (i + 1)) (by rw [List.length_drop]; omega)
        show 1 + Go.Lib.count (l.drop (i + 1)) [c] + 1 = (splitC c (l.drop (i + 1))).length + 1
        omega
  exact key _ l (Nat.le_refl _)
/-- A text is its parts, with the byte between them. -/
def joinC (c : UInt8) : List (List UInt8) → List UInt8
  | [] => []
  | [x] => x
  | x :: y :: r => x ++ c :: joinC c (y :: r)
theorem join_split (c : UInt8) : ∀ l, joinC c (splitC c l) = l
  | [] => rfl
  | b :: l => by
    have ih := join_split c l
    unfold splitC
    cases e : splitC c l with
    | nil => exact absurd e (splitC_ne c l)
    | cons h t =>
      rw [e] at ih
      by_cases hb : b = c
      · rw [if_pos hb]
        show [] ++ c :: joinC c (h :: t) = b :: l
        rw [ih, hb]; rfl
      · rw [if_neg hb]
        cases t with
        | nil => show b :: h = b :: l; rw [← ih]; rfl
        | cons y r => show (b :: h) ++ c :: joinC c (y :: r) = b :: l; rw [← ih]; rfl
/-- The number that the program reads in a word. -/
def numI (w : List UInt8) : Int := match Go.Lib.parseIntB 64 w with
  | .ok v => v
  | .range => Go.Lib.intSat 64 w
  | _ => 0
def numsI (line : List UInt8) : List Int := (splitC 32 line).tail.map numI
/-- The number that the reference reads in a word. -/
def numS (w : List UInt8) : Option Int :=
  if w.length < 1 ∨ 9 < w.length ∨ (w.head? = some 48 ∧ 1 < w.length) then none
  else if w.all (fun b => decide (48 ≤ b.toNat ∧ b.toNat ≤ 57)) = true then some (w.foldl (fun n b => n * 10 + ((b.toNat : Int) - 48)) 0) else none
def numsS : List (List UInt8) → Option (List Int)
  | [] => some []
  | w :: r => match numS w with
    | none => none
    | some n => (numsS r).map fun t => n :: t
def townB : List UInt8 := [116, 111, 119, 110]
/-- The text of a line, and of roads. -/
def lineT (xs : List Int) : List UInt8 := townB ++ (xs.flatMap fun n => [32, UInt8.ofNat (48 + n.toNat)]) ++ [10]
def textR (rows : List (List Int)) : List UInt8 := rows.flatMap lineT
/-- What the program reads. -/
def readI (l : List UInt8) : Aut × Int :=
  if 2000 < l.length then (⟨0, []⟩, 2) else
    if roadsOk ⟨(((splitC 10 l).filter fun x => !x.isEmpty).map numsI).length, ((splitC 10 l).filter fun x => !x.isEmpty).map numsI⟩ = true ∧ textR (((splitC 10 l).filter fun x => !x.isEmpty).map numsI) = l then
      (⟨(((splitC 10 l).filter fun x => !x.isEmpty).map numsI).length, ((splitC 10 l).filter fun x => !x.isEmpty).map numsI⟩, 0) else (⟨0, []⟩, 5)
def rowS (line : List UInt8) : Option (List Int) := if (splitC 32 line).head? = some townB then numsS (splitC 32 line).tail else none
def rowsS : List (List UInt8) → Option (List (List Int))
  | [] => some []
  | w :: r => match rowS w with
    | none => none
    | some n => (rowsS r).map fun t => n :: t
/-- What the reference reads. -/
def readS (l : List UInt8) : Aut × Int :=
  if 2000 < l.length then (⟨0, []⟩, 2) else
    if (splitC 10 l).getLast? = some [] then
      match rowsS (splitC 10 l).dropLast with
      | none => (⟨0, []⟩, 5)
      | some rows => if roadsOk ⟨((splitC 10 l).length : Int) - 1, rows⟩ = true then (⟨((splitC 10 l).length : Int) - 1, rows⟩, 0) else (⟨0, []⟩, 5)
    else (⟨0, []⟩, 5)

/-- A digit is read as what it is. -/
theorem numI_digit (n : Nat) (h : n < 7) : numI [UInt8.ofNat (48 + n)] = (n : Int) := by
  have h7 : n = 0 ∨ n = 1 ∨ n = 2 ∨ n = 3 ∨ n = 4 ∨ n = 5 ∨ n = 6 := by omega
  rcases h7 with rfl | rfl | rfl | rfl | rfl | rfl | rfl <;> decide +kernel
theorem numS_digit (n : Nat) (h : n < 7) : numS [UInt8.ofNat (48 + n)] = some (n : Int) := by
  have h7 : n = 0 ∨ n = 1 ∨ n = 2 ∨ n = 3 ∨ n = 4 ∨ n = 5 ∨ n = 6 := by omega
  rcases h7 with rfl | rfl | rfl | rfl | rfl | rfl | rfl <;> decide +kernel
theorem digit_not (n : Nat) (h : n < 7) (c : UInt8) (hc : c = 32 ∨ c = 10) : c ≠ UInt8.ofNat (48 + n) := by
  have h7 : n = 0 ∨ n = 1 ∨ n = 2 ∨ n = 3 ∨ n = 4 ∨ n = 5 ∨ n = 6 := by omega
  rcases hc with rfl | rfl <;> rcases h7 with rfl | rfl | rfl | rfl | rfl | rfl | rfl <;> decide
/-- A line's numbers are 0 to 6. -/
def few (xs : List Int) : Prop := ∀ x, x ∈ xs → 0 ≤ x ∧ x < 7
theorem split_tail : ∀ (xs : List Int), few xs → ∀ p : List UInt8, (32 : UInt8) ∉ p → splitC 32 (p ++ xs.flatMap fun n => [32, UInt8.ofNat (48 + n.toNat)]) = p :: xs.map fun n => [UInt8.ofNat (48 + n.toNat)]
  | [], _, p, hp => by simp [splitC_none hp]
  | x :: xs, h, p, hp => by
    have hx := h x (by simp)
    have h2 := split_tail xs (fun y hy => h y (by simp [hy])) [UInt8.ofNat (48 + x.toNat)] (by
      intro hm
      rw [List.mem_singleton] at hm
      exact digit_not x.toNat (by omega) 32 (Or.inl rfl) hm)
    have e : p ++ (x :: xs).flatMap (fun n => [32, UInt8.ofNat (48 + n.toNat)]) = p ++ 32 :: ([UInt8.ofNat (48 + x.toNat)] ++ xs.flatMap fun n => [32, UInt8.ofNat (48 + n.toNat)]) := by simp
    rw [e, splitC_cons _ hp, h2]
    rfl
/-- A line without its end. -/
def lineP (xs : List Int) : List UInt8 := townB ++ xs.flatMap fun n => [32, UInt8.ofNat (48 + n.toNat)]
theorem line_split {xs : List Int} (h : few xs) : splitC 32 (lineP xs) = townB :: xs.map fun n => [UInt8.ofNat (48 + n.toNat)] := split_tail xs h townB (by decide)
theorem line_numI {xs : List Int} (h : few xs) : numsI (lineP xs) = xs := by
  unfold numsI
  rw [line_split h]
  show (xs.map fun n => [UInt8.ofNat (48 + n.toNat)]).map numI = xs
  rw [List.map_map]
  conv => rhs; rw [← List.map_id xs]
  apply List.map_congr_left
  intro x hx
  have := h x hx
  show numI [UInt8.ofNat (48 + x.toNat)] = id x
  rw [numI_digit _ (by omega)]
  show (x.toNat : Int) = x
  omega
theorem numsS_digits : ∀ {xs : List Int}, few xs → numsS (xs.map fun n => [UInt8.ofNat (48 + n.toNat)]) = some xs
  | [], _ => rfl
  | x :: xs, h => by
    have hx := h x (by simp)
    rw [List.map_cons, numsS, numS_digit _ (by omega), numsS_digits (fun y hy => h y (by simp [hy]))]
    have e : (x.toNat : Int) = x := by omega
    simp [e]
theorem line_rowS {xs : List Int} (h : few xs) : rowS (lineP xs) = some xs := by
  unfold rowS
  rw [line_split h]
  show (if some townB = some townB then numsS (xs.map _) else none) = some xs
  rw [if_pos rfl, numsS_digits h]
theorem line_no10 {xs : List Int} (h : few xs) : (10 : UInt8) ∉ lineP xs := by
  unfold lineP
  intro hm
  rcases List.mem_append.1 hm with hm | hm
  · revert hm; decide
  · obtain ⟨x, hx, hm⟩ := List.mem_flatMap.1 hm
    have := h x hx
    simp only [List.mem_cons, List.mem_nil_iff, or_false] at hm
    rcases hm with hm | hm
    · revert hm; decide
    · exact digit_not x.toNat (by omega) 10 (Or.inr rfl) hm
theorem textR_split : ∀ {rows : List (List Int)}, (∀ xs, xs ∈ rows → few xs) → splitC 10 (textR rows) = rows.map lineP ++ [[]]
  | [], _ => rfl
  | xs :: rows, h => by
    have e : textR (xs :: rows) = lineP xs ++ 10 :: textR rows := by
      show (lineT xs) ++ textR rows = _
      unfold lineT lineP
      simp
    rw [e, splitC_cons _ (line_no10 (h xs (by simp))), textR_split (fun y hy => h y (by simp [hy]))]
    rfl
theorem few_of_ok {r : Aut} (h : roadsOk r = true) : ∀ xs, xs ∈ r.nx → few xs := fun xs hx x hm => by
  obtain ⟨⟨h1, h2⟩, h3, h4, h5⟩ := (roadsOk_iff r).1 h
  obtain ⟨i, hi, rfl⟩ := mem_nth _ _ hx
  obtain ⟨k, hk, rfl⟩ := mem_nth _ _ hm
  have := ((roadRow_iff _ _ _).1 (h5 i hi)).2 k hk
  unfold upAt at this
  rw [Bool.and_eq_true, inB_iff] at this
  omega
theorem lineP_ne (xs : List Int) : (!(lineP xs).isEmpty) = true := rfl
theorem filter_lines (rows : List (List Int)) : ((rows.map lineP ++ [[]]).filter fun x : List UInt8 => !x.isEmpty) = rows.map lineP := by
  rw [List.filter_append]
  have : (rows.map lineP).filter (fun x : List UInt8 => !x.isEmpty) = rows.map lineP := List.filter_eq_self.2 fun x hx => by
    obtain ⟨xs, _, rfl⟩ := List.mem_map.1 hx; rfl
  rw [this]; simp
theorem readI_text {r : Aut} (h : roadsOk r = true) (hl : (textR r.nx).length ≤ 2000) : readI (textR r.nx) = (r, 0) := by
  have hf := few_of_ok h
  have h3 := ((roadsOk_iff r).1 h).2.1
  have e : (((splitC 10 (textR r.nx)).filter fun x => !x.isEmpty).map numsI) = r.nx := by
    rw [textR_split hf, filter_lines, List.map_map]
    conv => rhs; rw [← List.map_id r.nx]
    apply List.map_congr_left
    intro xs hx
    exact line_numI (hf xs hx)
  have er : (⟨(r.nx.length : Int), r.nx⟩ : Aut) = r := by cases r; simp at h3 ⊢; exact h3
  unfold readI
  rw [if_neg (by omega), e, er, if_pos ⟨h, rfl⟩]
theorem rowsS_lines : ∀ {rows : List (List Int)}, (∀ xs, xs ∈ rows → few xs) → rowsS (rows.map lineP) = some rows
  | [], _ => rfl
  | xs :: rows, h => by
    rw [List.map_cons, rowsS, line_rowS (h xs (by simp)), rowsS_lines (fun y hy => h y (by simp [hy]))]
    rfl
theorem readS_text {r : Aut} (h : roadsOk r = true) (hl : (textR r.nx).length ≤ 2000) : readS (textR r.nx) = (r, 0) := by
  have hf := few_of_ok h
  have h3 := ((roadsOk_iff r).1 h).2.1
  have er : (⟨((r.nx.map lineP ++ [[]] : List (List UInt8)).length : Int) - 1, r.nx⟩ : Aut) = r := by
    cases r with | mk n nx => simp at h3 ⊢; omega
  unfold readS
  rw [if_neg (by omega), textR_split hf, if_pos (by simp)]
  have e : (r.nx.map lineP ++ [[]] : List (List UInt8)).dropLast = r.nx.map lineP := by simp
  rw [e, rowsS_lines hf]
  show (if roadsOk _ = true then _ else _) = _
  rw [er, if_pos h]
theorem fold_ge : ∀ (w : List UInt8) (i : Int), 0 ≤ i → (∀ b, b ∈ w → 48 ≤ b.toNat) → i ≤ w.foldl (fun n b => n * 10 + ((b.toNat : Int) - 48)) i
  | [], i, _, _ => Int.le_refl _
  | b :: w, i, h, hw => by
    have hb := hw b (by simp)
    have := fold_ge w (i * 10 + ((b.toNat : Int) - 48)) (by omega) (fun c hc => hw c (by simp [hc]))
    show i ≤ w.foldl _ (i * 10 + ((b.toNat : Int) - 48))
    omega
theorem byte_of (b : UInt8) (x : Int) (h : (b.toNat : Int) - 48 = x) (h0 : 0 ≤ x) (h7 : x < 7) : b = UInt8.ofNat (48 + x.toNat) := by
  have e : 48 + x.toNat = b.toNat := by omega
  rw [e]
  exact (UInt8.ofNat_toNat).symm
theorem numS_one {w : List UInt8} {x : Int} (h : numS w = some x) (h0 : 0 ≤ x) (h7 : x < 7) : w = [UInt8.ofNat (48 + x.toNat)] := by
  unfold numS at h
  by_cases h1 : w.length < 1 ∨ 9 < w.length ∨ (w.head? = some 48 ∧ 1 < w.length)
  · rw [if_pos h1] at h; cases h
  · rw [if_neg h1] at h
    by_cases h2 : w.all (fun b => decide (48 ≤ b.toNat ∧ b.toNat ≤ 57)) = true
    · rw [if_pos h2] at h
      rw [List.all_eq_true] at h2
      have hd : ∀ b, b ∈ w → 48 ≤ b.toNat ∧ b.toNat ≤ 57 := fun b hb => by have := h2 b hb; simpa using this
      injection h with h
      match w, h1, hd, h with
      | [], h1, _, _ => exact absurd (Or.inl (by simp)) h1
      | [a], _, _, h =>
        have e : (a.toNat : Int) - 48 = x := by
          rw [← h]
          show _ = (0 : Int) * 10 + ((a.toNat : Int) - 48)
          omega
        rw [byte_of a x e h0 h7]
      | a :: b :: t, h1, hd, h =>
        exfalso
        have ha := hd a (by simp)
        have hb := hd b (by simp)
        have hne : a ≠ 48 := fun e => h1 (Or.inr (Or.inr ⟨by simp [e], by simp⟩))
        have ha2 : a.toNat ≠ 48 := fun e => hne (by apply UInt8.toNat_inj.1; rw [e]; rfl)
        have hg := fold_ge t ((0 * 10 + ((a.toNat : Int) - 48)) * 10 + ((b.toNat : Int) - 48)) (by omega) (fun c hc => (hd c (by simp [hc])).1)
        have h3 : t.foldl (fun n b => n * 10 + ((b.toNat : Int) - 48)) ((0 * 10 + ((a.toNat : Int) - 48)) * 10 + ((b.toNat : Int) - 48)) = x := h
        rw [h3] at hg
        omega
    · rw [if_neg h2] at h; cases h
theorem numsS_words : ∀ {ws : List (List UInt8)} {xs : List Int}, numsS ws = some xs → few xs → ws = xs.map fun n => [UInt8.ofNat (48 + n.toNat)]
  | [], xs, h, _ => by
    have : xs = [] := by simpa [numsS] using h.symm
    subst this; rfl
  | w :: ws, xs, h, hf => by
    unfold numsS at h
    cases e1 : numS w with
    | none => rw [e1] at h; cases h
    | some n =>
      rw [e1] at h
      cases e2 : numsS ws with
      | none => rw [e2] at h; cases h
      | some r =>
        rw [e2] at h
        have hx : xs = n :: r := by simpa using h.symm
        subst hx
        have hn := hf n (by simp)
        rw [numS_one e1 hn.1 hn.2, numsS_words e2 (fun y hy => hf y (by simp [hy]))]
        rfl
theorem join_digits : ∀ (xs : List Int) (p : List UInt8), joinC 32 (p :: xs.map fun n => [UInt8.ofNat (48 + n.toNat)]) = p ++ xs.flatMap fun n => [32, UInt8.ofNat (48 + n.toNat)]
  | [], p => by simp [joinC]
  | x :: xs, p => by
    show p ++ 32 :: joinC 32 ([UInt8.ofNat (48 + x.toNat)] :: xs.map _) = _
    rw [join_digits xs]
    simp
theorem rowS_line {line : List UInt8} {xs : List Int} (h : rowS line = some xs) (hf : few xs) : line = lineP xs := by
  unfold rowS at h
  by_cases h1 : (splitC 32 line).head? = some townB
  · rw [if_pos h1] at h
    have e := numsS_words h hf
    have hs : splitC 32 line = townB :: xs.map fun n => [UInt8.ofNat (48 + n.toNat)] := by
      cases h2 : splitC 32 line with
      | nil => exact absurd h2 (splitC_ne _ _)
      | cons a t =>
        rw [h2] at h1 e
        have : a = townB := by simpa using h1
        rw [this]
        have e2 : t = _ := e
        rw [← e2]
    rw [← join_split 32 line, hs, join_digits]
    rfl
  · rw [if_neg h1] at h; cases h
theorem rowsS_line : ∀ {ls : List (List UInt8)} {rows : List (List Int)}, rowsS ls = some rows → (∀ xs, xs ∈ rows → few xs) → ls = rows.map lineP
  | [], rows, h, _ => by
    have : rows = [] := by simpa [rowsS] using h.symm
    subst this; rfl
  | w :: ws, rows, h, hf => by
    unfold rowsS at h
    cases e1 : rowS w with
    | none => rw [e1] at h; cases h
    | some n =>
      rw [e1] at h
      cases e2 : rowsS ws with
      | none => rw [e2] at h; cases h
      | some r =>
        rw [e2] at h
        have hx : rows = n :: r := by simpa using h.symm
        subst hx
        rw [rowS_line e1 (hf n (by simp)), rowsS_line e2 (fun y hy => hf y (by simp [hy]))]
        rfl
theorem join_lines : ∀ (rows : List (List Int)), joinC 10 (rows.map lineP ++ [[]]) = textR rows
  | [] => rfl
  | [x] => by
    show lineP x ++ 10 :: joinC 10 [[]] = textR [x]
    unfold textR lineT lineP
    simp [joinC]
  | x :: y :: rows => by
    show lineP x ++ 10 :: joinC 10 ((y :: rows).map lineP ++ [[]]) = _
    rw [join_lines (y :: rows)]
    show _ = lineT x ++ textR (y :: rows)
    unfold lineT lineP
    simp
theorem readS_ok {l : List UInt8} {r : Aut} (h : readS l = (r, 0)) : roadsOk r = true ∧ textR r.nx = l := by
  unfold readS at h
  by_cases h1 : 2000 < l.length
  · rw [if_pos h1] at h; injection h with _ h; cases h
  · rw [if_neg h1] at h
    by_cases h2 : (splitC 10 l).getLast? = some []
    · rw [if_pos h2] at h
      cases e : rowsS (splitC 10 l).dropLast with
      | none => rw [e] at h; injection h with _ h; cases h
      | some rows =>
        rw [e] at h
        dsimp only at h
        by_cases h3 : roadsOk ⟨((splitC 10 l).length : Int) - 1, rows⟩ = true
        · rw [if_pos h3] at h
          injection h with h _
          have hf := few_of_ok h3
          have e2 := rowsS_line e hf
          subst h
          refine ⟨h3, ?_⟩
          show textR rows = l
          have hs : splitC 10 l = rows.map lineP ++ [[]] := by
            rw [← e2]
            obtain ⟨ys, hy⟩ := List.getLast?_eq_some_iff.1 h2
            rw [hy]; simp
          rw [← join_lines, ← hs, join_split]
        · rw [if_neg h3] at h; injection h with _ h; cases h
    · rw [if_neg h2] at h; injection h with _ h; cases h
theorem readI_ok {l : List UInt8} {r : Aut} (h : readI l = (r, 0)) : roadsOk r = true ∧ textR r.nx = l := by
  unfold readI at h
  by_cases h1 : 2000 < l.length
  · rw [if_pos h1] at h; injection h with _ h; cases h
  · rw [if_neg h1] at h
    split at h
    · rename_i h2
      injection h with h _
      subst h
      exact h2
    · injection h with _ h; cases h
theorem readS_code (l : List UInt8) : (∃ r, readS l = (r, 0)) ∨ (2000 < l.length ∧ readS l = (⟨0, []⟩, 2)) ∨ (¬ 2000 < l.length ∧ readS l = (⟨0, []⟩, 5)) := by
  unfold readS
  by_cases h1 : 2000 < l.length
  · rw [if_pos h1]; exact Or.inr (Or.inl ⟨h1, rfl⟩)
  · rw [if_neg h1]
    by_cases h2 : (splitC 10 l).getLast? = some []
    · rw [if_pos h2]
      cases e : rowsS (splitC 10 l).dropLast with
      | none => exact Or.inr (Or.inr ⟨h1, rfl⟩)
      | some rows =>
        dsimp only
        by_cases h3 : roadsOk ⟨((splitC 10 l).length : Int) - 1, rows⟩ = true
        · rw [if_pos h3]; exact Or.inl ⟨_, rfl⟩
        · rw [if_neg h3]; exact Or.inr (Or.inr ⟨h1, rfl⟩)
    · rw [if_neg h2]; exact Or.inr (Or.inr ⟨h1, rfl⟩)
theorem readI_code (l : List UInt8) : (∃ r, readI l = (r, 0)) ∨ (2000 < l.length ∧ readI l = (⟨0, []⟩, 2)) ∨ (¬ 2000 < l.length ∧ readI l = (⟨0, []⟩, 5)) := by
  unfold readI
  by_cases h1 : 2000 < l.length
  · rw [if_pos h1]; exact Or.inr (Or.inl ⟨h1, rfl⟩)
  · rw [if_neg h1]
    split
    · exact Or.inl ⟨_, rfl⟩
    · exact Or.inr (Or.inr ⟨h1, rfl⟩)
theorem readS_long {l : List UInt8} {r : Aut} (h : readS l = (r, 0)) : l.length ≤ 2000 := by
  unfold readS at h
  by_cases h1 : 2000 < l.length
  · rw [if_pos h1] at h; injection h with _ h; cases h
  · omega
theorem readI_long {l : List UInt8} {r : Aut} (h : readI l = (r, 0)) : l.length ≤ 2000 := by
  unfold readI at h
  by_cases h1 : 2000 < l.length
  · rw [if_pos h1] at h; injection h with _ h; cases h
  · omega
/-- The two read the same. -/
theorem read_same (l : List UInt8) : readS l = readI l := by
  rcases readS_code l with ⟨r, h⟩ | ⟨h1, h2⟩ | ⟨h1, h2⟩
  · obtain ⟨k1, k2⟩ := readS_ok h
    have := readI_text k1 (by rw [k2]; exact readS_long h)
    rw [k2] at this
    rw [h, this]
  · rcases readI_code l with ⟨r, k⟩ | ⟨_, k2⟩ | ⟨k1, _⟩
    · have := readI_long k; omega
    · rw [h2, k2]
    · omega
  · rcases readI_code l with ⟨r, k⟩ | ⟨k1, _⟩ | ⟨_, k2⟩
    · obtain ⟨k1, k2⟩ := readI_ok k
      have := readS_text k1 (by rw [k2]; exact readI_long k)
      rw [k2, h2] at this
      injection this with _ this
      cases this
    · omega
    · rw [h2, k2]
theorem readI_big (l : List UInt8) : (readI l).1.nx.length ≤ 7 ∧ ∀ i, i < (readI l).1.nx.length → (nth (readI l).1.nx i).length ≤ 3 := by
  rcases readI_code l with ⟨r, h⟩ | ⟨_, h⟩ | ⟨_, h⟩
  · obtain ⟨k1, _⟩ := readI_ok h
    rw [h]
    obtain ⟨h1, h2, h3, h4⟩ := (roadsOk_iff r).1 k1
    refine ⟨by show r.nx.length ≤ 7; omega, fun i hi => ?_⟩
    have := ((roadRow_iff _ _ _).1 (h4 i hi)).1
    show (nth r.nx i).length ≤ 3
    omega
  · rw [h]; exact ⟨by simp, fun i hi => by simp at hi⟩
  · rw [h]; exact ⟨by simp, fun i hi => by simp at hi⟩
theorem sum_two : ∀ x : List Int, (x.map fun n => ([32, UInt8.ofNat (48 + n.toNat)] : List UInt8).length).sum = x.length * 2
  | [] => rfl
  | a :: t => by
    rw [List.map_cons, List.sum_cons, sum_two t, List.length_cons]
    show 2 + t.length * 2 = (t.length + 1) * 2
    omega
theorem textR_len {r : Aut} (h : roadsOk r = true) : (textR r.nx).length ≤ 2000 := by
  obtain ⟨h1, h2, h3, h4⟩ := (roadsOk_iff r).1 h
  have key : ∀ rows : List (List Int), (∀ x, x ∈ rows → x.length ≤ 3) → (textR rows).length ≤ rows.length * 11 := by
    intro rows
    induction rows with
    | nil => intro _; simp [textR]
    | cons x rows ih =>
      intro hx
      have k1 := ih (fun y hy => hx y (by simp [hy]))
      have k2 := hx x (by simp)
      have k3 : (lineT x).length = 5 + x.length * 2 := by
        unfold lineT townB
        rw [List.length_append, List.length_append, List.length_flatMap]
        rw [sum_two]; simp; omega
      show ((lineT x) ++ textR rows).length ≤ _
      rw [List.length_append, k3, List.length_cons]; omega
  have := key r.nx (fun x hx => by
    obtain ⟨i, hi, rfl⟩ := mem_nth _ _ hx
    have := ((roadRow_iff _ _ _).1 (h4 i hi)).1
    omega)
  omega

end Go.Proofs.YthbebnfhplacnaaDoor
