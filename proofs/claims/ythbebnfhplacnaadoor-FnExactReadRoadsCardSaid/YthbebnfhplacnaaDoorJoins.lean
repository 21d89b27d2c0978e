/- Parts of the proof that lean on no program: PlainSort, PlainRoads, PlainArr, PlainAt, PlainReach, PlainJoin, PlainPut. -/
import Derived.Test.YthbebnfhplacnaaDoorRows
import Derived.Test.YthbebnfhplacnaaDoorCore
import Derived.Test.YthbebnfhplacnaaDoorPlains
import Derived.WalkKit
import Derived.WalkSpells
import Derived.WalkLawsBesides
import Derived.Deep.QuietTactic
import Derived.Deep.OwnRows
import Derived.BigQuiet
import Derived.KernelRfl
namespace Go.Proofs.YthbebnfhplacnaaDoor
open Go.RowKit

section
/-- The elements at j and j + 1 change places. -/
def swapAt (xs : List Int) (j : Nat) : List Int := (xs.set (j + 1) (nth xs j)).set j (nth xs (j + 1))
/-- The element at j goes down to its place. -/
def downAt : Nat → List Int → List Int
  | 0, xs => xs
  | j + 1, xs => if nth xs (j + 1) < nth xs j then downAt j (swapAt xs j) else xs
/-- The first i + 1 elements are put in order. -/
def insTo (xs : List Int) : Nat → List Int
  | 0 => xs
  | i + 1 => downAt (i + 1) (insTo xs i)
def insAll (xs : List Int) : List Int := insTo xs (xs.length - 1)
theorem swapAt_len (xs : List Int) (j : Nat) : (swapAt xs j).length = xs.length := by simp [swapAt]
theorem downAt_len : ∀ (j : Nat) (xs : List Int), (downAt j xs).length = xs.length
  | 0, xs => rfl
  | j + 1, xs => by
    unfold downAt
    split
    · rw [downAt_len j, swapAt_len]
    · rfl
theorem insTo_len (xs : List Int) : ∀ i, (insTo xs i).length = xs.length
  | 0 => rfl
  | i + 1 => by rw [insTo, downAt_len, insTo_len xs i]
theorem insAll_len (xs : List Int) : (insAll xs).length = xs.length := insTo_len xs _
theorem downAt_go (j : Nat) (xs : List Int) (h : nth xs (j + 1) < nth xs j) : downAt (j + 1) xs = downAt j (swapAt xs j) := by rw [downAt, if_pos h]
theorem downAt_stay (j : Nat) (xs : List Int) (h : ¬ nth xs (j + 1) < nth xs j) : downAt (j + 1) xs = xs := by rw [downAt, if_neg h]
theorem swapAt_mem (xs : List Int) (j : Nat) (hj : j + 1 < xs.length) (x : Int) (h : x ∈ swapAt xs j) : x ∈ xs := by
  unfold swapAt at h
  rcases List.mem_or_eq_of_mem_set h with h | h
  · rcases List.mem_or_eq_of_mem_set h with h | h
    · exact h
    · subst h; exact nth_mem _ _ (by omega)
  · subst h; exact nth_mem _ _ hj
theorem downAt_mem : ∀ (j : Nat) (xs : List Int), j < xs.length → ∀ x, x ∈ downAt j xs → x ∈ xs
  | 0, xs, _, x, h => h
  | j + 1, xs, hj, x, h => by
    unfold downAt at h
    split at h
    · exact swapAt_mem xs j hj x (downAt_mem j _ (by rw [swapAt_len]; omega) x h)
    · exact h
theorem insTo_mem (xs : List Int) : ∀ i, i < xs.length → ∀ x, x ∈ insTo xs i → x ∈ xs
  | 0, _, x, h => h
  | i + 1, hi, x, h => by
    rw [insTo] at h
    exact insTo_mem xs i (by omega) x (downAt_mem (i + 1) _ (by rw [insTo_len]; exact hi) x h)
theorem insAll_mem (xs : List Int) (x : Int) (h : x ∈ insAll xs) : x ∈ xs := by
  unfold insAll at h
  by_cases e : xs.length = 0
  · rw [e] at h; exact h
  · exact insTo_mem xs _ (by omega) x h
-- the states to which the letters lead from a state
def leadsOf (nx : List (List Int)) (s : Int) : List Int := nx.map fun row => nth row s.toNat
theorem leadsOf_len (nx : List (List Int)) (s : Int) : (leadsOf nx s).length = nx.length := by simp [leadsOf]
def roadsOf (a : Aut) : Aut := ⟨a.n, (iota 0 a.n.toNat).map fun s => insAll (leadsOf a.nx s)⟩
def RoadsOf (a : Aut) : Aut × Int := if autOk a = true then (if 7 < a.n then (⟨0, []⟩, 3) else (roadsOf a, 0)) else (⟨0, []⟩, 1)
end
section
/-- Whether an element is within bounds, and not less than the one before it. -/
def upAt (xs : List Int) (n : Int) (k : Nat) : Bool := inB (nth xs k) 0 (n - 1) && (decide (k = 0) || decide (nth xs (k - 1) ≤ nth xs k))
def upB (xs : List Int) : Bool := (List.range xs.length).all fun k => decide (k = 0) || decide (nth xs (k - 1) ≤ nth xs k)
def roadRow (l : Nat) (n : Int) (xs : List Int) : Bool := decide (xs.length = l) && (List.range xs.length).all (upAt xs n)
def roadsOk (r : Aut) : Bool := inB r.n 1 7 && decide ((r.nx.length : Int) = r.n) && inB ((nth r.nx 0).length : Int) 1 3 && r.nx.all (roadRow (nth r.nx 0).length r.n)
theorem roadRow_iff (l : Nat) (n : Int) (xs : List Int) : roadRow l n xs = true ↔ xs.length = l ∧ ∀ k, k < xs.length → upAt xs n k = true := by
  simp [roadRow]
theorem roadRow_len {l : Nat} {n : Int} {xs : List Int} (h : ¬ xs.length = l) : roadRow l n xs = false := by simp [roadRow, h]
theorem roadRow_at {l : Nat} {n : Int} {xs : List Int} {k : Nat} (hk : k < xs.length) (h : upAt xs n k = false) : roadRow l n xs = false := by
  cases he : roadRow l n xs with
  | false => rfl
  | true => have := ((roadRow_iff l n xs).1 he).2 k hk; rw [h] at this; cases this
theorem upB_iff (xs : List Int) : upB xs = true ↔ ∀ k, k < xs.length → 0 < k → nth xs (k - 1) ≤ nth xs k := by
  simp only [upB, List.all_eq_true, List.mem_range, Bool.or_eq_true, decide_eq_true_eq]
  constructor
  · intro h k hk h0
    rcases h k hk with e | e
    · omega
    · exact e
  · intro h k hk
    by_cases h0 : k = 0
    · exact Or.inl h0
    · exact Or.inr (h k hk (by omega))
theorem upB_false {xs : List Int} {k : Nat} (hk : k < xs.length) (h0 : 0 < k) (h : nth xs k < nth xs (k - 1)) : upB xs = false := by
  cases he : upB xs with
  | false => rfl
  | true => have := (upB_iff xs).1 he k hk h0; omega
theorem roadRow_eq (l : Nat) (n : Int) (xs : List Int) : roadRow l n xs = (decide (xs.length = l) && allIn xs 0 (n - 1) && upB xs) := by
  rw [Bool.eq_iff_iff, roadRow_iff]
  simp only [Bool.and_eq_true, decide_eq_true_eq, allIn_iff, upB_iff, upAt, Bool.or_eq_true]
  constructor
  · rintro ⟨h1, h2⟩
    refine ⟨⟨h1, fun i hi => (h2 i hi).1⟩, fun k hk h0 => ?_⟩
    rcases (h2 k hk).2 with e | e
    · omega
    · exact e
  · rintro ⟨⟨h1, h2⟩, h3⟩
    refine ⟨h1, fun k hk => ⟨h2 k hk, ?_⟩⟩
    by_cases h0 : k = 0
    · exact Or.inl h0
    · exact Or.inr (h3 k hk (by omega))
theorem roadsOk_iff (r : Aut) : roadsOk r = true ↔ (1 ≤ r.n ∧ r.n ≤ 7) ∧ (r.nx.length : Int) = r.n ∧ (1 ≤ (nth r.nx 0).length ∧ (nth r.nx 0).length ≤ 3) ∧ ∀ i, i < r.nx.length → roadRow (nth r.nx 0).length r.n (nth r.nx i) = true := by
  simp only [roadsOk, Bool.and_eq_true, decide_eq_true_eq, inB_iff]
  have : (r.nx.all (roadRow (nth r.nx 0).length r.n) = true) ↔ ∀ i, i < r.nx.length → roadRow (nth r.nx 0).length r.n (nth r.nx i) = true := by
    rw [List.all_eq_true]
    constructor
    · intro h i hi; exact h _ (nth_mem _ _ hi)
    · intro h x hx; obtain ⟨i, hi, rfl⟩ := mem_nth _ x hx; exact h i hi
  rw [this]
  constructor
  · rintro ⟨⟨⟨h1, h2⟩, h3⟩, h4⟩; exact ⟨by omega, h2, by omega, h4⟩
  · rintro ⟨h1, h2, h3, h4⟩; exact ⟨⟨⟨by omega, h2⟩, by omega⟩, h4⟩
theorem roadsOk_row {r : Aut} {i : Nat} (hi : i < r.nx.length) (h : roadRow (nth r.nx 0).length r.n (nth r.nx i) = false) : roadsOk r = false := by
  cases he : roadsOk r with
  | false => rfl
  | true => have := ((roadsOk_iff r).1 he).2.2.2 i hi; rw [h] at this; cases this
/-- Whether an automaton is a colouring of roads, with a code. -/
def IsColouring (r a : Aut) : Bool × Int := if roadsOk r && autOk a then (decide (r = roadsOf a), 0) else (false, 1)
end
section
def skipB (xs : List Int) (i : Nat) : Bool := decide (0 < i) && decide (nth xs i = nth xs (i - 1))
/-- The first n numbers of a list of n, arranged. -/
def arrF : Nat → List Int → List (List Int)
  | 0, _ => [[]]
  | n + 1, xs => (List.range (n + 1)).flatMap fun i => if skipB xs i = true then [] else (arrF n (xs.eraseIdx i)).map (nth xs i :: ·)
def arrUp (n : Nat) (xs : List Int) (k : Nat) : List (List Int) := (List.range k).flatMap fun i => if skipB xs i = true then [] else (arrF n (xs.eraseIdx i)).map (nth xs i :: ·)
theorem arrF_succ (n : Nat) (xs : List Int) : arrF (n + 1) xs = arrUp n xs (n + 1) := rfl
theorem arrUp_skip {n : Nat} {xs : List Int} {k : Nat} (h : skipB xs k = true) : arrUp n xs (k + 1) = arrUp n xs k := by
  simp [arrUp, List.range_succ, h]
theorem arrUp_take {n : Nat} {xs : List Int} {k : Nat} (h : skipB xs k = false) : arrUp n xs (k + 1) = arrUp n xs k ++ (arrF n (xs.eraseIdx k)).map (nth xs k :: ·) := by
  simp [arrUp, List.range_succ, h]
def arrB : Nat → Nat
  | 0 => 1
  | n + 1 => (n + 1) * arrB n
theorem arr_len : ∀ (n : Nat) (xs : List Int), (arrF n xs).length ≤ arrB n
  | 0, _ => by simp [arrF, arrB]
  | n + 1, xs => by
    have h : ∀ k, (arrUp n xs k).length ≤ k * arrB n := by
      intro k
      induction k with
      | zero => simp [arrUp]
      | succ k ih =>
        rw [Nat.succ_mul]
        cases hs : skipB xs k with
        | true => rw [arrUp_skip hs]; omega
        | false =>
          rw [arrUp_take hs, List.length_append, List.length_map]
          have := arr_len n (xs.eraseIdx k)
          omega
    rw [arrF_succ]
    exact h (n + 1)
theorem arrUp_len (n : Nat) (xs : List Int) : ∀ k, (arrUp n xs k).length ≤ k * arrB n
  | 0 => by simp [arrUp]
  | k + 1 => by
    have ih := arrUp_len n xs k
    rw [Nat.succ_mul]
    cases hs : skipB xs k with
    | true => rw [arrUp_skip hs]; omega
    | false =>
      rw [arrUp_take hs, List.length_append, List.length_map]
      have := arr_len n (xs.eraseIdx k)
      omega
theorem arrUp_mono (n : Nat) (xs : List Int) (k : Nat) : ∀ d, (arrUp n xs k).length ≤ (arrUp n xs (k + d)).length
  | 0 => Nat.le_refl _
  | d + 1 => by
    have ih := arrUp_mono n xs k d
    rw [← Nat.add_assoc]
    cases hs : skipB xs (k + d) with
    | true => rw [arrUp_skip hs]; exact ih
    | false => rw [arrUp_take hs, List.length_append]; omega
theorem arr_pos : ∀ (n : Nat) (xs : List Int), 0 < (arrF n xs).length
  | 0, _ => by simp [arrF]
  | n + 1, xs => by
    have h0 : skipB xs 0 = false := by simp [skipB]
    have h1 := arrUp_take (n := n) h0
    have h2 := arr_pos n (xs.eraseIdx 0)
    have h3 := arrUp_mono n xs 1 n
    rw [arrF_succ, Nat.add_comm n 1]
    rw [show (0 : Nat) + 1 = 1 from rfl] at h1
    rw [h1, List.length_append, List.length_map] at h3
    omega
theorem mem_arrUp {n : Nat} {xs : List Int} {r : List Int} : ∀ k, r ∈ arrUp n xs k → ∃ i, i < k ∧ ∃ q, q ∈ arrF n (xs.eraseIdx i) ∧ r = nth xs i :: q
  | 0, h => by simp [arrUp] at h
  | k + 1, h => by
    cases hs : skipB xs k with
    | true =>
      rw [arrUp_skip hs] at h
      obtain ⟨i, hi, q⟩ := mem_arrUp k h
      exact ⟨i, by omega, q⟩
    | false =>
      rw [arrUp_take hs, List.mem_append] at h
      rcases h with h | h
      · obtain ⟨i, hi, q⟩ := mem_arrUp k h
        exact ⟨i, by omega, q⟩
      · obtain ⟨q, hq, rfl⟩ := List.mem_map.1 h
        exact ⟨k, Nat.lt_succ_self _, q, hq, rfl⟩
theorem arr_row : ∀ (n : Nat) (xs : List Int), xs.length = n → ∀ r, r ∈ arrF n xs → r.length = n ∧ ∀ x, x ∈ r → x ∈ xs
  | 0, _, _, r, hr => by simp [arrF] at hr; subst hr; simp
  | n + 1, xs, hl, r, hr => by
    rw [arrF_succ] at hr
    obtain ⟨i, hi, q, hq, rfl⟩ := mem_arrUp _ hr
    have he : (xs.eraseIdx i).length = n := by rw [List.length_eraseIdx, if_pos (by omega)]; omega
    obtain ⟨h1, h2⟩ := arr_row n _ he q hq
    refine ⟨by simp [h1], fun x hx => ?_⟩
    rcases List.mem_cons.1 hx with rfl | hx
    · exact nth_mem _ _ (by omega)
    · exact List.mem_of_mem_eraseIdx (h2 x hx)
end
section
def arrOf (xs : List Int) : List (List Int) := arrF xs.length xs
def choicesOf (r : Aut) : List (List (List Int)) := r.nx.map arrOf
/-- The number that is left when the last j towns are done. -/
def numAt (cs : List (List (List Int))) (N : Nat) : Nat → Nat
  | 0 => N
  | j + 1 => numAt cs N j / (nth cs (cs.length - 1 - j)).length
def pickAt (cs : List (List (List Int))) (N p : Nat) : List Int := nth (nth cs p) (numAt cs N (cs.length - 1 - p) % (nth cs p).length)
def tab (L m : Nat) (f : Nat → Nat → Int) : List (List Int) := (List.range L).map fun l => (List.range m).map fun p => f l p
def atRows (cs : List (List (List Int))) (N L : Nat) : List (List Int) := tab L cs.length fun l p => nth (pickAt cs N p) l
def colourAt (r : Aut) (N : Nat) : Aut := ⟨r.n, atRows (choicesOf r) N (nth r.nx 0).length⟩
theorem tab_length (L m : Nat) (f : Nat → Nat → Int) : (tab L m f).length = L := by simp [tab]
theorem nth_tab (L m : Nat) (f : Nat → Nat → Int) (l : Nat) (h : l < L) : nth (tab L m f) l = (List.range m).map fun p => f l p := by
  rw [nth_eq _ _ (by rw [tab_length]; exact h)]; simp [tab]
theorem nth_rangeMap {α : Type} [Inhabited α] (m : Nat) (f : Nat → α) (p : Nat) (h : p < m) : nth ((List.range m).map f) p = f p := by
  rw [nth_eq _ _ (by simpa using h)]; simp
theorem tab_congr {L m : Nat} {f g : Nat → Nat → Int} (h : ∀ l, l < L → ∀ p, p < m → f l p = g l p) : tab L m f = tab L m g := by
  refine ext_nth _ _ (by rw [tab_length, tab_length]) (fun l hl => ?_)
  rw [tab_length] at hl
  rw [nth_tab _ _ _ _ hl, nth_tab _ _ _ _ hl]
  exact List.map_congr_left (fun p hp => h l hl p (by simpa using hp))
theorem tab_set {L m : Nat} {f : Nat → Nat → Int} (l p : Nat) (hl : l < L) (hp : p < m) (t : Int) :
    (tab L m f).set l ((nth (tab L m f) l).set p t) = tab L m (fun l' p' => if l' = l ∧ p' = p then t else f l' p') := by
  refine ext_nth _ _ (by simp [tab_length]) (fun l' hl' => ?_)
  rw [List.length_set, tab_length] at hl'
  rw [nth_set _ _ _ _ (by rw [tab_length]; exact hl)]
  simp only [nth_tab _ _ _ _ hl', nth_tab _ _ _ _ hl]
  by_cases e : l' = l
  · subst e
    rw [if_pos rfl]
    refine ext_nth _ _ (by simp) (fun p' hp' => ?_)
    simp at hp'
    rw [nth_set _ _ _ _ (by simpa using hp), nth_rangeMap _ _ _ hp', nth_rangeMap _ _ _ hp']
    by_cases e2 : p' = p
    · simp [e2]
    · simp [e2]
  · rw [if_neg e]
    exact List.map_congr_left (fun p' _ => by simp [e])
/-- When the last j towns are done, and of the next one the first l letters. -/
def atPart (cs : List (List (List Int))) (N j l' : Nat) (l p : Nat) : Int := if cs.length ≤ p + j ∨ (p + j + 1 = cs.length ∧ l < l') then nth (pickAt cs N p) l else 0
theorem atPart_start (cs : List (List (List Int))) (N L : Nat) : tab L cs.length (atPart cs N 0 0) = List.replicate L (List.replicate cs.length 0) := by
  refine ext_nth _ _ (by simp [tab_length]) (fun l hl => ?_)
  rw [tab_length] at hl
  rw [nth_tab _ _ _ _ hl, nth_eq _ _ (by simpa using hl), List.getElem_replicate]
  refine ext_nth _ _ (by simp) (fun p hp => ?_)
  simp at hp
  rw [nth_rangeMap _ _ _ hp, nth_eq _ _ (by simpa using hp), List.getElem_replicate]
  unfold atPart
  rw [if_neg (by omega)]
theorem atPart_cell (cs : List (List (List Int))) (N L j l p : Nat) (hp : p + j + 1 = cs.length) (hl : l < L) :
    (tab L cs.length (atPart cs N j l)).set l ((nth (tab L cs.length (atPart cs N j l)) l).set p (nth (pickAt cs N p) l)) = tab L cs.length (atPart cs N j (l + 1)) := by
  rw [tab_set l p hl (by omega)]
  refine tab_congr (fun l' _ p' _ => ?_)
  unfold atPart
  by_cases e : l' = l ∧ p' = p
  · obtain ⟨rfl, rfl⟩ := e
    rw [if_pos ⟨rfl, rfl⟩, if_pos (Or.inr ⟨hp, Nat.lt_succ_self _⟩)]
  · rw [if_neg e]
    by_cases h : cs.length ≤ p' + j ∨ (p' + j + 1 = cs.length ∧ l' < l)
    · rw [if_pos h, if_pos (h.imp id (fun q => ⟨q.1, by omega⟩))]
    · rw [if_neg h, if_neg (fun q => h (q.imp id (fun q => ⟨q.1, by
        have h1 : p' = p := by omega
        have h2 : l' ≠ l := fun h2 => e ⟨h2, h1⟩
        omega⟩)))]
theorem atPart_town (cs : List (List (List Int))) (N L j : Nat) : tab L cs.length (atPart cs N j L) = tab L cs.length (atPart cs N (j + 1) 0) := by
  refine tab_congr (fun l hl p _ => ?_)
  unfold atPart
  by_cases h : cs.length ≤ p + j ∨ (p + j + 1 = cs.length ∧ l < L)
  · rw [if_pos h, if_pos (Or.inl (by omega))]
  · rw [if_neg h, if_neg (by omega)]
theorem atPart_end (cs : List (List (List Int))) (N L : Nat) : tab L cs.length (atPart cs N cs.length 0) = atRows cs N L := by
  refine tab_congr (fun l hl p hp => ?_)
  unfold atPart
  rw [if_pos (Or.inl (by omega))]
end
section
def rcG (nx : List (List Int)) (l : Nat) (x : Int) : Option Int := some (nth (nth nx l) x.toNat)
def rcT (a : Aut) (s : Int) (k : Nat) : Bfs Int := bTo (rcG a.nx) a.nx.length s k
def rcP (a : Aut) (x : Int) : Prop := 0 ≤ x ∧ x < a.n
def rcL (a : Aut) (s : Int) : List Int := (rcT a s 11).list
theorem rcG_ok {a : Aut} (ha : autOk a = true) (l : Nat) (x y : Int) (hl : l < a.nx.length) (hx : rcP a x) (h : rcG a.nx l x = some y) : rcP a y := by
  simp [rcG] at h
  subst h
  obtain ⟨r1, r2⟩ := autOk_row ha l hl
  obtain ⟨h0, h1⟩ := hx
  exact r2 _ (by omega)
theorem rc_bok {a : Aut} (ha : autOk a = true) {s : Int} (hs : rcP a s) (k : Nat) : BOk (rcP a) a.nx.length (rcT a s k) :=
  BOk.to (fun l x y hl hx h => rcG_ok ha l x y hl hx h) _ hs k
theorem rc_bound {a : Aut} (ha : autOk a = true) {t : Bfs Int} (h : BOk (rcP a) a.nx.length t) : (t.list.length : Int) ≤ a.n := by
  have hn := autOk_n ha
  have := h.bound (fun x => x.toNat) a.n.toNat (fun x hx => by obtain ⟨h0, h1⟩ := hx; omega) (fun x y hx hy e => by
    obtain ⟨h0, h1⟩ := hx
    obtain ⟨h2, h3⟩ := hy
    omega)
  omega
theorem rc_end {a : Aut} (ha : autOk a = true) {s : Int} (hs : rcP a s) (k : Nat) (hk : (rcT a s k).list.length = k) : rcL a s = (rcT a s k).list := by
  have hb := rc_bound ha (rc_bok ha hs k)
  have hn := autOk_n ha
  unfold rcL rcT
  rw [bTo_end (g := rcG a.nx) (L := a.nx.length) s k 11 (by omega) hk]
/-- Do words lead from each state to each one? -/
def joinedB (a : Aut) : Bool := (iota 0 a.n.toNat).all fun s => decide (((rcL a s).length : Int) = a.n)
theorem nodup_nth {xs : List Int} (h : xs.Nodup) {i j : Nat} (hi : i < xs.length) (hj : j < xs.length) (e : nth xs i = nth xs j) : i = j := by
  rw [nth_eq _ _ hi, nth_eq _ _ hj] at e
  have h' := List.pairwise_iff_getElem.1 h
  rcases Nat.lt_trichotomy i j with q | q | q
  · exact absurd e (h' i j hi hj q)
  · exact q
  · exact absurd e.symm (h' j i hj hi q)
/-- No number stands twice. -/
def Apt (xs : List Int) : Prop := ∀ i j, i < xs.length → j < xs.length → nth xs i = nth xs j → i = j
theorem swapAt_nth (xs : List Int) (j : Nat) (hj : j + 1 < xs.length) (i : Nat) : nth (swapAt xs j) i = nth xs (if i = j then j + 1 else if i = j + 1 then j else i) := by
  unfold swapAt
  rw [nth_set _ _ _ _ (by simp; omega), nth_set _ _ _ _ (by omega)]
  by_cases e1 : i = j
  · subst e1; rw [if_pos rfl, if_pos rfl]
  · by_cases e2 : i = j + 1
    · subst e2; rw [if_neg e1, if_pos rfl, if_neg e1, if_pos rfl]
    · rw [if_neg e1, if_neg e2, if_neg e1, if_neg e2]
theorem Apt.swap {xs : List Int} (h : Apt xs) (j : Nat) (hj : j + 1 < xs.length) : Apt (swapAt xs j) := by
  intro a b ha hb e
  rw [swapAt_len] at ha hb
  rw [swapAt_nth _ _ hj, swapAt_nth _ _ hj] at e
  have := h _ _ (by split <;> (try split) <;> omega) (by split <;> (try split) <;> omega) e
  split at this <;> split at this <;> (try split at this) <;> (try split at this) <;> omega
theorem Apt.down : ∀ (j : Nat) {xs : List Int}, Apt xs → j < xs.length → Apt (downAt j xs)
  | 0, _, h, _ => h
  | j + 1, xs, h, hj => by
    by_cases hq : nth xs (j + 1) < nth xs j
    · rw [downAt_go _ _ hq]; exact Apt.down j (h.swap j hj) (by rw [swapAt_len]; omega)
    · rw [downAt_stay _ _ hq]; exact h
theorem Apt.insTo {xs : List Int} (h : Apt xs) : ∀ i, i < xs.length → Apt (insTo xs i)
  | 0, _ => h
  | i + 1, hi => Apt.down (i + 1) (Apt.insTo h i (by omega)) (by rw [insTo_len]; omega)
theorem Apt.insAll {xs : List Int} (h : Apt xs) : Apt (insAll xs) := by
  cases xs with
  | nil => exact h
  | cons x r => exact Apt.insTo h _ (by simp)
end
section
def firstOf (r : Aut) : Aut := ⟨r.nx.length, atRows (choicesOf r) 0 (nth r.nx 0).length⟩
def IsJoined (r : Aut) : Bool × Int := if roadsOk r = true then (joinedB (firstOf r), 0) else (false, 1)
structure RoadsFacts (r : Aut) : Prop where
  n : (r.nx.length : Int) = r.n
  n1 : 1 ≤ r.nx.length
  n7 : r.nx.length ≤ 7
  l1 : 1 ≤ (nth r.nx 0).length
  l3 : (nth r.nx 0).length ≤ 3
  row : ∀ i, i < r.nx.length → (nth r.nx i).length = (nth r.nx 0).length
  mem : ∀ i, i < r.nx.length → ∀ x, x ∈ nth r.nx i → 0 ≤ x ∧ x < r.n
theorem roads_facts {r : Aut} (h : roadsOk r = true) : RoadsFacts r := by
  unfold roadsOk at h
  simp only [Bool.and_eq_true, inB_iff, decide_eq_true_eq, List.all_eq_true] at h
  obtain ⟨⟨⟨⟨h1, h2⟩, h3⟩, h4, h5⟩, h6⟩ := h
  have hr := fun i (hi : i < r.nx.length) => (roadRow_iff _ _ _).1 (h6 (nth r.nx i) (nth_mem _ _ hi))
  refine ⟨h3, by omega, by omega, by omega, by omega, fun i hi => (hr i hi).1, fun i hi x hx => ?_⟩
  obtain ⟨k, hk, rfl⟩ := mem_nth _ x hx
  have := (hr i hi).2 k hk
  unfold upAt at this
  simp only [Bool.and_eq_true, inB_iff] at this
  omega
theorem choices_len (r : Aut) : (choicesOf r).length = r.nx.length := by simp [choicesOf]
theorem nth_choices (r : Aut) (p : Nat) (h : p < r.nx.length) : nth (choicesOf r) p = arrOf (nth r.nx p) := nth_map _ _ _ h
theorem choices_pos {r : Aut} (p : Nat) (h : p < (choicesOf r).length) : 0 < (nth (choicesOf r) p).length := by
  rw [choices_len] at h
  rw [nth_choices _ _ h]
  exact arr_pos _ _
theorem choices_row {r : Aut} (hr : RoadsFacts r) (p : Nat) (h : p < (choicesOf r).length) (i : Nat) (hi : i < (nth (choicesOf r) p).length) : (nth (nth (choicesOf r) p) i).length = (nth r.nx 0).length := by
  rw [choices_len] at h
  rw [nth_choices _ _ h] at hi ⊢
  exact (arr_row _ _ rfl _ (nth_mem _ _ hi)).1.trans (hr.row p h)
theorem choices_mem {r : Aut} (hr : RoadsFacts r) (p : Nat) (h : p < (choicesOf r).length) (i : Nat) (hi : i < (nth (choicesOf r) p).length) (x : Int) (hx : x ∈ nth (nth (choicesOf r) p) i) : 0 ≤ x ∧ x < r.n := by
  rw [choices_len] at h
  rw [nth_choices _ _ h] at hi hx
  exact hr.mem p h x ((arr_row _ _ rfl _ (nth_mem _ _ hi)).2 x hx)
/-- A colouring of right roads is a right automaton. -/
theorem colour_ok {r : Aut} (hr : RoadsFacts r) (N : Nat) : autOk ⟨r.nx.length, atRows (choicesOf r) N (nth r.nx 0).length⟩ = true := by
  have h1 := hr.n1
  have h7 := hr.n7
  have hl1 := hr.l1
  have hl3 := hr.l3
  rw [autOk_iff]
  refine ⟨⟨by simp only; omega, by simp only; omega⟩, ⟨by unfold atRows; rw [tab_length]; omega, by unfold atRows; rw [tab_length]; omega⟩, fun l hl => ?_⟩
  unfold atRows at hl ⊢
  rw [tab_length] at hl
  simp only
  rw [nth_tab _ _ _ _ hl, mapOk_iff]
  refine ⟨by simp [choices_len], fun p hp => ?_⟩
  simp at hp
  rw [nth_rangeMap _ _ _ hp]
  have hq := choices_pos p hp
  have hm : numAt (choicesOf r) N ((choicesOf r).length - 1 - p) % (nth (choicesOf r) p).length < (nth (choicesOf r) p).length := Nat.mod_lt _ hq
  have hrow := choices_row hr p hp _ hm
  have := choices_mem hr p hp _ hm (nth (pickAt (choicesOf r) N p) l) (nth_mem _ _ (by rw [hrow]; exact hl))
  have hn := hr.n
  omega
end
section
def pStep (n : Int) (t : List Int × Bool) (y : Int) : List Int × Bool := if (!t.2 && decide (n ≤ y)) = true then ((if n < y then t.1 ++ [n] else t.1) ++ [y], true) else (t.1 ++ [y], t.2)
def pTo (n : Int) (xs : List Int) (k : Nat) : List Int × Bool := (xs.take k).foldl (pStep n) ([], false)
def putI (xs : List Int) (n : Int) : List Int := if (pTo n xs xs.length).2 = true then (pTo n xs xs.length).1 else (pTo n xs xs.length).1 ++ [n]
theorem pTo_zero (n : Int) (xs : List Int) : pTo n xs 0 = ([], false) := rfl
theorem pTo_succ (n : Int) (xs : List Int) (k : Nat) (h : k < xs.length) : pTo n xs (k + 1) = pStep n (pTo n xs k) (nth xs k) := by
  unfold pTo
  rw [take_succ_nth xs k h, List.foldl_append]
  rfl
theorem pTo_len (n : Int) (xs : List Int) : ∀ k, k ≤ xs.length → (pTo n xs k).1.length ≤ k + 1
  | 0, _ => by simp [pTo_zero]
  | k + 1, h => by
    have key : ∀ j, j ≤ xs.length → (pTo n xs j).1.length ≤ j + (if (pTo n xs j).2 = true then 1 else 0) := by
      intro j
      induction j with
      | zero => intro _; simp [pTo_zero]
      | succ j ih =>
        intro hj
        have := ih (by omega)
        rw [pTo_succ n xs j (by omega)]
        unfold pStep
        split
        · rename_i h1
          have h2 : (pTo n xs j).2 = false := by
            cases h3 : (pTo n xs j).2 with
            | false => rfl
            | true => rw [h3] at h1; simp at h1
          rw [h2] at this
          simp only [Bool.false_eq_true, if_false] at this
          simp only [List.length_append, List.length_singleton, if_true]
          split <;> (try simp only [List.length_append, List.length_singleton]) <;> omega
        · simp only [List.length_append, List.length_singleton]; omega
    have := key (k + 1) h
    split at this <;> omega
theorem pTo_mem (n : Int) (xs : List Int) (hn : n ∉ xs) : ∀ k, k ≤ xs.length → (pTo n xs k).1.length = k + (if (pTo n xs k).2 = true then 1 else 0) ∧ ∀ x, x ∈ (pTo n xs k).1 ↔ x ∈ xs.take k ∨ ((pTo n xs k).2 = true ∧ x = n)
  | 0, _ => by simp [pTo_zero]
  | k + 1, h => by
    obtain ⟨h1, h2⟩ := pTo_mem n xs hn k (by omega)
    have hne : n ≠ nth xs k := fun e => hn (by rw [e]; exact nth_mem _ _ (by omega))
    rw [pTo_succ n xs k (by omega), take_succ_nth xs k (by omega)]
    unfold pStep
    split
    · rename_i h3
      have h4 : (pTo n xs k).2 = false := by
        cases h5 : (pTo n xs k).2 with
        | false => rfl
        | true => rw [h5] at h3; simp at h3
      have h6 : n < nth xs k := by
        rw [h4] at h3
        simp at h3
        omega
      rw [h4] at h1 h2
      simp only [Bool.false_eq_true, if_false, false_and, or_false] at h1 h2
      rw [if_pos h6]
      refine ⟨by simp only [List.length_append, List.length_singleton, if_true]; omega, fun x => ?_⟩
      simp only [List.mem_append, List.mem_singleton, h2, true_and]
      constructor
      · rintro ((q | q) | q)
        · exact Or.inl (Or.inl q)
        · exact Or.inr q
        · exact Or.inl (Or.inr q)
      · rintro ((q | q) | q)
        · exact Or.inl (Or.inl q)
        · exact Or.inr q
        · exact Or.inl (Or.inr q)
    · refine ⟨by simp only [List.length_append, List.length_singleton]; omega, fun x => ?_⟩
      simp only [List.mem_append, List.mem_singleton, h2]
      constructor
      · rintro ((q | q) | q)
        · exact Or.inl (Or.inl q)
        · exact Or.inr q
        · exact Or.inl (Or.inr q)
      · rintro ((q | q) | q)
        · exact Or.inl (Or.inl q)
        · exact Or.inr q
        · exact Or.inl (Or.inr q)
theorem putI_len (xs : List Int) (n : Int) (hn : n ∉ xs) : (putI xs n).length = xs.length + 1 := by
  obtain ⟨h1, _⟩ := pTo_mem n xs hn xs.length (Nat.le_refl _)
  unfold putI
  split
  · rename_i h; rw [h1, if_pos h]
  · rename_i h; rw [List.length_append, h1, if_neg h]; rfl
theorem putI_mem (xs : List Int) (n : Int) (hn : n ∉ xs) (x : Int) : x ∈ putI xs n ↔ x ∈ xs ∨ x = n := by
  obtain ⟨_, h2⟩ := pTo_mem n xs hn xs.length (Nat.le_refl _)
  rw [List.take_length] at h2
  unfold putI
  split
  · rename_i h; rw [h2]; simp [h]
  · rename_i h; rw [List.mem_append, h2]; simp [h]
end

end Go.Proofs.YthbebnfhplacnaaDoor
