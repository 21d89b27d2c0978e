/- Parts of the proof that lean on no program: PlainDiv, PlainCong, PlainCnt, PlainQuo. -/
import Derived.Test.YthbebnfhplacnaaGreatCore
import Derived.Test.YthbebnfhplacnaaGreatPlains
import Derived.Test.YthbebnfhplacnaaGreatPers
import Derived.WalkKit
import Derived.WalkSpells
import Derived.WalkLawsBesides
import Derived.Deep.QuietTactic
import Derived.Deep.OwnRows
import Derived.BigQuiet
import Derived.KernelRfl
namespace Go.Proofs.YthbebnfhplacnaaGreat
open Go.RowKit

section
def divOk : Int → List Int → Bool
  | _, [] => true
  | u, c :: r => inB c 0 u && divOk (if c = u then u + 1 else u) r
def isDiv (xs : List Int) (n : Int) : Bool := divOk 0 xs && decide ((xs.length : Int) = n)
theorem divOk_drop (u : Int) (xs : List Int) (k : Nat) (h : k < xs.length) : divOk u (xs.drop k) = (inB (nth xs k) 0 u && divOk (if nth xs k = u then u + 1 else u) (xs.drop (k + 1))) := by
  rw [List.drop_eq_getElem_cons h, nth_eq xs k h]; rfl
/-- In a division each class is between 0 and its length. -/
theorem divOk_in : ∀ (xs : List Int) (u : Int), 0 ≤ u → divOk u xs = true → ∀ i, i < xs.length → 0 ≤ nth xs i ∧ nth xs i < u + xs.length
  | [], _, _, _, i, hi => by simp at hi
  | c :: r, u, hu, h, i, hi => by
    simp only [divOk, Bool.and_eq_true] at h
    have h1 := (inB_iff _ _ _).1 h.1
    cases i with
    | zero => simp [nth]; omega
    | succ i =>
      have := divOk_in r _ (by split <;> omega) h.2 i (by simpa using hi)
      simp [nth] at this ⊢
      split at this <;> omega
/-- Do class s and t go together under letter l? -/
def congAt (nx : List (List Int)) (cl : List Int) (l s t : Nat) : Prop := nth cl s = nth cl t → nth cl (nth (nth nx l) s).toNat = nth cl (nth (nth nx l) t).toNat
theorem congAt_symm {nx : List (List Int)} {cl : List Int} {l s t : Nat} (h : congAt nx cl l s t) : congAt nx cl l t s := fun e => (h e.symm).symm
theorem congAt_refl (nx : List (List Int)) (cl : List Int) (l s : Nat) : congAt nx cl l s s := fun _ => rfl
def congP (nx : List (List Int)) (cl : List Int) : Prop := ∀ l, l < nx.length → ∀ s, s < cl.length → ∀ t, t < cl.length → congAt nx cl l s t
open Classical in
noncomputable def congB (nx : List (List Int)) (cl : List Int) : Bool := decide (congP nx cl)
theorem congB_true {nx : List (List Int)} {cl : List Int} (h : congP nx cl) : congB nx cl = true := by unfold congB; simp [h]
theorem congB_false {nx : List (List Int)} {cl : List Int} (l s t : Nat) (hl : l < nx.length) (hs : s < cl.length) (ht : t < cl.length) (h1 : nth cl s = nth cl t) (h2 : nth cl (nth (nth nx l) s).toNat ≠ nth cl (nth (nth nx l) t).toNat) : congB nx cl = false := by
  have : ¬ congP nx cl := fun h => h2 (h l hl s hs t ht h1)
  unfold congB; simp [this]
noncomputable def IsCongruence (a : Aut) (cl : List Int) : Bool × Int := if autOk a = true then (if isDiv cl a.n = true then (congB a.nx cl, 0) else (false, 2)) else (false, 1)
end
section
theorem tidy_ker (xs ys : List Int) (hl : xs.length = ys.length) (h : ∀ i j, i < xs.length → j < xs.length → (nth xs i = nth xs j ↔ nth ys i = nth ys j)) :
    ∀ k, k ≤ xs.length → (firsts (xs.take k)).length = (firsts (ys.take k)).length ∧ ∀ i, i < k → placeOf (firsts (xs.take k)) (nth xs i) = placeOf (firsts (ys.take k)) (nth ys i)
  | 0, _ => by simp [firsts]
  | k + 1, hk => by
    obtain ⟨h1, h2⟩ := tidy_ker xs ys hl h k (by omega)
    rw [firsts_take xs k (by omega), firsts_take ys k (by omega)]
    have hm : nth xs k ∈ firsts (xs.take k) ↔ nth ys k ∈ firsts (ys.take k) := by
      rw [mem_firsts, mem_firsts]
      constructor
      · intro hx
        obtain ⟨i, hi, e⟩ := mem_nth _ _ hx
        rw [List.length_take] at hi
        have e1 : nth (xs.take k) i = nth xs i := by simp [nth, show i < k by omega]
        rw [e1] at e
        rw [← (h i k (by omega) (by omega)).1 e]
        exact nth_mem_take _ _ _ (by omega) (by omega)
      · intro hx
        obtain ⟨i, hi, e⟩ := mem_nth _ _ hx
        rw [List.length_take] at hi
        have e1 : nth (ys.take k) i = nth ys i := by simp [nth, show i < k by omega]
        rw [e1] at e
        rw [← (h i k (by omega) (by omega)).2 e]
        exact nth_mem_take _ _ _ (by omega) (by omega)
    have hin : ∀ i, i < k → nth xs i ∈ firsts (xs.take k) ∧ nth ys i ∈ firsts (ys.take k) := fun i hi => by
      rw [mem_firsts, mem_firsts]
      exact ⟨nth_mem_take _ _ _ hi (by omega), nth_mem_take _ _ _ hi (by omega)⟩
    by_cases hx : nth xs k ∈ firsts (xs.take k)
    · have hy := hm.1 hx
      unfold addNew
      rw [if_pos ((hasB_iff _ _).2 hx), if_pos ((hasB_iff _ _).2 hy)]
      refine ⟨h1, fun i hi => ?_⟩
      by_cases e : i < k
      · exact h2 i e
      · have : i = k := by omega
        subst this
        rw [mem_firsts] at hx
        obtain ⟨j, hj, e⟩ := mem_nth _ _ hx
        rw [List.length_take] at hj
        have e1 : nth (xs.take i) j = nth xs j := by simp [nth, show j < i by omega]
        rw [e1] at e
        rw [← e, ← (h j i (by omega) (by omega)).1 e]
        exact h2 j (by omega)
    · have hy : ¬ nth ys k ∈ firsts (ys.take k) := fun hy => hx (hm.2 hy)
      unfold addNew
      rw [if_neg (by rw [hasB_iff]; exact hx), if_neg (by rw [hasB_iff]; exact hy)]
      refine ⟨by simp [h1], fun i hi => ?_⟩
      by_cases e : i < k
      · rw [placeOf_left _ _ _ (hin i e).1, placeOf_left _ _ _ (hin i e).2]; exact h2 i e
      · have : i = k := by omega
        subst this
        rw [placeOf_new _ _ hx, placeOf_new _ _ hy, h1]
theorem tidyOf_ker (xs ys : List Int) (hl : xs.length = ys.length) (h : ∀ i j, i < xs.length → j < xs.length → (nth xs i = nth xs j ↔ nth ys i = nth ys j)) : tidyOf xs = tidyOf ys := by
  apply ext_nth
  · simp [tidyOf, tidyTo_len, hl]
  · intro i hi
    unfold tidyOf at hi ⊢
    rw [tidyTo_len] at hi
    rw [nth_tidyTo _ _ _ hi, nth_tidyTo _ _ _ (by omega)]
    exact (tidy_ker xs ys hl h (i + 1) (by omega)).2 i (by omega)
/-- Where a letter leads, as a natural number. -/
def nxt (a : Aut) (l x : Nat) : Nat := (nth (nth a.nx l) x).toNat
def ker (m : List Int) (x y : Nat) : Prop := nth m x = nth m y
structure Equ (E : Nat → Nat → Prop) : Prop where
  refl : ∀ x, E x x
  symm : ∀ x y, E x y → E y x
  trans : ∀ x y z, E x y → E y z → E x z
theorem ker_equ (m : List Int) : Equ (ker m) := ⟨fun _ => rfl, fun _ _ h => Eq.symm h, fun _ _ _ h k => Eq.trans h k⟩
/-- Each letter leads from one class to one class. -/
def Leads (a : Aut) (D E : Nat → Nat → Prop) : Prop := ∀ l, l < a.nx.length → ∀ x y, x < a.n.toNat → y < a.n.toNat → D x y → E (nxt a l x) (nxt a l y)
def Part (a : Aut) (D E : Nat → Nat → Prop) : Prop := ∀ x y, x < a.n.toNat → y < a.n.toNat → D x y → E x y
def Cong (a : Aut) (E : Nat → Nat → Prop) : Prop := Equ E ∧ Leads a E E
structure Final (a : Aut) (s t : Nat) (m : List Int) : Prop where
  len : m.length = a.n.toNat
  st : ker m s t
  cong : Cong a (ker m)
  least : ∀ E, Cong a E → E s t → Part a (ker m) E
theorem Final.tidy {a : Aut} {s t : Nat} {m m' : List Int} (h : Final a s t m) (h' : Final a s t m') : tidyOf m = tidyOf m' :=
  tidyOf_ker m m' (by rw [h.len, h'.len]) fun i j hi hj => by
    rw [h.len] at hi hj
    exact ⟨h.least _ h'.cong h'.st i j hi hj, h'.least _ h.cong h.st i j hi hj⟩
open Classical in
noncomputable def lcOf (a : Aut) (s t : Nat) : List Int := if h : ∃ m, Final a s t m then tidyOf (Classical.choose h) else []
theorem lcOf_eq {a : Aut} {s t : Nat} {m : List Int} (h : Final a s t m) : lcOf a s t = tidyOf m := by
  have he : ∃ m, Final a s t m := ⟨m, h⟩
  unfold lcOf
  rw [dif_pos he]
  exact (Classical.choose_spec he).tidy h
/-- Two classes put together. -/
def mergeC (m : List Int) (p q : Int) : List Int := m.map fun x => if x = p then q else x
theorem mergeC_len (m : List Int) (p q : Int) : (mergeC m p q).length = m.length := by simp [mergeC]
theorem nth_mergeC (m : List Int) (p q : Int) (i : Nat) (h : i < m.length) : nth (mergeC m p q) i = if nth m i = p then q else nth m i := nth_map _ _ _ h
theorem mergeC_mono (m : List Int) (p q : Int) (x y : Nat) (hx : x < m.length) (hy : y < m.length) (h : ker m x y) : ker (mergeC m p q) x y := by
  unfold ker at *
  rw [nth_mergeC _ _ _ _ hx, nth_mergeC _ _ _ _ hy, h]
theorem mergeC_st (m : List Int) (x y : Nat) (hx : x < m.length) (hy : y < m.length) : ker (mergeC m (nth m x) (nth m y)) x y := by
  unfold ker
  rw [nth_mergeC _ _ _ _ hx, nth_mergeC _ _ _ _ hy, if_pos rfl]
  split <;> rfl
/-- What the merged list puts together follows from what it was made of. -/
theorem mergeC_least (m : List Int) (s t : Nat) (hs : s < m.length) (ht : t < m.length) (E : Nat → Nat → Prop) (hE : Equ E) (h : ∀ x y, x < m.length → y < m.length → ker m x y → E x y) (hst : E s t) :
    ∀ x y, x < m.length → y < m.length → ker (mergeC m (nth m s) (nth m t)) x y → E x y := by
  intro x y hx hy hk
  unfold ker at hk
  rw [nth_mergeC _ _ _ _ hx, nth_mergeC _ _ _ _ hy] at hk
  by_cases e1 : nth m x = nth m s
  · by_cases e2 : nth m y = nth m s
    · exact h x y hx hy (e1.trans e2.symm)
    · rw [if_pos e1, if_neg e2] at hk
      exact hE.trans _ _ _ (h x s hx hs e1) (hE.trans _ _ _ hst (h t y ht hy hk))
  · by_cases e2 : nth m y = nth m s
    · rw [if_neg e1, if_pos e2] at hk
      exact hE.trans _ _ _ (h x t hx ht hk) (hE.trans _ _ _ (hE.symm _ _ hst) (h s y hs hy e2.symm))
    · rw [if_neg e1, if_neg e2] at hk
      exact h x y hx hy hk
/-- How many of the numbers below n occur. -/
def nval (n : Nat) (m : List Int) : Nat := (List.range n).countP fun (v : Nat) => hasB m (v : Int)
theorem countP_le {α : Type} (p q : α → Bool) (h : ∀ x, p x = true → q x = true) : ∀ l : List α, l.countP p ≤ l.countP q
  | [] => by simp
  | x :: r => by
    have ih := countP_le p q h r
    rw [List.countP_cons, List.countP_cons]
    have := h x
    cases e1 : p x <;> cases e2 : q x <;> simp_all <;> omega
theorem countP_lt {α : Type} (p q : α → Bool) (h : ∀ x, p x = true → q x = true) (z : α) (hp : p z = false) (hq : q z = true) : ∀ l : List α, z ∈ l → l.countP p < l.countP q
  | [], hz => by simp at hz
  | x :: r, hz => by
    rw [List.countP_cons, List.countP_cons]
    rcases List.mem_cons.1 hz with e | e
    · subst e
      have := countP_le p q h r
      rw [hp, hq]; simp; omega
    · have ih := countP_lt p q h z hp hq r e
      have := h x
      cases e1 : p x <;> cases e2 : q x <;> simp_all <;> omega
theorem nval_merge (n : Nat) (m : List Int) (p q : Int) (hp : p ∈ m) (hq : q ∈ m) (hne : p ≠ q) (h0 : 0 ≤ p) (h1 : p < n) : nval n (mergeC m p q) < nval n m := by
  have hno : ¬ p ∈ mergeC m p q := by
    unfold mergeC
    rw [List.mem_map]
    rintro ⟨x, _, e⟩
    split at e
    · exact hne e.symm
    · rename_i h; exact h e
  refine countP_lt _ _ ?_ p.toNat ?_ ?_ _ (List.mem_range.2 (by omega))
  · intro v hv
    rw [hasB_iff] at hv ⊢
    unfold mergeC at hv
    rw [List.mem_map] at hv
    obtain ⟨x, hx, e⟩ := hv
    split at e
    · rw [← e]; exact hq
    · rw [← e]; exact hx
  · rw [show ((p.toNat : Nat) : Int) = p by omega]
    cases e : hasB (mergeC m p q) p with
    | false => rfl
    | true => exact absurd ((hasB_iff _ _).1 e) hno
  · rw [show ((p.toNat : Nat) : Int) = p by omega]
    exact (hasB_iff _ _).2 hp
theorem nval_le (n : Nat) (m : List Int) : nval n m ≤ n := by
  have := List.countP_le_length (p := fun v : Nat => hasB m (v : Int)) (l := List.range n)
  simpa [nval] using this
/-- All marks are states. -/
def marksIn (a : Aut) (m : List Int) : Prop := m.length = a.n.toNat ∧ ∀ i, i < m.length → 0 ≤ nth m i ∧ nth m i < a.n
theorem marksIn.merge {a : Aut} {m : List Int} (h : marksIn a m) (p q : Int) (hq : 0 ≤ q ∧ q < a.n) : marksIn a (mergeC m p q) := by
  refine ⟨by rw [mergeC_len]; exact h.1, fun i hi => ?_⟩
  rw [mergeC_len] at hi
  rw [nth_mergeC _ _ _ _ hi]
  split
  · exact hq
  · exact h.2 i hi
theorem nxt_lt {a : Aut} (ha : autOk a = true) (l x : Nat) (hl : l < a.nx.length) (hx : x < a.n.toNat) : nxt a l x < a.n.toNat := by
  obtain ⟨h1, h2⟩ := autOk_row ha l hl
  have := h2 x (by omega)
  unfold nxt; omega
def LeastCongruenceR (a : Aut) (s t : Int) (l : List Int) : List Int × Int := if autOk a = true then (if (inB s 0 (a.n - 1) && inB t 0 (a.n - 1)) = true then (l, 0) else ([], 2)) else ([], 1)
noncomputable def LeastCongruence (a : Aut) (s t : Int) : List Int × Int := LeastCongruenceR a s t (lcOf a s.toNat t.toNat)
-- the program's way
structure JoinOk (a : Aut) (c c' : List Int) (s t : Nat) : Prop where
  marks : marksIn a c'
  mono : Part a (ker c) (ker c')
  st : ker c' s t
  least : ∀ E, Cong a E → Part a (ker c) E → E s t → Part a (ker c') E
  leads : ∀ E, Equ E → Part a (ker c') E → Leads a (ker c) E → Leads a (ker c') E
  nval : nval a.n.toNat c' ≤ nval a.n.toNat c
structure JoinTo (a : Aut) (c c' : List Int) (s t k : Nat) : Prop where
  marks : marksIn a c'
  mono : Part a (ker c) (ker c')
  st : ker c' s t
  done : ∀ l, l < k → ker c' (nxt a l s) (nxt a l t)
  least : ∀ E, Cong a E → Part a (ker c) E → E s t → Part a (ker c') E
  leads : ∀ E, Equ E → Part a (ker c') E → Leads a (ker c) E → (∀ l, l < a.nx.length → E (nxt a l s) (nxt a l t)) → Leads a (ker c') E
  nval : nval a.n.toNat c' < nval a.n.toNat c
theorem JoinOk.same {a : Aut} {c : List Int} {s t : Nat} (hm : marksIn a c) (h : nth c s = nth c t) : JoinOk a c c s t :=
  ⟨hm, fun _ _ _ _ h => h, h, fun _ _ h _ => h, fun _ _ _ h => h, Nat.le_refl _⟩
theorem JoinTo.start {a : Aut} {c : List Int} {s t : Nat} (hm : marksIn a c) (hs : s < a.n.toNat) (ht : t < a.n.toNat) (h : nth c s ≠ nth c t) : JoinTo a c (mergeC c (nth c s) (nth c t)) s t 0 := by
  have hl := hm.1
  refine ⟨hm.merge _ _ (hm.2 t (by omega)), fun x y hx hy => mergeC_mono _ _ _ _ _ (by omega) (by omega), mergeC_st _ _ _ (by omega) (by omega), fun l hl => absurd hl (by omega), ?_, ?_, ?_⟩
  · intro E hE hp hst x y hx hy hk
    exact mergeC_least c s t (by omega) (by omega) E hE.1 (fun x y hx hy => hp x y (by omega) (by omega)) hst x y (by omega) (by omega) hk
  · intro E hE _ hL hst l hl x y hx hy hk
    exact mergeC_least c s t (by omega) (by omega) (fun x y => E (nxt a l x) (nxt a l y)) ⟨fun _ => hE.refl _, fun _ _ h => hE.symm _ _ h, fun _ _ _ h k => hE.trans _ _ _ h k⟩ (fun x y hx hy => hL l hl x y (by omega) (by omega)) (hst l hl) x y (by omega) (by omega) hk
  · exact nval_merge _ _ _ _ (nth_mem _ _ (by omega)) (nth_mem _ _ (by omega)) h (hm.2 s (by omega)).1 (by have := (hm.2 s (by omega)).2; omega)
theorem JoinTo.step {a : Aut} (ha : autOk a = true) {c c1 c2 : List Int} {s t k : Nat} (hs : s < a.n.toNat) (ht : t < a.n.toNat) (h : JoinTo a c c1 s t k) (hk : k < a.nx.length) (h2 : JoinOk a c1 c2 (nxt a k s) (nxt a k t)) : JoinTo a c c2 s t (k + 1) := by
  refine ⟨h2.marks, fun x y hx hy hxy => h2.mono x y hx hy (h.mono x y hx hy hxy), h2.mono s t hs ht h.st, ?_, ?_, ?_, Nat.lt_of_le_of_lt h2.nval h.nval⟩
  · intro l hl
    rcases Nat.lt_succ_iff_lt_or_eq.1 hl with e | e
    · exact h2.mono _ _ (nxt_lt ha l s (by omega) hs) (nxt_lt ha l t (by omega) ht) (h.done l e)
    · subst e; exact h2.st
  · intro E hE hp hst
    have h1 := h.least E hE hp hst
    exact h2.least E hE h1 (hE.2 k hk s t hs ht hst)
  · intro E hE hp hL hst
    have hp1 : Part a (ker c1) E := fun x y hx hy hxy => hp x y hx hy (h2.mono x y hx hy hxy)
    exact h2.leads E hE hp (h.leads E hE hp1 hL hst)
theorem JoinTo.ok {a : Aut} {c c1 : List Int} {s t : Nat} (ha : autOk a = true) (hs : s < a.n.toNat) (ht : t < a.n.toNat) (h : JoinTo a c c1 s t a.nx.length) : JoinOk a c c1 s t :=
  ⟨h.marks, h.mono, h.st, h.least, fun E hE hp hL => h.leads E hE hp hL fun l hl => hp _ _ (nxt_lt ha l s hl hs) (nxt_lt ha l t hl ht) (h.done l hl), Nat.le_of_lt h.nval⟩
theorem marksIn_iota {a : Aut} (ha : autOk a = true) : marksIn a (iota 0 a.n.toNat) := by
  have := autOk_n ha
  refine ⟨iota_length _ _, fun i hi => ?_⟩
  rw [iota_length] at hi
  rw [nth_iota _ _ _ hi]; omega
theorem ker_iota (n x y : Nat) (hx : x < n) (hy : y < n) (h : ker (iota 0 n) x y) : x = y := by
  unfold ker at h
  rw [nth_iota _ _ _ hx, nth_iota _ _ _ hy] at h
  omega
theorem JoinOk.final {a : Aut} {c : List Int} {s t : Nat} (h : JoinOk a (iota 0 a.n.toNat) c s t) : Final a s t c := by
  refine ⟨h.marks.1, h.st, ⟨ker_equ c, ?_⟩, ?_⟩
  · refine h.leads _ (ker_equ c) (fun x y _ _ h => h) ?_
    intro l hl x y hx hy hk
    have := ker_iota _ _ _ hx hy hk
    subst this; rfl
  · intro E hE hst
    refine h.least E hE ?_ hst
    intro x y hx hy hk
    have := ker_iota _ _ _ hx hy hk
    subst this; exact hE.1.refl _
-- the reference's way
/-- What holds of the marks at each moment. -/
structure LMarks (a : Aut) (s t : Nat) (m : List Int) : Prop where
  marks : marksIn a m
  st : ker m s t
  least : ∀ E, Cong a E → E s t → Part a (ker m) E
theorem LMarks.start {a : Aut} (ha : autOk a = true) (s t : Nat) (hs : s < a.n.toNat) (ht : t < a.n.toNat) : LMarks a s t (mergeC (iota 0 a.n.toNat) (s : Int) (t : Int)) := by
  have hi := marksIn_iota ha
  have hl := iota_length 0 a.n.toNat
  have e1 : nth (iota 0 a.n.toNat) s = (s : Int) := by rw [nth_iota _ _ _ hs]; omega
  have e2 : nth (iota 0 a.n.toNat) t = (t : Int) := by rw [nth_iota _ _ _ ht]; omega
  refine ⟨hi.merge _ _ (by omega), ?_, ?_⟩
  · have := mergeC_st (iota 0 a.n.toNat) s t (by omega) (by omega)
    rw [e1, e2] at this; exact this
  · intro E hE hst x y hx hy hk
    have := mergeC_least (iota 0 a.n.toNat) s t (by omega) (by omega) E hE.1 (fun x y hx hy hk => by
      have := ker_iota _ _ _ (by omega) (by omega) hk
      subst this; exact hE.1.refl _) hst x y (by omega) (by omega)
    rw [e1, e2] at this
    exact this hk
theorem LMarks.merge {a : Aut} {s t : Nat} {m : List Int} (ha : autOk a = true) (h : LMarks a s t m) (u v l : Nat) (hu : u < a.n.toNat) (hv : v < a.n.toNat) (hl : l < a.nx.length) (huv : ker m u v) (hs : s < a.n.toNat) (ht : t < a.n.toNat) :
    LMarks a s t (mergeC m (nth m (nxt a l u)) (nth m (nxt a l v))) := by
  have hm := h.marks.1
  have h1 := nxt_lt ha l u hl hu
  have h2 := nxt_lt ha l v hl hv
  refine ⟨h.marks.merge _ _ (h.marks.2 _ (by omega)), mergeC_mono _ _ _ _ _ (by omega) (by omega) h.st, ?_⟩
  intro E hE hst x y hx hy hk
  have hp := h.least E hE hst
  exact mergeC_least m _ _ (by omega) (by omega) E hE.1 (fun x y hx hy => hp x y (by omega) (by omega)) (hE.2 l hl u v hu hv (hp u v hu hv huv)) x y (by omega) (by omega) hk
theorem LMarks.final {a : Aut} {s t : Nat} {m : List Int} (h : LMarks a s t m) (hc : ∀ u, u < a.n.toNat → ∀ v, v < u → ker m u v → ∀ l, l < a.nx.length → ker m (nxt a l u) (nxt a l v)) : Final a s t m := by
  refine ⟨h.marks.1, h.st, ⟨ker_equ m, ?_⟩, h.least⟩
  intro l hl x y hx hy hk
  rcases Nat.lt_trichotomy x y with e | e | e
  · exact ((hc y hy x e hk.symm l hl)).symm
  · subst e; rfl
  · exact hc x hx y e hk l hl
/-- The first k marks merged. -/
def mixC (m : List Int) (p q : Int) (k : Nat) : List Int := (List.range m.length).map fun i => if i < k ∧ nth m i = p then q else nth m i
theorem mixC_len (m : List Int) (p q : Int) (k : Nat) : (mixC m p q k).length = m.length := by simp [mixC]
theorem nth_mixC (m : List Int) (p q : Int) (k i : Nat) (h : i < m.length) : nth (mixC m p q k) i = if i < k ∧ nth m i = p then q else nth m i := by
  rw [nth_eq _ _ (by rw [mixC_len]; exact h)]; simp [mixC]
theorem mixC_zero (m : List Int) (p q : Int) : mixC m p q 0 = m := by
  apply ext_nth _ _ (mixC_len _ _ _ _)
  intro i hi
  rw [mixC_len] at hi
  rw [nth_mixC _ _ _ _ _ hi, if_neg (by omega)]
theorem mixC_all (m : List Int) (p q : Int) : mixC m p q m.length = mergeC m p q := by
  apply ext_nth _ _ (by rw [mixC_len, mergeC_len])
  intro i hi
  rw [mixC_len] at hi
  rw [nth_mixC _ _ _ _ _ hi, nth_mergeC _ _ _ _ hi]
  by_cases e : nth m i = p
  · rw [if_pos ⟨hi, e⟩, if_pos e]
  · rw [if_neg (fun h => e h.2), if_neg e]
theorem mixC_here (m : List Int) (p q : Int) (k : Nat) (h : k < m.length) : nth (mixC m p q k) k = nth m k := by
  rw [nth_mixC _ _ _ _ _ h, if_neg (by omega)]
theorem mixC_hit (m : List Int) (p q : Int) (k : Nat) (h : k < m.length) (e : nth m k = p) : (mixC m p q k).set k q = mixC m p q (k + 1) := by
  apply ext_nth _ _ (by rw [List.length_set, mixC_len, mixC_len])
  intro i hi
  rw [List.length_set, mixC_len] at hi
  rw [nth_set _ _ _ _ (by rw [mixC_len]; exact h), nth_mixC _ _ _ _ _ hi, nth_mixC _ _ _ _ _ hi]
  by_cases e1 : i = k
  · subst e1; rw [if_pos rfl, if_pos ⟨by omega, e⟩]
  · rw [if_neg e1]
    by_cases e2 : i < k ∧ nth m i = p
    · rw [if_pos e2, if_pos ⟨by omega, e2.2⟩]
    · rw [if_neg e2, if_neg (fun h => e2 ⟨by omega, h.2⟩)]
theorem mixC_miss (m : List Int) (p q : Int) (k : Nat) (h : k < m.length) (e : nth m k ≠ p) : mixC m p q (k + 1) = mixC m p q k := by
  apply ext_nth _ _ (by rw [mixC_len, mixC_len])
  intro i hi
  rw [mixC_len] at hi
  rw [nth_mixC _ _ _ _ _ hi, nth_mixC _ _ _ _ _ hi]
  by_cases e1 : i = k
  · subst e1; rw [if_neg (fun h => e h.2), if_neg (fun h => e h.2)]
  · by_cases e2 : i < k ∧ nth m i = p
    · rw [if_pos e2, if_pos ⟨by omega, e2.2⟩]
    · rw [if_neg e2, if_neg (fun h => e2 ⟨by omega, h.2⟩)]
end
section
theorem sum_append_int (a b : List Int) : (a ++ b).sum = a.sum + b.sum := by
  induction a with
  | nil => simp
  | cons x r ih => simp [ih, Int.add_assoc]
/-- What the sets of a list give together, those of which d holds. -/
def sumD (S : List Nat) (d : Nat → Bool) (g : Nat → Int) : Int := (S.map fun F => if d F = true then g F else 0).sum
theorem sumD_none (S : List Nat) (g : Nat → Int) : sumD S (fun _ => false) g = 0 := by
  unfold sumD
  induction S with
  | nil => rfl
  | cons x r ih => simp at ih ⊢; exact ih
theorem sumD_congr (S : List Nat) (d d' : Nat → Bool) (g g' : Nat → Int) (h : ∀ F, F ∈ S → (if d F = true then g F else 0) = (if d' F = true then g' F else 0)) : sumD S d g = sumD S d' g' := by
  unfold sumD
  congr 1
  exact List.map_congr_left fun F hF => h F hF
theorem sumD_add : ∀ (S : List Nat) (d : Nat → Bool) (g : Nat → Int) (F : Nat), S.Nodup → F ∈ S → d F = false → sumD S (fun x => d x || x == F) g = sumD S d g + g F
  | [], _, _, F, _, h, _ => by simp at h
  | x :: r, d, g, F, hn, h, hd => by
    rw [List.nodup_cons] at hn
    unfold sumD
    simp only [List.map_cons, List.sum_cons]
    by_cases e : x = F
    · subst e
      have : (r.map fun y => if (d y || y == x) = true then g y else 0) = r.map fun y => if d y = true then g y else 0 := by
        apply List.map_congr_left
        intro y hy
        have : y ≠ x := fun e => hn.1 (e ▸ hy)
        simp [this]
      simp only [this, hd]
      simp; omega
    · have hm : F ∈ r := by
        rcases List.mem_cons.1 h with h | h
        · exact absurd h.symm e
        · exact h
      have ih := sumD_add r d g F hn.2 hm hd
      unfold sumD at ih
      rw [ih]
      have e' : (x == F) = false := by simpa using e
      simp only [e', Bool.or_false]
      omega
/-- What a set gives to another one by its first k letters. -/
def contrib (nx : List (List Int)) (cur : Nat → Int) (F G k : Nat) : Int := ((List.range k).map fun l => if moved (nth nx l) F = G then cur F else 0).sum
theorem contrib_zero (nx : List (List Int)) (cur : Nat → Int) (F G : Nat) : contrib nx cur F G 0 = 0 := rfl
theorem contrib_succ (nx : List (List Int)) (cur : Nat → Int) (F G k : Nat) : contrib nx cur F G (k + 1) = contrib nx cur F G k + if moved (nth nx k) F = G then cur F else 0 := by
  unfold contrib; rw [List.range_succ, List.map_append, sum_append_int]; simp
theorem contrib_nil (nx : List (List Int)) (cur : Nat → Int) (F G k : Nat) (h : cur F = 0) : contrib nx cur F G k = 0 := by
  induction k with
  | zero => rfl
  | succ k ih => rw [contrib_succ, ih, h]; simp
/-- How many words of a length lead from one set to each. -/
def cnt (nx : List (List Int)) (S : List Nat) (f : Nat) : Nat → Nat → Int
  | 0, G => if G = f then 1 else 0
  | k + 1, G => sumD S (fun _ => true) fun F => contrib nx (cnt nx S f k) F G nx.length
/-- The first i sets' part. -/
def sumTo (S : List Nat) (g : Nat → Int) (i : Nat) : Int := ((S.take i).map g).sum
theorem sumTo_zero (S : List Nat) (g : Nat → Int) : sumTo S g 0 = 0 := rfl
theorem sumTo_succ (S : List Nat) (g : Nat → Int) (i : Nat) (h : i < S.length) : sumTo S g (i + 1) = sumTo S g i + g (nth S i) := by
  unfold sumTo; rw [take_succ_nth S i h, List.map_append, sum_append_int]; simp
theorem sumTo_all (S : List Nat) (g : Nat → Int) : sumTo S g S.length = sumD S (fun _ => true) g := by
  unfold sumTo sumD; simp
/-- In 64 bits. -/
def w64 (x : Int) : Int := Go.RowKit.wrap64 x
theorem w64_add (x y : Int) : Go.RowKit.wrap64 (w64 x + w64 y) = w64 (x + y) := by unfold w64 Go.RowKit.wrap64; omega
theorem w64_zero : w64 0 = 0 := by unfold w64 Go.RowKit.wrap64; omega
theorem w64_one : w64 1 = 1 := by unfold w64 Go.RowKit.wrap64; omega
/-- All sets of a tour lead to sets of the tour. -/
theorem tStep_mem (nx : List (List Int)) (i l : Nat) (t : Tour) (x : Nat) (h : x ∈ t.sets) : x ∈ (tStep nx i l t).sets := by
  unfold tStep; split
  · exact h
  · simp [h]
theorem tStep_done (nx : List (List Int)) (i l : Nat) (t : Tour) : moved (nth nx l) (nth t.sets i) ∈ (tStep nx i l t).sets := by
  unfold tStep; split
  · rename_i h; rwa [contains_iff] at h
  · simp
theorem tRow_mem (nx : List (List Int)) (i : Nat) (t : Tour) (x : Nat) (h : x ∈ t.sets) : ∀ k, x ∈ (tRow nx i t k).sets
  | 0 => h
  | k + 1 => by rw [tRow_succ]; exact tStep_mem _ _ _ _ _ (tRow_mem nx i t x h k)
theorem tRow_done (nx : List (List Int)) (i : Nat) (t : Tour) (hi : i < t.sets.length) : ∀ k l, l < k → moved (nth nx l) (nth t.sets i) ∈ (tRow nx i t k).sets
  | 0, l, h => absurd h (by omega)
  | k + 1, l, h => by
    rw [tRow_succ]
    by_cases e : l = k
    · subst e
      have := tStep_done nx i l (tRow nx i t l)
      rwa [(tRow_sets nx i t l).2 i hi] at this
    · exact tStep_mem _ _ _ _ _ (tRow_done nx i t hi k l (by omega))
theorem tTo_done (nx : List (List Int)) (f : Nat) : ∀ k, (∀ i l, i < k → i < (tTo nx f k).sets.length → l < nx.length → moved (nth nx l) (nth (tTo nx f k).sets i) ∈ (tTo nx f k).sets)
  | 0, i, _, h, _, _ => absurd h (by omega)
  | k + 1, i, l, hi, hlen, hl => by
    have ih := tTo_done nx f k
    rw [tTo_succ] at hlen ⊢
    by_cases hk : k < (tTo nx f k).sets.length
    · rw [if_pos hk] at hlen ⊢
      have hs := tRow_sets nx k (tTo nx f k) nx.length
      have hi' : i < (tTo nx f k).sets.length := by omega
      rw [hs.2 i hi']
      by_cases e : i = k
      · subst e; exact tRow_done nx i _ hk _ l hl
      · exact tRow_mem _ _ _ _ (ih i l (by omega) hi' hl) _
    · rw [if_neg hk] at hlen ⊢
      exact ih i l (by omega) hlen hl
theorem tour_closed {a : Aut} (ha : autOk a = true) (f : Nat) (hf : f < 2 ^ a.n.toNat) (F : Nat) (hF : F ∈ (tourOf a.nx f).sets) (l : Nat) (hl : l < a.nx.length) : moved (nth a.nx l) F ∈ (tourOf a.nx f).sets := by
  obtain ⟨i, hi, rfl⟩ := mem_nth _ _ hF
  have h1 := (tourOk ha f hf).len (autOk_n ha).2
  exact tTo_done a.nx f 1024 i l (by unfold tourOf at h1 hi; omega) hi hl
def CountResets (a : Aut) (len : Int) : Int × Int :=
  if autOk a = true then (if inB len 0 20 = true then (w64 (sumD (tourOf a.nx (full a.n)).sets smallB (cnt a.nx (tourOf a.nx (full a.n)).sets (full a.n) len.toNat)), 0) else (0, 2)) else (0, 1)
def CountByRank (a : Aut) (len : Int) : List Int × Int :=
  if autOk a = true then (if inB len 0 20 = true then ((List.range (a.n.toNat + 1)).map fun k => w64 (sumD (tourOf a.nx (full a.n)).sets (fun F => (setOf F).length == k) (cnt a.nx (tourOf a.nx (full a.n)).sets (full a.n) len.toNat)), 0) else ([], 2)) else ([], 1)
/-- A row of N numbers. -/
def rowL (N : Nat) (f : Nat → Int) : List Int := (List.range N).map f
theorem rowL_len (N : Nat) (f : Nat → Int) : (rowL N f).length = N := by simp [rowL]
theorem nth_rowL (N : Nat) (f : Nat → Int) (i : Nat) (h : i < N) : nth (rowL N f) i = f i := by
  rw [nth_eq _ _ (by rw [rowL_len]; exact h)]; simp [rowL]
theorem rowL_set (N : Nat) (f : Nat → Int) (i : Nat) (x : Int) (h : i < N) : (rowL N f).set i x = rowL N (fun j => if j = i then x else f j) := by
  apply ext_nth
  · rw [List.length_set, rowL_len, rowL_len]
  · intro j hj
    rw [List.length_set, rowL_len] at hj
    rw [nth_set _ _ _ _ (by rw [rowL_len]; exact h), nth_rowL _ _ _ hj, nth_rowL _ _ _ hj]
theorem rowL_congr (N : Nat) (f g : Nat → Int) (h : ∀ i, i < N → f i = g i) : rowL N f = rowL N g := by
  apply ext_nth
  · rw [rowL_len, rowL_len]
  · intro j hj
    rw [rowL_len] at hj
    rw [nth_rowL _ _ _ hj, nth_rowL _ _ _ hj, h j hj]
theorem rowL_zero (N : Nat) : rowL N (fun _ => 0) = List.replicate N 0 := by
  apply ext_nth
  · rw [rowL_len]; simp
  · intro j hj
    rw [rowL_len] at hj
    rw [nth_rowL _ _ _ hj]; simp [nth, hj]
/-- What stands in the next row in the midst of a step. -/
def midAt (nx : List (List Int)) (S : List Nat) (cur : Nat → Int) (i l G : Nat) : Int := w64 (sumTo S (fun F => contrib nx cur F G nx.length) i + contrib nx cur (nth S i) G l)
theorem midAt_start (nx : List (List Int)) (S : List Nat) (cur : Nat → Int) (G : Nat) : midAt nx S cur 0 0 G = 0 := by
  unfold midAt; rw [sumTo_zero, contrib_zero]; exact w64_zero
theorem midAt_step (nx : List (List Int)) (S : List Nat) (cur : Nat → Int) (i l G : Nat) : midAt nx S cur i (l + 1) G = if G = moved (nth nx l) (nth S i) then Go.RowKit.wrap64 (midAt nx S cur i l G + w64 (cur (nth S i))) else midAt nx S cur i l G := by
  unfold midAt
  rw [contrib_succ]
  by_cases e : G = moved (nth nx l) (nth S i)
  · rw [if_pos e, if_pos e.symm, w64_add, Int.add_assoc]
  · rw [if_neg e, if_neg (fun h => e h.symm)]; simp
theorem midAt_next (nx : List (List Int)) (S : List Nat) (cur : Nat → Int) (i G : Nat) (h : i < S.length) : midAt nx S cur (i + 1) 0 G = midAt nx S cur i nx.length G := by
  unfold midAt
  rw [sumTo_succ _ _ _ h, contrib_zero]; simp
theorem midAt_end (nx : List (List Int)) (S : List Nat) (f k G : Nat) : midAt nx S (cnt nx S f k) S.length 0 G = w64 (cnt nx S f (k + 1) G) := by
  unfold midAt
  rw [sumTo_all, contrib_zero, cnt]; simp
theorem cnt_zero (nx : List (List Int)) (S : List Nat) (f G : Nat) : w64 (cnt nx S f 0 G) = if G = f then 1 else 0 := by
  rw [cnt]; split
  · exact w64_one
  · exact w64_zero
/-- The first i sets of which d holds. -/
def pickTo (S : List Nat) (d : Nat → Bool) (g : Nat → Int) (i : Nat) : Int := sumTo S (fun F => if d F = true then g F else 0) i
theorem pickTo_succ (S : List Nat) (d : Nat → Bool) (g : Nat → Int) (i : Nat) (h : i < S.length) : pickTo S d g (i + 1) = pickTo S d g i + if d (nth S i) = true then g (nth S i) else 0 := by
  unfold pickTo; rw [sumTo_succ _ _ _ h]
theorem pickTo_all (S : List Nat) (d : Nat → Bool) (g : Nat → Int) : pickTo S d g S.length = sumD S d g := by
  unfold pickTo; rw [sumTo_all]; unfold sumD; simp
end
section
/-- How many classes the first k marks have. -/
def clsTo (cl : List Int) (k : Nat) : Int := (cl.take k).foldl (fun m x => if m > x + 1 then m else x + 1) 0
theorem clsTo_zero (cl : List Int) : clsTo cl 0 = 0 := rfl
theorem clsTo_succ (cl : List Int) (k : Nat) (h : k < cl.length) : clsTo cl (k + 1) = if clsTo cl k > nth cl k + 1 then clsTo cl k else nth cl k + 1 := by
  unfold clsTo; rw [take_succ_nth cl k h, List.foldl_append]; rfl
theorem clsTo_ge (cl : List Int) : ∀ k, k ≤ cl.length → ∀ i, i < k → nth cl i + 1 ≤ clsTo cl k
  | 0, _, i, hi => absurd hi (by omega)
  | k + 1, hk, i, hi => by
    rw [clsTo_succ cl k (by omega)]
    by_cases e : i = k
    · subst e; split <;> omega
    · have := clsTo_ge cl k (by omega) i (by omega)
      split <;> omega
theorem clsTo_hit (cl : List Int) : ∀ k, k ≤ cl.length → 0 < k → (∃ i, i < k ∧ nth cl i + 1 = clsTo cl k) ∨ clsTo cl k = 0
  | 0, _, h => absurd h (by omega)
  | k + 1, hk, _ => by
    rw [clsTo_succ cl k (by omega)]
    split
    · by_cases e : k = 0
      · subst e; right; exact clsTo_zero cl
      · rcases clsTo_hit cl k (by omega) (by omega) with ⟨i, hi, h⟩ | h
        · exact Or.inl ⟨i, by omega, h⟩
        · exact Or.inr h
    · exact Or.inl ⟨k, by omega, rfl⟩
theorem clsTo_nonneg (cl : List Int) (h : ∀ i, i < cl.length → 0 ≤ nth cl i) : ∀ k, k ≤ cl.length → 0 ≤ clsTo cl k ∧ (0 < k → 1 ≤ clsTo cl k)
  | 0, _ => by simp [clsTo_zero]
  | k + 1, hk => by
    have h1 := clsTo_nonneg cl h k (by omega)
    have h2 := h k (by omega)
    rw [clsTo_succ cl k (by omega)]
    split <;> omega
/-- How many classes there are. -/
def clsN (cl : List Int) : Int := clsTo cl cl.length
/-- Each class up to one that is there is there. -/
theorem divOk_all : ∀ (xs : List Int) (u : Int), 0 ≤ u → divOk u xs = true → ∀ i, i < xs.length → ∀ c, u ≤ c → c ≤ nth xs i → c ∈ xs
  | [], _, _, _, i, hi, _, _, _ => by simp at hi
  | x :: r, u, hu, h, i, hi, c, hc1, hc2 => by
    simp only [divOk, Bool.and_eq_true] at h
    have h1 := (inB_iff _ _ _).1 h.1
    by_cases e : x = u
    · by_cases e2 : c = u
      · rw [e2, ← e]; simp
      · cases i with
        | zero => simp [nth] at hc2; omega
        | succ i =>
          have h2 := h.2
          rw [if_pos e] at h2
          exact List.mem_cons_of_mem _ (divOk_all r (u + 1) (by omega) h2 i (by simpa using hi) c (by omega) (by simpa [nth] using hc2))
    · cases i with
      | zero => simp [nth] at hc2; omega
      | succ i =>
        have h2 := h.2
        rw [if_neg e] at h2
        exact List.mem_cons_of_mem _ (divOk_all r u hu h2 i (by simpa using hi) c hc1 (by simpa [nth] using hc2))
theorem isDiv_parts {cl : List Int} {n : Int} (h : isDiv cl n = true) : divOk 0 cl = true ∧ (cl.length : Int) = n := by
  unfold isDiv at h; rwa [Bool.and_eq_true, decide_eq_true_eq] at h
theorem cls_has {cl : List Int} {n : Int} (h : isDiv cl n = true) (c : Int) (h0 : 0 ≤ c) (h1 : c < clsN cl) : c ∈ cl := by
  obtain ⟨hd, hl⟩ := isDiv_parts h
  by_cases e : cl.length = 0
  · have : clsN cl = 0 := by unfold clsN; rw [e]; rfl
    omega
  · rcases clsTo_hit cl cl.length (Nat.le_refl _) (by omega) with ⟨i, hi, h2⟩ | h2
    · exact divOk_all cl 0 (by omega) hd i hi c h0 (by unfold clsN at h1; omega)
    · unfold clsN at h1; omega
/-- Where a class leads. -/
def quoAt (cl row : List Int) (c : Int) : Int := nth cl (nth row (placeOf cl c).toNat).toNat
def quoRow (cl row : List Int) : List Int := (iota 0 (clsN cl).toNat).map fun c => quoAt cl row c
def quoOf (a : Aut) (cl : List Int) : Aut := ⟨clsN cl, a.nx.map fun row => quoRow cl row⟩
noncomputable def QuotientOf (a : Aut) (cl : List Int) : Aut × Int :=
  if autOk a = true then (if isDiv cl a.n = true then (if congB a.nx cl = true then (quoOf a cl, 0) else (⟨0, []⟩, 4)) else (⟨0, []⟩, 2)) else (⟨0, []⟩, 1)
/-- A row that is filled state by state. -/
def fillTo (cl row : List Int) (k : Nat) : List Int := (iota 0 (clsN cl).toNat).map fun c => if hasB (cl.take k) c = true then quoAt cl row c else 0
theorem fillTo_len (cl row : List Int) (k : Nat) : (fillTo cl row k).length = (clsN cl).toNat := by simp [fillTo, iota_length]
theorem nth_fillTo (cl row : List Int) (k i : Nat) (h : i < (clsN cl).toNat) : nth (fillTo cl row k) i = if hasB (cl.take k) (i : Int) = true then quoAt cl row i else 0 := by
  unfold fillTo
  rw [nth_map _ _ _ (by rw [iota_length]; exact h), nth_iota _ _ _ h, Int.zero_add]
theorem fillTo_zero (cl row : List Int) : fillTo cl row 0 = List.replicate (clsN cl).toNat 0 := by
  apply ext_nth
  · rw [fillTo_len]; simp
  · intro i hi
    rw [fillTo_len] at hi
    rw [nth_fillTo _ _ _ _ hi]
    simp [hasB, nth, hi]
theorem congB_of {nx : List (List Int)} {cl : List Int} (h : congB nx cl = true) : congP nx cl := by unfold congB at h; simpa using h
theorem fillTo_step {a : Aut} {cl : List Int} (hd : isDiv cl a.n = true) (hc : congB a.nx cl = true) (l k : Nat) (hl : l < a.nx.length) (hk : k < cl.length) :
    (fillTo cl (nth a.nx l) k).set (nth cl k).toNat (nth cl (nth (nth a.nx l) k).toNat) = fillTo cl (nth a.nx l) (k + 1) := by
  obtain ⟨h1, h2⟩ := isDiv_parts hd
  have h3 := (divOk_in cl 0 (by omega) h1 k hk).1
  have h4 := clsTo_ge cl cl.length (Nat.le_refl _) k hk
  have hlt : (nth cl k).toNat < (clsN cl).toNat := by unfold clsN; omega
  apply ext_nth
  · rw [List.length_set, fillTo_len, fillTo_len]
  · intro i hi
    rw [List.length_set, fillTo_len] at hi
    rw [nth_set _ _ _ _ (by rw [fillTo_len]; exact hlt), nth_fillTo _ _ _ _ hi, nth_fillTo _ _ _ _ hi]
    have hm : hasB (cl.take (k + 1)) (i : Int) = (hasB (cl.take k) (i : Int) || decide ((i : Int) = nth cl k)) := by
      rw [take_succ_nth cl k hk, Bool.eq_iff_iff, Bool.or_eq_true, hasB_iff, hasB_iff, decide_eq_true_eq]; simp
    by_cases e : i = (nth cl k).toNat
    · rw [if_pos e, hm, if_pos (by rw [decide_eq_true (by omega)]; simp)]
      have hi' : (i : Int) = nth cl k := by omega
      rw [hi']
      unfold quoAt
      obtain ⟨j, j1, j2, j3, _⟩ := placeOf_mem cl (nth cl k) (nth_mem _ _ hk)
      rw [j3, Int.toNat_natCast]
      exact (congB_of hc l hl k hk j j1) j2.symm
    · rw [if_neg e, hm, decide_eq_false (by omega), Bool.or_false]
theorem fillTo_all {a : Aut} {cl : List Int} (hd : isDiv cl a.n = true) (row : List Int) : fillTo cl row cl.length = quoRow cl row := by
  apply ext_nth
  · rw [fillTo_len]; simp [quoRow, iota_length]
  · intro i hi
    rw [fillTo_len] at hi
    rw [nth_fillTo _ _ _ _ hi]
    unfold quoRow
    rw [nth_map _ _ _ (by rw [iota_length]; exact hi), nth_iota _ _ _ hi, Int.zero_add, List.take_length, if_pos ((hasB_iff _ _).2 (cls_has hd _ (by omega) (by omega)))]
theorem cls_le {cl : List Int} {n : Int} (h : isDiv cl n = true) : 0 ≤ clsN cl ∧ clsN cl ≤ n + 1 ∧ (0 < n → 1 ≤ clsN cl) := by
  obtain ⟨h1, h2⟩ := isDiv_parts h
  have h0 : ∀ i, i < cl.length → 0 ≤ nth cl i := fun i hi => (divOk_in cl 0 (by omega) h1 i hi).1
  obtain ⟨h3, h4⟩ := clsTo_nonneg cl h0 cl.length (Nat.le_refl _)
  refine ⟨h3, ?_, fun hn => h4 (by omega)⟩
  unfold clsN
  by_cases e : cl.length = 0
  · rw [e, clsTo_zero]; omega
  · rcases clsTo_hit cl cl.length (Nat.le_refl _) (by omega) with ⟨i, hi, h⟩ | h
    · have := (divOk_in cl 0 (by omega) h1 i hi).2; omega
    · omega
end

end Go.Proofs.YthbebnfhplacnaaGreat
