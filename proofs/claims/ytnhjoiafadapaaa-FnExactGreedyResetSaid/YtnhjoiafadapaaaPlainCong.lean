/- The least congruence in which two states are in one class. -/
import Derived.Test.YtnhjoiafadapaaaCore
import Derived.Test.YtnhjoiafadapaaaPlains
import Derived.Test.YtnhjoiafadapaaaPers
import Derived.WalkKit
import Derived.WalkSpells
import Derived.WalkLawsBesides
import Derived.Deep.QuietTactic
import Derived.Deep.OwnRows
import Derived.BigQuiet
import Derived.KernelRfl
namespace Go.Proofs.Ytnhjoiafadapaaa
open Go.RowKit

theorem tidy_ker (xs ys : List Int) (hl : xs.length = ys.length) (h : ∀ i j, i < xs.length → j < xs.length → (nth xs i = nth xs j ↔ nth ys i = nth ys j)) :
    ∀ k, k ≤ xs.length → (firsts (xs.take k)).length = (firsts (ys.take k)).length ∧ ∀ i, i < k → placeOf (firsts (xs.take k)) (nth xs i) = placeOf (firsts (ys.take k)) (nth ys i)
  | 0, _ => by simp [firsts]
  | k + 1, hk => by
    obtain ⟨h1, h2⟩ := tidy_ker xs ys hl h k (by omega)
    rw [firsts_take xs k (by omega), firsts_take ys k (by omega)]
    have hm : nth xs k ∈ firsts (xs.take k) ↔ nth ys k ∈ firsts (ys.take k) := by
      rw [mem_firsts, mem_firsts]
      constructor
      · intro hx
        obtain ⟨i, hi, e⟩ := mem_nth _ _ hx
        rw [List.length_take] at hi
        have e1 : nth (xs.take k) i = nth xs i := by simp [nth, show i < k by omega]
        rw [e1] at e
        rw [← (h i k (by omega) (by omega)).1 e]
        exact nth_mem_take _ _ _ (by omega) (by omega)
      · intro hx
        obtain ⟨i, hi, e⟩ := mem_nth _ _ hx
        rw [List.length_take] at hi
        have e1 : nth (ys.take k) i = nth ys i := by simp [nth, show i < k by omega]
        rw [e1] at e
        rw [← (h i k (by omega) (by omega)).2 e]
        exact nth_mem_take _ _ _ (by omega) (by omega)
    have hin : ∀ i, i < k → nth xs i ∈ firsts (xs.take k) ∧ nth ys i ∈ firsts (ys.take k) := fun i hi => by
      rw [mem_firsts, mem_firsts]
      exact ⟨nth_mem_take _ _ _ hi (by omega), nth_mem_take _ _ _ hi (by omega)⟩
    by_cases hx : nth xs k ∈ firsts (xs.take k)
    · have hy := hm.1 hx
      unfold addNew
      rw [if_pos ((hasB_iff _ _).2 hx), if_pos ((hasB_iff _ _).2 hy)]
      refine ⟨h1, fun i hi => ?_⟩
      by_cases e : i < k
      · exact h2 i e
      · have : i = k := by omega
        subst this
        rw [mem_firsts] at hx
        obtain ⟨j, hj, e⟩ := mem_nth _ _ hx
        rw [List.length_take] at hj
        have e1 : nth (xs.take i) j = nth xs j := by simp [nth, show j < i by omega]
        rw [e1] at e
        rw [← e, ← (h j i (by omega) (by omega)).1 e]
        exact h2 j (by omega)
    · have hy : ¬ nth ys k ∈ firsts (ys.take k) := fun hy => hx (hm.2 hy)
      unfold addNew
      rw [if_neg (by rw [hasB_iff]; exact hx), if_neg (by rw [hasB_iff]; exact hy)]
      refine ⟨by simp [h1], fun i hi => ?_⟩
      by_cases e : i < k
      · rw [placeOf_left _ _ _ (hin i e).1, placeOf_left _ _ _ (hin i e).2]; exact h2 i e
      · have : i = k := by omega
        subst this
        rw [placeOf_new _ _ hx, placeOf_new _ _ hy, h1]
theorem tidyOf_ker (xs ys : List Int) (hl : xs.length = ys.length) (h : ∀ i j, i < xs.length → j < xs.length → (nth xs i = nth xs j ↔ nth ys i = nth ys j)) : tidyOf xs = tidyOf ys := by
  apply ext_nth
  · simp [tidyOf, tidyTo_len, hl]
  · intro i hi
    unfold tidyOf at hi ⊢
    rw [tidyTo_len] at hi
    rw [nth_tidyTo _ _ _ hi, nth_tidyTo _ _ _ (by omega)]
    exact (tidy_ker xs ys hl h (i + 1) (by omega)).2 i (by omega)
/-- Where a letter leads, as a natural number. -/
def nxt (a : Aut) (l x : Nat) : Nat := (nth (nth a.nx l) x).toNat
def ker (m : List Int) (x y : Nat) : Prop := nth m x = nth m y
structure Equ (E : Nat → Nat → Prop) : Prop where
  refl : ∀ x, E x x
  symm : ∀ x y, E x y → E y x
  trans : ∀ x y z, E x y → E y z → E x z
theorem ker_equ (m : List Int) : Equ (ker m) := ⟨fun _ => rfl, fun _ _ h => Eq.symm h, fun _ _ _ h k => Eq.trans h k⟩
/-- Each letter leads from one class to one class. -/
def Leads (a : Aut) (D E : Nat → Nat → Prop) : Prop := ∀ l, l < a.nx.length → ∀ x y, x < a.n.toNat → y < a.n.toNat → D x y → E (nxt a l x) (nxt a l y)
def Part (a : Aut) (D E : Nat → Nat → Prop) : Prop := ∀ x y, x < a.n.toNat → y < a.n.toNat → D x y → E x y
def Cong (a : Aut) (E : Nat → Nat → Prop) : Prop := Equ E ∧ Leads a E E
structure Final (a : Aut) (s t : Nat) (m : List Int) : Prop where
  len : m.length = a.n.toNat
  st : ker m s t
  cong : Cong a (ker m)
  least : ∀ E, Cong a E → E s t → Part a (ker m) E
theorem Final.tidy {a : Aut} {s t : Nat} {m m' : List Int} (h : Final a s t m) (h' : Final a s t m') : tidyOf m = tidyOf m' :=
  tidyOf_ker m m' (by rw [h.len, h'.len]) fun i j hi hj => by
    rw [h.len] at hi hj
    exact ⟨h.least _ h'.cong h'.st i j hi hj, h'.least _ h.cong h.st i j hi hj⟩
open Classical in
noncomputable def lcOf (a : Aut) (s t : Nat) : List Int := if h : ∃ m, Final a s t m then tidyOf (Classical.choose h) else []
theorem lcOf_eq {a : Aut} {s t : Nat} {m : List Int} (h : Final a s t m) : lcOf a s t = tidyOf m := by
  have he : ∃ m, Final a s t m := ⟨m, h⟩
  unfold lcOf
  rw [dif_pos he]
  exact (Classical.choose_spec he).tidy h
/-- Two classes put together. -/
def mergeC (m : List Int) (p q : Int) : List Int := m.map fun x => if x = p then q else x
theorem mergeC_len (m : List Int) (p q : Int) : (mergeC m p q).length = m.length := by simp [mergeC]
theorem nth_mergeC (m : List Int) (p q : Int) (i : Nat) (h : i < m.length) : nth (mergeC m p q) i = if nth m i = p then q else nth m i := nth_map _ _ _ h
theorem mergeC_mono (m : List Int) (p q : Int) (x y : Nat) (hx : x < m.length) (hy : y < m.length) (h : ker m x y) : ker (mergeC m p q) x y := by
  unfold ker at *
  rw [nth_mergeC _ _ _ _ hx, nth_mergeC _ _ _ _ hy, h]
theorem mergeC_st (m : List Int) (x y : Nat) (hx : x < m.length) (hy : y < m.length) : ker (mergeC m (nth m x) (nth m y)) x y := by
  unfold ker
  rw [nth_mergeC _ _ _ _ hx, nth_mergeC _ _ _ _ hy, if_pos rfl]
  split <;> rfl
/-- What the merged list puts together follows from what it was made of. -/
theorem mergeC_least (m : List Int) (s t : Nat) (hs : s < m.length) (ht : t < m.length) (E : Nat → Nat → Prop) (hE : Equ E) (h : ∀ x y, x < m.length → y < m.length → ker m x y → E x y) (hst : E s t) :
    ∀ x y, x < m.length → y < m.length → ker (mergeC m (nth m s) (nth m t)) x y → E x y := by
  intro x y hx hy hk
  unfold ker at hk
  rw [nth_mergeC _ _ _ _ hx, nth_mergeC _ _ _ _ hy] at hk
  by_cases e1 : nth m x = nth m s
  · by_cases e2 : nth m y = nth m s
    · exact h x y hx hy (e1.trans e2.symm)
    · rw [if_pos e1, if_neg e2] at hk
      exact hE.trans _ _ _ (h x s hx hs e1) (hE.trans _ _ _ hst (h t y ht hy hk))
  · by_cases e2 : nth m y = nth m s
    · rw [if_neg e1, if_pos e2] at hk
      exact hE.trans _ _ _ (h x t hx ht hk) (hE.trans _ _ _ (hE.symm _ _ hst) (h s y hs hy e2.symm))
    · rw [if_neg e1, if_neg e2] at hk
      exact h x y hx hy hk
/-- How many of the numbers below n occur. -/
def nval (n : Nat) (m : List Int) : Nat := (List.range n).countP fun (v : Nat) => hasB m (v : Int)
theorem countP_le {α : Type} (p q : α → Bool) (h : ∀ x, p x = true → q x = true) : ∀ l : List α, l.countP p ≤ l.countP q
  | [] => by simp
  | x :: r => by
    have ih := countP_le p q h r
    rw [List.countP_cons, List.countP_cons]
    have := h x
    cases e1 : p x <;> cases e2 : q x <;> simp_all <;> omega
theorem countP_lt {α : Type} (p q : α → Bool) (h : ∀ x, p x = true → q x = true) (z : α) (hp : p z = false) (hq : q z = true) : ∀ l : List α, z ∈ l → l.countP p < l.countP q
  | [], hz => by simp at hz
  | x :: r, hz => by
    rw [List.countP_cons, List.countP_cons]
    rcases List.mem_cons.1 hz with e | e
    · subst e
      have := countP_le p q h r
      rw [hp, hq]; simp; omega
    · have ih := countP_lt p q h z hp hq r e
      have := h x
      cases e1 : p x <;> cases e2 : q x <;> simp_all <;> omega
theorem nval_merge (n : Nat) (m : List Int) (p q : Int) (hp : p ∈ m) (hq : q ∈ m) (hne : p ≠ q) (h0 : 0 ≤ p) (h1 : p < n) : nval n (mergeC m p q) < nval n m := by
  have hno : ¬ p ∈ mergeC m p q := by
    unfold mergeC
    rw [List.mem_map]
    rintro ⟨x, _, e⟩
    split at e
    · exact hne e.symm
    · rename_i h; exact h e
  refine countP_lt _ _ ?_ p.toNat ?_ ?_ _ (List.mem_range.2 (by omega))
  · intro v hv
    rw [hasB_iff] at hv ⊢
    unfold mergeC at hv
    rw [List.mem_map] at hv
    obtain ⟨x, hx, e⟩ := hv
    split at e
    · rw [← e]; exact hq
    · rw [← e]; exact hx
  · rw [show ((p.toNat : Nat) : Int) = p by omega]
    cases e : hasB (mergeC m p q) p with
    | false => rfl
    | true => exact absurd ((hasB_iff _ _).1 e) hno
  · rw [show ((p.toNat : Nat) : Int) = p by omega]
    exact (hasB_iff _ _).2 hp
theorem nval_le (n : Nat) (m : List Int) : nval n m ≤ n := by
  have := List.countP_le_length (p := fun v : Nat => hasB m (v : Int)) (l := List.range n)
  simpa [nval] using this
/-- All marks are states. -/
def marksIn (a : Aut) (m : List Int) : Prop := m.length = a.n.toNat ∧ ∀ i, i < m.length → 0 ≤ nth m i ∧ nth m i < a.n
theorem marksIn.merge {a : Aut} {m : List Int} (h : marksIn a m) (p q : Int) (hq : 0 ≤ q ∧ q < a.n) : marksIn a (mergeC m p q) := by
  refine ⟨by rw [mergeC_len]; exact h.1, fun i hi => ?_⟩
  rw [mergeC_len] at hi
  rw [nth_mergeC _ _ _ _ hi]
  split
  · exact hq
  · exact h.2 i hi
theorem nxt_lt {a : Aut} (ha : autOk a = true) (l x : Nat) (hl : l < a.nx.length) (hx : x < a.n.toNat) : nxt a l x < a.n.toNat := by
  obtain ⟨h1, h2⟩ := autOk_row ha l hl
  have := h2 x (by omega)
  unfold nxt; omega
def LeastCongruenceR (a : Aut) (s t : Int) (l : List Int) : List Int × Int := if autOk a = true then (if (inB s 0 (a.n - 1) && inB t 0 (a.n - 1)) = true then (l, 0) else ([], 2)) else ([], 1)
noncomputable def LeastCongruence (a : Aut) (s t : Int) : List Int × Int := LeastCongruenceR a s t (lcOf a s.toNat t.toNat)
-- the program's way
structure JoinOk (a : Aut) (c c' : List Int) (s t : Nat) : Prop where
  marks : marksIn a c'
  mono : Part a (ker c) (ker c')
  st : ker c' s t
  least : ∀ E, Cong a E → Part a (ker c) E → E s t → Part a (ker c') E
  leads : ∀ E, Equ E → Part a (ker c') E → Leads a (ker c) E → Leads a (ker c') E
  nval : nval a.n.toNat c' ≤ nval a.n.toNat c
structure JoinTo (a : Aut) (c c' : List Int) (s t k : Nat) : Prop where
  marks : marksIn a c'
  mono : Part a (ker c) (ker c')
  st : ker c' s t
  done : ∀ l, l < k → ker c' (nxt a l s) (nxt a l t)
  least : ∀ E, Cong a E → Part a (ker c) E → E s t → Part a (ker c') E
  leads : ∀ E, Equ E → Part a (ker c') E → Leads a (ker c) E → (∀ l, l < a.nx.length → E (nxt a l s) (nxt a l t)) → Leads a (ker c') E
  nval : nval a.n.toNat c' < nval a.n.toNat c
theorem JoinOk.same {a : Aut} {c : List Int} {s t : Nat} (hm : marksIn a c) (h : nth c s = nth c t) : JoinOk a c c s t :=
  ⟨hm, fun _ _ _ _ h => h, h, fun _ _ h _ => h, fun _ _ _ h => h, Nat.le_refl _⟩
theorem JoinTo.start {a : Aut} {c : List Int} {s t : Nat} (hm : marksIn a c) (hs : s < a.n.toNat) (ht : t < a.n.toNat) (h : nth c s ≠ nth c t) : JoinTo a c (mergeC c (nth c s) (nth c t)) s t 0 := by
  have hl := hm.1
  refine ⟨hm.merge _ _ (hm.2 t (by omega)), fun x y hx hy => mergeC_mono _ _ _ _ _ (by omega) (by omega), mergeC_st _ _ _ (by omega) (by omega), fun l hl => absurd hl (by omega), ?_, ?_, ?_⟩
  · intro E hE hp hst x y hx hy hk
    exact mergeC_least c s t (by omega) (by omega) E hE.1 (fun x y hx hy => hp x y (by omega) (by omega)) hst x y (by omega) (by omega) hk
  · intro E hE _ hL hst l hl x y hx hy hk
    exact mergeC_least c s t (by omega) (by omega) (fun x y => E (nxt a l x) (nxt a l y)) ⟨fun _ => hE.refl _, fun _ _ h => hE.symm _ _ h, fun _ _ _ h k => hE.trans _ _ _ h k⟩ (fun x y hx hy => hL l hl x y (by omega) (by omega)) (hst l hl) x y (by omega) (by omega) hk
  · exact nval_merge _ _ _ _ (nth_mem _ _ (by omega)) (nth_mem _ _ (by omega)) h (hm.2 s (by omega)).1 (by have := (hm.2 s (by omega)).2; omega)
theorem JoinTo.step {a : Aut} (ha : autOk a = true) {c c1 c2 : List Int} {s t k : Nat} (hs : s < a.n.toNat) (ht : t < a.n.toNat) (h : JoinTo a c c1 s t k) (hk : k < a.nx.length) (h2 : JoinOk a c1 c2 (nxt a k s) (nxt a k t)) : JoinTo a c c2 s t (k + 1) := by
  refine ⟨h2.marks, fun x y hx hy hxy => h2.mono x y hx hy (h.mono x y hx hy hxy), h2.mono s t hs ht h.st, ?_, ?_, ?_, Nat.lt_of_le_of_lt h2.nval h.nval⟩
  · intro l hl
    rcases Nat.lt_succ_iff_lt_or_eq.1 hl with e | e
    · exact h2.mono _ _ (nxt_lt ha l s (by omega) hs) (nxt_lt ha l t (by omega) ht) (h.done l e)
    · subst e; exact h2.st
  · intro E hE hp hst
    have h1 := h.least E hE hp hst
    exact h2.least E hE h1 (hE.2 k hk s t hs ht hst)
  · intro E hE hp hL hst
    have hp1 : Part a (ker c1) E := fun x y hx hy hxy => hp x y hx hy (h2.mono x y hx hy hxy)
    exact h2.leads E hE hp (h.leads E hE hp1 hL hst)
theorem JoinTo.ok {a : Aut} {c c1 : List Int} {s t : Nat} (ha : autOk a = true) (hs : s < a.n.toNat) (ht : t < a.n.toNat) (h : JoinTo a c c1 s t a.nx.length) : JoinOk a c c1 s t :=
  ⟨h.marks, h.mono, h.st, h.least, fun E hE hp hL => h.leads E hE hp hL fun l hl => hp _ _ (nxt_lt ha l s hl hs) (nxt_lt ha l t hl ht) (h.done l hl), Nat.le_of_lt h.nval⟩
theorem marksIn_iota {a : Aut} (ha : autOk a = true) : marksIn a (iota 0 a.n.toNat) := by
  have := autOk_n ha
  refine ⟨iota_length _ _, fun i hi => ?_⟩
  rw [iota_length] at hi
  rw [nth_iota _ _ _ hi]; omega
theorem ker_iota (n x y : Nat) (hx : x < n) (hy : y < n) (h : ker (iota 0 n) x y) : x = y := by
  unfold ker at h
  rw [nth_iota _ _ _ hx, nth_iota _ _ _ hy] at h
  omega
theorem JoinOk.final {a : Aut} {c : List Int} {s t : Nat} (h : JoinOk a (iota 0 a.n.toNat) c s t) : Final a s t c := by
  refine ⟨h.marks.1, h.st, ⟨ker_equ c, ?_⟩, ?_⟩
  · refine h.leads _ (ker_equ c) (fun x y _ _ h => h) ?_
    intro l hl x y hx hy hk
    have := ker_iota _ _ _ hx hy hk
    subst this; rfl
  · intro E hE hst
    refine h.least E hE ?_ hst
    intro x y hx hy hk
    have := ker_iota _ _ _ hx hy hk
    subst this; exact hE.1.refl _
-- the reference's way
/-- What holds of the marks at each moment. -/
structure LMarks (a : Aut) (s t : Nat) (m : List Int) : Prop where
  marks : marksIn a m
  st : ker m s t
  least : ∀ E, Cong a E → E s t → Part a (ker m) E
theorem LMarks.start {a : Aut} (ha : autOk a = true) (s t : Nat) (hs : s < a.n.toNat) (ht : t < a.n.toNat) : LMarks a s t (mergeC (iota 0 a.n.toNat) (s : Int) (t : Int)) := by
  have hi := marksIn_iota ha
  have hl := iota_length 0 a.n.toNat
  have e1 : nth (iota 0 a.n.toNat) s = (s : Int) := by rw [nth_iota _ _ _ hs]; omega
  have e2 : nth (iota 0 a.n.toNat) t = (t : Int) := by rw [nth_iota _ _ _ ht]; omega
  refine ⟨hi.merge _ _ (by omega), ?_, ?_⟩
  · have := mergeC_st (iota 0 a.n.toNat) s t (by omega) (by omega)
    rw [e1, e2] at this; exact this
  · intro E hE hst x y hx hy hk
    have := mergeC_least (iota 0 a.n.toNat) s t (by omega) (by omega) E hE.1 (fun x y hx hy hk => by
      have := ker_iota _ _ _ (by omega) (by omega) hk
      subst this; exact hE.1.refl _) hst x y (by omega) (by omega)
    rw [e1, e2] at this
    exact this hk
theorem LMarks.merge {a : Aut} {s t : Nat} {m : List Int} (ha : autOk a = true) (h : LMarks a s t m) (u v l : Nat) (hu : u < a.n.toNat) (hv : v < a.n.toNat) (hl : l < a.nx.length) (huv : ker m u v) (hs : s < a.n.toNat) (ht : t < a.n.toNat) :
    LMarks a s t (mergeC m (nth m (nxt a l u)) (nth m (nxt a l v))) := by
  have hm := h.marks.1
  have h1 := nxt_lt ha l u hl hu
  have h2 := nxt_lt ha l v hl hv
  refine ⟨h.marks.merge _ _ (h.marks.2 _ (by omega)), mergeC_mono _ _ _ _ _ (by omega) (by omega) h.st, ?_⟩
  intro E hE hst x y hx hy hk
  have hp := h.least E hE hst
  exact mergeC_least m _ _ (by omega) (by omega) E hE.1 (fun x y hx hy => hp x y (by omega) (by omega)) (hE.2 l hl u v hu hv (hp u v hu hv huv)) x y (by omega) (by omega) hk
theorem LMarks.final {a : Aut} {s t : Nat} {m : List Int} (h : LMarks a s t m) (hc : ∀ u, u < a.n.toNat → ∀ v, v < u → ker m u v → ∀ l, l < a.nx.length → ker m (nxt a l u) (nxt a l v)) : Final a s t m := by
  refine ⟨h.marks.1, h.st, ⟨ker_equ m, ?_⟩, h.least⟩
  intro l hl x y hx hy hk
  rcases Nat.lt_trichotomy x y with e | e | e
  · exact ((hc y hy x e hk.symm l hl)).symm
  · subst e; rfl
  · exact hc x hx y e hk l hl
/-- The first k marks merged. -/
def mixC (m : List Int) (p q : Int) (k : Nat) : List Int := (List.range m.length).map fun i => if i < k ∧ nth m i = p then q else nth m i
theorem mixC_len (m : List Int) (p q : Int) (k : Nat) : (mixC m p q k).length = m.length := by simp [mixC]
theorem nth_mixC (m : List Int) (p q : Int) (k i : Nat) (h : i < m.length) : nth (mixC m p q k) i = if i < k ∧ nth m i = p then q else nth m i := by
  rw [nth_eq _ _ (by rw [mixC_len]; exact h)]; simp [mixC]
theorem mixC_zero (m : List Int) (p q : Int) : mixC m p q 0 = m := by
  apply ext_nth _ _ (mixC_len _ _ _ _)
  intro i hi
  rw [mixC_len] at hi
  rw [nth_mixC _ _ _ _ _ hi, if_neg (by omega)]
theorem mixC_all (m : List Int) (p q : Int) : mixC m p q m.length = mergeC m p q := by
  apply ext_nth _ _ (by rw [mixC_len, mergeC_len])
  intro i hi
  rw [mixC_len] at hi
  rw [nth_mixC _ _ _ _ _ hi, nth_mergeC _ _ _ _ hi]
  by_cases e : nth m i = p
  · rw [if_pos ⟨hi, e⟩, if_pos e]
  · rw [if_neg (fun h => e h.2), if_neg e]
theorem mixC_here (m : List Int) (p q : Int) (k : Nat) (h : k < m.length) : nth (mixC m p q k) k = nth m k := by
  rw [nth_mixC _ _ _ _ _ h, if_neg (by omega)]
theorem mixC_hit (m : List Int) (p q : Int) (k : Nat) (h : k < m.length) (e : nth m k = p) : (mixC m p q k).set k q = mixC m p q (k + 1) := by
  apply ext_nth _ _ (by rw [List.length_set, mixC_len, mixC_len])
  intro i hi
  rw [List.length_set, mixC_len] at hi
  rw [nth_set _ _ _ _ (by rw [mixC_len]; exact h), nth_mixC _ _ _ _ _ hi, nth_mixC _ _ _ _ _ hi]
  by_cases e1 : i = k
  · subst e1; rw [if_pos rfl, if_pos ⟨by omega, e⟩]
  · rw [if_neg e1]
    by_cases e2 : i < k ∧ nth m i = p
    · rw [if_pos e2, if_pos ⟨by omega, e2.2⟩]
    · rw [if_neg e2, if_neg (fun h => e2 ⟨by omega, h.2⟩)]
theorem mixC_miss (m : List Int) (p q : Int) (k : Nat) (h : k < m.length) (e : nth m k ≠ p) : mixC m p q (k + 1) = mixC m p q k := by
  apply ext_nth _ _ (by rw [mixC_len, mixC_len])
  intro i hi
  rw [mixC_len] at hi
  rw [nth_mixC _ _ _ _ _ hi, nth_mixC _ _ _ _ _ hi]
  by_cases e1 : i = k
  · subst e1; rw [if_neg (fun h => e h.2), if_neg (fun h => e h.2)]
  · by_cases e2 : i < k ∧ nth m i = p
    · rw [if_pos e2, if_pos ⟨by omega, e2.2⟩]
    · rw [if_neg e2, if_neg (fun h => e2 ⟨by omega, h.2⟩)]

end Go.Proofs.Ytnhjoiafadapaaa
