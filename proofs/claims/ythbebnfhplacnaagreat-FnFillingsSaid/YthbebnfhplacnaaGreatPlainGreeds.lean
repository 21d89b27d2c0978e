/- Parts of the proof that lean on no program: SolidE, PlainImage, PlainGreedy. -/
import Derived.Test.YthbebnfhplacnaaGreatCore
import Derived.Test.YthbebnfhplacnaaGreatMaps
import Derived.Test.YthbebnfhplacnaaGreatArrs
import Derived.Test.YthbebnfhplacnaaGreatPlains
import Derived.Test.YthbebnfhplacnaaGreatJoins
import Derived.Test.YthbebnfhplacnaaGreatPMerg
import Derived.WalkKit
import Derived.WalkSpells
import Derived.WalkLawsBesides
import Derived.Deep.QuietTactic
import Derived.Deep.OwnRows
import Derived.BigQuiet
import Derived.KernelRfl
import Derived.Lib.SlicesCompact
namespace Go.Proofs.YthbebnfhplacnaaGreat
open Go.RowKit

section
/-- A world in which one block is emptied. -/
def hollow (w : World) (b : Nat) : World := { w with heap := w.heap.setIfInBounds b (.cells #[] default) }
theorem hollow_cell (w : World) (b : Nat) (hb : b < w.heap.size) (off : Nat) : (hollow w b).cell? ⟨b, off, none⟩ = none := by
  unfold hollow World.cell?
  simp [hb]
theorem hollow_but (S : Nat → Prop) (w : World) (b : Nat) (hb : S b) : But S w (hollow w b) := by
  refine ⟨rfl, rfl, rfl, ?_, fun k hk hn => ?_⟩
  · unfold hollow; simp
  · unfold hollow
    have : b ≠ k := fun e => hn (e ▸ hb)
    simp [this]
theorem Solid.elem {α : Type} [Inhabited α] {R : World → Value → α → Prop} {S : Nat → Prop} {w : World} {v : Value} {xs : List α} (h : Solid S w (fun w => ListAt R w v xs)) :
    ∃ A c, v = .slice A xs.length c ∧ ∀ i, i < xs.length → ∃ b off rv, A = some ⟨b, off, none⟩ ∧ w.cell? ⟨b, off + i, none⟩ = some rv ∧ ¬ S b ∧ Solid S w (fun w => R w rv (nth xs i)) := by
  obtain ⟨A, c, rfl, hl, hc⟩ := h.now
  refine ⟨A, c, rfl, fun i hi => ?_⟩
  obtain ⟨b, off, rv, rfl, hx, _⟩ := hc i hi
  have hS : ¬ S b := fun hs => by
    obtain ⟨A2, c2, e, _, hc2⟩ := h _ (hollow_but S w b hs)
    cases e
    obtain ⟨b2, off2, rv2, e, hx2, _⟩ := hc2 i hi
    cases e
    rw [hollow_cell w b (World.block_lt_of_cell? _ _ hx)] at hx2
    cases hx2
  refine ⟨b, off, rv, rfl, hx, hS, fun w' hb => ?_⟩
  obtain ⟨A2, c2, e, _, hc2⟩ := h w' hb
  cases e
  obtain ⟨b2, off2, rv2, e, hx2, hr⟩ := hc2 i hi
  cases e
  rw [hb.cell hx hS] at hx2
  cases hx2
  exact hr
end
section
/-- A list that rises. -/
def Rise (xs : List Int) : Prop := xs.Pairwise (fun a b => a < b)
theorem Rise.nil : Rise [] := List.Pairwise.nil
theorem Rise.snoc {xs : List Int} {x : Int} (h : Rise xs) (hx : ∀ y, y ∈ xs → y < x) : Rise (xs ++ [x]) := by
  unfold Rise
  rw [List.pairwise_append]
  refine ⟨h, List.pairwise_singleton _ _, fun a ha b hb => ?_⟩
  rw [List.mem_singleton] at hb
  subst hb; exact hx a ha
theorem Rise.nth {xs : List Int} (h : Rise xs) (i j : Nat) (hij : i < j) (hj : j < xs.length) : nth xs i < nth xs j := by
  rw [nth_eq _ _ (by omega), nth_eq _ _ hj]
  exact List.pairwise_iff_getElem.1 h i j (by omega) hj hij
theorem rise_uniq : ∀ xs ys : List Int, Rise xs → Rise ys → (∀ x, x ∈ xs ↔ x ∈ ys) → xs = ys
  | [], [], _, _, _ => rfl
  | [], y :: ys, _, _, h => by have := (h y).2 (by simp); simp at this
  | x :: xs, [], _, _, h => by have := (h x).1 (by simp); simp at this
  | x :: xs, y :: ys, hx, hy, h => by
    unfold Rise at hx hy
    rw [List.pairwise_cons] at hx hy
    have exy : x = y := by
      have h1 := (h x).1 (by simp)
      have h2 := (h y).2 (by simp)
      rw [List.mem_cons] at h1 h2
      rcases h1 with h1 | h1
      · exact h1
      · rcases h2 with h2 | h2
        · exact h2.symm
        · have := hx.1 y h2
          have := hy.1 x h1
          omega
    subst exy
    congr 1
    refine rise_uniq xs ys hx.2 hy.2 (fun z => ?_)
    have hz := h z
    rw [List.mem_cons, List.mem_cons] at hz
    constructor
    · intro q
      have q1 := hx.1 z q
      rcases hz.1 (Or.inr q) with e | e
      · omega
      · exact e
    · intro q
      have q1 := hy.1 z q
      rcases hz.2 (Or.inr q) with e | e
      · omega
      · exact e
theorem pTo_rise {n : Int} {xs : List Int} (h : Rise xs) : ∀ k, k ≤ xs.length →
    ((pTo n xs k).2 = false → (pTo n xs k).1 = xs.take k ∧ ∀ i, i < k → nth xs i < n) ∧
    ((pTo n xs k).2 = true → Rise (pTo n xs k).1 ∧ (∀ x, x ∈ (pTo n xs k).1 ↔ x ∈ xs.take k ∨ x = n) ∧ ∃ j, j < k ∧ n ≤ nth xs j)
  | 0, _ => by
    refine ⟨fun _ => ⟨by simp [pTo_zero], fun i hi => by omega⟩, fun q => by simp [pTo_zero] at q⟩
  | k + 1, hk => by
    obtain ⟨i1, i2⟩ := pTo_rise (n := n) h k (by omega)
    have hlt : ∀ x, x ∈ xs.take k → x < nth xs k := fun x hx => by
      obtain ⟨j, hj, rfl⟩ := mem_nth _ _ hx
      rw [List.length_take] at hj
      have e : nth (xs.take k) j = nth xs j := by
        rw [nth_eq _ _ (by rw [List.length_take]; omega), nth_eq _ _ (by omega), List.getElem_take]
      rw [e]
      exact h.nth j k (by omega) (by omega)
    rw [pTo_succ n xs k (by omega), take_succ_nth xs k (by omega)]
    cases hb : (pTo n xs k).2 with
    | false =>
      obtain ⟨e1, e2⟩ := i1 hb
      unfold pStep
      rw [hb]
      by_cases hq : n ≤ nth xs k
      · rw [if_pos (by simp [hq])]
        refine ⟨fun q => by simp at q, fun _ => ?_⟩
        have hall : ∀ x, x ∈ xs.take k → x < n := fun x hx => by
          obtain ⟨j, hj, rfl⟩ := mem_nth _ _ hx
          rw [List.length_take] at hj
          have e : nth (xs.take k) j = nth xs j := by
            rw [nth_eq _ _ (by rw [List.length_take]; omega), nth_eq _ _ (by omega), List.getElem_take]
          rw [e]; exact e2 j (by omega)
        have hr : Rise (xs.take k) := List.Pairwise.sublist (List.take_sublist _ _) h
        rw [e1]
        by_cases hlt2 : n < nth xs k
        · rw [if_pos hlt2]
          refine ⟨(hr.snoc hall).snoc (fun y hy => ?_), fun x => ?_, k, by omega, hq⟩
          · rw [List.mem_append, List.mem_singleton] at hy
            rcases hy with hy | hy
            · exact hlt y hy
            · omega
          · simp only [List.mem_append, List.mem_singleton]
            constructor
            · rintro ((q | q) | q)
              · exact Or.inl (Or.inl q)
              · exact Or.inr q
              · exact Or.inl (Or.inr q)
            · rintro ((q | q) | q)
              · exact Or.inl (Or.inl q)
              · exact Or.inr q
              · exact Or.inl (Or.inr q)
        · have hen : nth xs k = n := by omega
          rw [if_neg hlt2]
          refine ⟨hr.snoc hlt, fun x => ?_, k, by omega, hq⟩
          simp only [List.mem_append, List.mem_singleton, hen]
          constructor
          · rintro (q | q)
            · exact Or.inl (Or.inl q)
            · exact Or.inr q
          · rintro ((q | q) | q)
            · exact Or.inl q
            · exact Or.inr q
            · exact Or.inr q
      · rw [if_neg (by simp [hq])]
        refine ⟨fun _ => ⟨by rw [e1], fun i hi => ?_⟩, fun q => by simp at q⟩
        rcases Nat.lt_succ_iff_lt_or_eq.1 hi with z | z
        · exact e2 i z
        · subst z; omega
    | true =>
      obtain ⟨r1, r2, j, r3, r4⟩ := i2 hb
      unfold pStep
      rw [hb, if_neg (by simp)]
      refine ⟨fun q => by simp at q, fun _ => ⟨r1.snoc (fun y hy => ?_), fun x => ?_, j, by omega, r4⟩⟩
      · rcases (r2 y).1 hy with z | z
        · exact hlt y z
        · have := h.nth j k r3 (by omega); omega
      · simp only [List.mem_append, List.mem_singleton, r2]
        constructor
        · rintro ((q | q) | q)
          · exact Or.inl (Or.inl q)
          · exact Or.inr q
          · exact Or.inl (Or.inr q)
        · rintro ((q | q) | q)
          · exact Or.inl (Or.inl q)
          · exact Or.inr q
          · exact Or.inl (Or.inr q)
theorem putI_rise {n : Int} {xs : List Int} (h : Rise xs) : Rise (putI xs n) ∧ ∀ x, x ∈ putI xs n ↔ x ∈ xs ∨ x = n := by
  obtain ⟨i1, i2⟩ := pTo_rise (n := n) h xs.length (Nat.le_refl _)
  unfold putI
  cases hb : (pTo n xs xs.length).2 with
  | true =>
    obtain ⟨r1, r2, _⟩ := i2 hb
    rw [if_pos rfl]
    rw [List.take_length] at r2
    exact ⟨r1, r2⟩
  | false =>
    obtain ⟨e1, e2⟩ := i1 hb
    rw [if_neg (by simp), e1, List.take_length]
    refine ⟨h.snoc (fun y hy => ?_), fun x => by simp⟩
    obtain ⟨j, hj, rfl⟩ := mem_nth _ _ hy
    exact e2 j hj
/-- The set of the elements of a list. -/
def imgL (xs : List Int) : List Int := xs.foldl putI []
theorem imgL_snoc (xs : List Int) (x : Int) : imgL (xs ++ [x]) = putI (imgL xs) x := by simp [imgL]
theorem imgL_spec (xs : List Int) : Rise (imgL xs) ∧ ∀ x, x ∈ imgL xs ↔ x ∈ xs := by
  have key : ∀ (zs out : List Int), Rise out → Rise (zs.foldl putI out) ∧ ∀ x, x ∈ zs.foldl putI out ↔ x ∈ out ∨ x ∈ zs := by
    intro zs
    induction zs with
    | nil => intro out h; exact ⟨h, fun x => by simp⟩
    | cons z zs ih =>
      intro out h
      obtain ⟨p1, p2⟩ := putI_rise (n := z) h
      obtain ⟨q1, q2⟩ := ih _ p1
      refine ⟨q1, fun x => ?_⟩
      rw [List.foldl_cons, q2, p2, List.mem_cons]
      constructor
      · rintro ((c | c) | c)
        · exact Or.inl c
        · exact Or.inr (Or.inl c)
        · exact Or.inr (Or.inr c)
      · rintro (c | c | c)
        · exact Or.inl (Or.inl c)
        · exact Or.inl (Or.inr c)
        · exact Or.inr c
  obtain ⟨h1, h2⟩ := key xs [] Rise.nil
  exact ⟨h1, fun x => by rw [show imgL xs = xs.foldl putI [] from rfl, h2]; simp⟩
/-- What Compact leaves of a list in order. -/
theorem compact_spec (ys : List Int) (h : ∀ i j, i < j → j < ys.length → nth ys i ≤ nth ys j) : Rise (Go.Lib.compactUpTo ys.toArray ys.toArray.size) ∧ ∀ x, x ∈ Go.Lib.compactUpTo ys.toArray ys.toArray.size ↔ x ∈ ys := by
  have hg : ∀ j, j < ys.length → ys.toArray[j]! = nth ys j := fun j hj => by rw [nth_eq _ _ hj]; simp [hj]
  have key : ∀ m, m ≤ ys.length → Rise (Go.Lib.compactUpTo ys.toArray m) ∧ (∀ x, x ∈ Go.Lib.compactUpTo ys.toArray m ↔ x ∈ ys.take m) := by
    intro m
    induction m with
    | zero => intro _; exact ⟨by simp [Go.Lib.compactUpTo]; exact Rise.nil, fun x => by simp [Go.Lib.compactUpTo]⟩
    | succ m ih =>
      intro hm
      obtain ⟨r1, r2⟩ := ih (by omega)
      have hmem : ∀ x, x ∈ ys.take m → ∃ j, j < m ∧ x = nth ys j := fun x hx => by
        obtain ⟨j, hj, e⟩ := mem_nth _ _ hx
        rw [List.length_take] at hj
        refine ⟨j, by omega, ?_⟩
        rw [← e, nth_eq _ _ (by rw [List.length_take]; omega), nth_eq _ _ (by omega), List.getElem_take]
      rw [Go.Lib.compactUpTo_succ, take_succ_nth ys m (by omega), hg m (by omega)]
      cases hk : Go.Lib.keeps ys.toArray m with
      | true =>
        rw [if_pos rfl]
        refine ⟨r1.snoc (fun y hy => ?_), fun x => by rw [List.mem_append, List.mem_append, r2]⟩
        obtain ⟨j, hj, rfl⟩ := hmem y ((r2 y).1 hy)
        unfold Go.Lib.keeps at hk
        rw [decide_eq_true_eq] at hk
        rcases hk with hk | hk
        · omega
        · rw [hg m (by omega), hg (m - 1) (by omega)] at hk
          have h1 := h (m - 1) m (by omega) (by omega)
          rcases Nat.lt_or_ge j (m - 1) with q | q
          · have := h j (m - 1) q (by omega); omega
          · have : j = m - 1 := by omega
            subst this; omega
      | false =>
        rw [if_neg (by simp)]
        rw [List.append_nil]
        refine ⟨r1, fun x => ?_⟩
        rw [r2, List.mem_append, List.mem_singleton]
        constructor
        · exact Or.inl
        · rintro (q | q)
          · exact q
          · unfold Go.Lib.keeps at hk
            rw [decide_eq_false_iff_not] at hk
            have hm0 : m ≠ 0 := fun e => hk (Or.inl e)
            have he : ys.toArray[m]! = ys.toArray[m - 1]! := Classical.byContradiction fun e => hk (Or.inr e)
            rw [hg m (by omega), hg (m - 1) (by omega)] at he
            rw [q, he]
            have : nth (ys.take m) (m - 1) = nth ys (m - 1) := by
              rw [nth_eq _ _ (by rw [List.length_take]; omega), nth_eq _ _ (by omega), List.getElem_take]
            rw [← this]
            exact nth_mem _ _ (by rw [List.length_take]; omega)
  have := key ys.length (Nat.le_refl _)
  rw [List.take_length] at this
  simpa using this
/-- The image of a set under a word. -/
def imgOf (nx : List (List Int)) (xs ws : List Int) : List Int := imgL (xs.map fun s => runOf nx s ws)
theorem pTo_lenB (n : Int) (xs : List Int) : ∀ k, k ≤ xs.length → (pTo n xs k).1.length ≤ k + 1 ∧ ((pTo n xs k).2 = false → (pTo n xs k).1.length = k)
  | 0, _ => by simp [pTo_zero]
  | k + 1, hk => by
    obtain ⟨i1, i2⟩ := pTo_lenB n xs k (by omega)
    rw [pTo_succ n xs k (by omega)]
    unfold pStep
    cases hb : (pTo n xs k).2 with
    | false =>
      have i3 := i2 hb
      split
      · constructor
        · split <;> simp <;> omega
        · intro q; simp at q
      · exact ⟨by simp; omega, fun _ => by simp; omega⟩
    | true =>
      rw [if_neg (by simp)]
      exact ⟨by simp; omega, fun q => by simp at q⟩
theorem putI_len_le (xs : List Int) (n : Int) : (putI xs n).length ≤ xs.length + 1 := by
  obtain ⟨i1, i2⟩ := pTo_lenB n xs xs.length (Nat.le_refl _)
  unfold putI
  cases hb : (pTo n xs xs.length).2 with
  | true => rw [if_pos rfl]; exact i1
  | false => rw [if_neg (by simp), List.length_append]; have := i2 hb; simp; omega
theorem imgL_len (xs : List Int) : (imgL xs).length ≤ xs.length := by
  have key : ∀ (zs out : List Int), (zs.foldl putI out).length ≤ out.length + zs.length := by
    intro zs
    induction zs with
    | nil => intro out; simp
    | cons z zs ih =>
      intro out
      have h1 := ih (putI out z)
      have h2 := putI_len_le out z
      rw [List.foldl_cons, List.length_cons]
      omega
  simpa [imgL] using key xs []
end
section
/-- The better of a nearest pair and another. -/
def nStep (nx : List (List Int)) (xs : List Int) (i k : Nat) (s : Int × Int × Int) : Int × Int × Int :=
  if 0 ≤ mwLen (mw nx (nth xs i).toNat (nth xs k).toNat) ∧ (s.2.2 < 0 ∨ mwLen (mw nx (nth xs i).toNat (nth xs k).toNat) < s.2.2)
  then (nth xs i, nth xs k, mwLen (mw nx (nth xs i).toNat (nth xs k).toNat)) else s
def nRow (nx : List (List Int)) (xs : List Int) (i : Nat) (s : Int × Int × Int) : Nat → Int × Int × Int
  | 0 => s
  | d + 1 => nStep nx xs i (i + 1 + d) (nRow nx xs i s d)
def nAll (nx : List (List Int)) (xs : List Int) : Nat → Int × Int × Int
  | 0 => (0, 0, -1)
  | i + 1 => nRow nx xs i (nAll nx xs i) (xs.length - (i + 1))
/-- The reference's greedy word. -/
def greedy (nx : List (List Int)) : Nat → List Int → List Int → List Int × Bool
  | 0, out, _ => (out, true)
  | f + 1, out, xs =>
    if xs.length ≤ 1 then (out, true)
    else if (nAll nx xs xs.length).2.2 < 0 then ([], false)
    else greedy nx f (out ++ (mw nx (nAll nx xs xs.length).1.toNat (nAll nx xs xs.length).2.1.toNat).1) (imgOf nx xs (mw nx (nAll nx xs xs.length).1.toNat (nAll nx xs xs.length).2.1.toNat).1)
/-- The shorter of a word, if there is one, and another. -/
def gaStep (b x : List Int × Bool) : List Int × Bool := if b.2 = false ∨ x.1.length < b.1.length then x else b
def gaRow (nx : List (List Int)) (xs : List Int) (i : Nat) (b : List Int × Bool) : Nat → List Int × Bool
  | 0 => b
  | d + 1 => gaStep (gaRow nx xs i b d) (mw nx (nth xs i).toNat (nth xs (i + 1 + d)).toNat)
def gaAll (nx : List (List Int)) (xs : List Int) : Nat → List Int × Bool
  | 0 => ([], false)
  | i + 1 => gaRow nx xs i (gaAll nx xs i) (xs.length - (i + 1))
/-- All pairs of some merge. -/
def Good (nx : List (List Int)) (xs : List Int) : Prop := ∀ i k, i < k → k < xs.length → (mw nx (nth xs i).toNat (nth xs k).toNat).2 = true
def goodB (nx : List (List Int)) (xs : List Int) : Bool := (List.range xs.length).all fun k => (List.range k).all fun i => (mw nx (nth xs i).toNat (nth xs k).toNat).2
theorem goodB_iff (nx : List (List Int)) (xs : List Int) : goodB nx xs = true ↔ Good nx xs := by
  unfold goodB Good
  simp only [List.all_eq_true, List.mem_range]
  exact ⟨fun h i k hik hk => h k hk i hik, fun h k hk i hik => h i k hik hk⟩
/-- The program's greedy word. -/
def greedyI (nx : List (List Int)) : Nat → List Int → List Int → List Int × Bool
  | 0, out, _ => (out, true)
  | f + 1, out, xs =>
    if xs.length ≤ 1 then (out, true)
    else if goodB nx xs = false then ([], false)
    else greedyI nx f (out ++ (gaAll nx xs xs.length).1) (imgOf nx xs (gaAll nx xs xs.length).1)
def GreedyReset (a : Aut) : List Int × Int := if autOk a = true then told (greedy a.nx a.n.toNat [] (iota 0 a.n.toNat)) else ([], 1)
theorem greedy_end {nx : List (List Int)} {f : Nat} {out xs : List Int} (h : xs.length ≤ 1) : greedy nx f out xs = (out, true) := by
  cases f with
  | zero => rfl
  | succ f => unfold greedy; rw [if_pos h]
theorem greedyI_end {nx : List (List Int)} {f : Nat} {out xs : List Int} (h : xs.length ≤ 1) : greedyI nx f out xs = (out, true) := by
  cases f with
  | zero => rfl
  | succ f => unfold greedyI; rw [if_pos h]
theorem greedy_step {nx : List (List Int)} {f : Nat} {out xs : List Int} {s : Int × Int × Int} (hs : s = nAll nx xs xs.length) (h : ¬ xs.length ≤ 1) :
    greedy nx (f + 1) out xs = if s.2.2 < 0 then ([], false) else greedy nx f (out ++ (mw nx s.1.toNat s.2.1.toNat).1) (imgOf nx xs (mw nx s.1.toNat s.2.1.toNat).1) := by
  subst hs
  rw [greedy, if_neg h]
theorem greedyI_step {nx : List (List Int)} {f : Nat} {out xs : List Int} {b : List Int × Bool} (hb : b = gaAll nx xs xs.length) (h : ¬ xs.length ≤ 1) :
    greedyI nx (f + 1) out xs = if goodB nx xs = false then ([], false) else greedyI nx f (out ++ b.1) (imgOf nx xs b.1) := by
  subst hb
  rw [greedyI, if_neg h]
/-- What a nearest pair is. -/
def NOk (nx : List (List Int)) (xs : List Int) (s : Int × Int × Int) : Prop :=
  s.2.2 < 0 ∨ ∃ i k, i < k ∧ k < xs.length ∧ s.1 = nth xs i ∧ s.2.1 = nth xs k ∧ s.2.2 = mwLen (mw nx (nth xs i).toNat (nth xs k).toNat)
theorem NOk.mk {nx : List (List Int)} {xs : List Int} {i k : Nat} {p q x : Int} (hik : i < k) (hk : k < xs.length) (h1 : p = nth xs i) (h2 : q = nth xs k) (h3 : x = mwLen (mw nx (nth xs i).toNat (nth xs k).toNat)) : NOk nx xs (p, q, x) := Or.inr ⟨i, k, hik, hk, h1, h2, h3⟩
theorem nStep_ok {nx : List (List Int)} {xs : List Int} {i k : Nat} {s : Int × Int × Int} (h : NOk nx xs s) (hik : i < k) (hk : k < xs.length) : NOk nx xs (nStep nx xs i k s) := by
  unfold nStep
  split
  · exact NOk.mk hik hk rfl rfl rfl
  · exact h
theorem nRow_ok {nx : List (List Int)} {xs : List Int} {i : Nat} {s : Int × Int × Int} (h : NOk nx xs s) : ∀ d, i + d < xs.length → NOk nx xs (nRow nx xs i s d)
  | 0, _ => h
  | d + 1, hd => nStep_ok (nRow_ok h d (by omega)) (by omega) (by omega)
theorem nAll_ok {nx : List (List Int)} {xs : List Int} : ∀ i, i ≤ xs.length → NOk nx xs (nAll nx xs i)
  | 0, _ => Or.inl (show (-1 : Int) < 0 by decide)
  | i + 1, hi => nRow_ok (nAll_ok i (by omega)) _ (by omega)
/-- Where all pairs merge the two choose alike. -/
def Alike (nx : List (List Int)) (s : Int × Int × Int) (b : List Int × Bool) : Prop :=
  (s.2.2 < 0 ∧ b.2 = false) ∨ (0 ≤ s.2.2 ∧ b.2 = true ∧ b = mw nx s.1.toNat s.2.1.toNat ∧ s.2.2 = (b.1.length : Int))
theorem nStep_alike {nx : List (List Int)} {xs : List Int} {i k : Nat} {s : Int × Int × Int} {b : List Int × Bool} (h : Alike nx s b) (hm : (mw nx (nth xs i).toNat (nth xs k).toNat).2 = true) :
    Alike nx (nStep nx xs i k s) (gaStep b (mw nx (nth xs i).toNat (nth xs k).toNat)) := by
  have hl : mwLen (mw nx (nth xs i).toNat (nth xs k).toNat) = ((mw nx (nth xs i).toNat (nth xs k).toNat).1.length : Int) := by unfold mwLen; rw [if_pos hm]
  unfold nStep gaStep
  rw [hl]
  rcases h with ⟨h1, h2⟩ | ⟨h1, h2, h3, h4⟩
  · rw [if_pos ⟨by omega, Or.inl h1⟩, if_pos (Or.inl h2)]
    exact Or.inr ⟨by simp, hm, rfl, rfl⟩
  · by_cases q : (mw nx (nth xs i).toNat (nth xs k).toNat).1.length < b.1.length
    · rw [if_pos ⟨by omega, Or.inr (by omega)⟩, if_pos (Or.inr q)]
      exact Or.inr ⟨by simp, hm, rfl, rfl⟩
    · rw [if_neg (by omega), if_neg (by simp [h2]; omega)]
      exact Or.inr ⟨h1, h2, h3, h4⟩
theorem nRow_alike {nx : List (List Int)} {xs : List Int} {i : Nat} {s : Int × Int × Int} {b : List Int × Bool} (hg : Good nx xs) (h : Alike nx s b) : ∀ d, i + d < xs.length → Alike nx (nRow nx xs i s d) (gaRow nx xs i b d)
  | 0, _ => h
  | d + 1, hd => nStep_alike (nRow_alike hg h d (by omega)) (hg i (i + 1 + d) (by omega) (by omega))
theorem nAll_alike {nx : List (List Int)} {xs : List Int} (hg : Good nx xs) : ∀ i, i ≤ xs.length → Alike nx (nAll nx xs i) (gaAll nx xs i)
  | 0, _ => Or.inl ⟨show (-1 : Int) < 0 by decide, rfl⟩
  | i + 1, hi => nRow_alike hg (nAll_alike hg i (by omega)) _ (by omega)
theorem gaStep_true {b x : List Int × Bool} (_h : b.2 = true ∨ x.2 = true) (hx : x.2 = true) : (gaStep b x).2 = true := by
  unfold gaStep
  split
  · exact hx
  · rename_i q
    cases hb : b.2 with
    | true => rfl
    | false => exact absurd (Or.inl hb) q
theorem gaRow_true {nx : List (List Int)} {xs : List Int} {i : Nat} {b : List Int × Bool} (hg : Good nx xs) : ∀ d, i + d < xs.length → (b.2 = true ∨ 0 < d) → (gaRow nx xs i b d).2 = true
  | 0, _, h => h.elim id (fun q => by omega)
  | d + 1, hd, _ => gaStep_true (Or.inr (hg i (i + 1 + d) (by omega) (by omega))) (hg i (i + 1 + d) (by omega) (by omega))
theorem gaAll_true {nx : List (List Int)} {xs : List Int} (hg : Good nx xs) (h2 : 2 ≤ xs.length) : ∀ i, 1 ≤ i → i ≤ xs.length → (gaAll nx xs i).2 = true
  | 0, h, _ => by omega
  | i + 1, _, hi => by
    refine gaRow_true hg _ (by omega) ?_
    by_cases h0 : i = 0
    · subst h0; exact Or.inr (by omega)
    · exact Or.inl (gaAll_true hg h2 i (by omega) (by omega))

theorem nth_inj {xs : List Int} (h : Rise xs) {i k : Nat} (hik : i < k) (hk : k < xs.length) : nth xs i ≠ nth xs k := by
  have := h.nth i k hik hk; omega
theorem img_shrinks (nx : List (List Int)) (xs ws : List Int) (i k : Nat) (hik : i < k) (hk : k < xs.length) (he : runOf nx (nth xs i) ws = runOf nx (nth xs k) ws) : (imgOf nx xs ws).length < xs.length := by
  obtain ⟨ys, hy⟩ : ∃ ys, ys = xs.map fun s => runOf nx s ws := ⟨_, rfl⟩
  have hl : ys.length = xs.length := by rw [hy, List.length_map]
  have e1 : nth ys i = nth ys k := by rw [hy, nth_map _ _ _ (by omega), nth_map _ _ _ hk]; exact he
  have e2 : imgL ys = imgL (ys.take k ++ ys.drop (k + 1)) := by
    obtain ⟨r1, r2⟩ := imgL_spec ys
    obtain ⟨s1, s2⟩ := imgL_spec (ys.take k ++ ys.drop (k + 1))
    refine rise_uniq _ _ r1 s1 (fun x => ?_)
    rw [r2, s2]
    have hsplit : ys = ys.take k ++ nth ys k :: ys.drop (k + 1) := by
      rw [nth_eq _ _ (by omega), ← List.drop_eq_getElem_cons (by omega), List.take_append_drop]
    have him : nth ys k ∈ ys.take k := by
      rw [← e1]
      have : nth (ys.take k) i = nth ys i := by
        rw [nth_eq _ _ (by rw [List.length_take]; omega), nth_eq _ _ (by omega), List.getElem_take]
      rw [← this]
      exact nth_mem _ _ (by rw [List.length_take]; omega)
    constructor
    · intro hx
      rw [hsplit, List.mem_append, List.mem_cons] at hx
      rw [List.mem_append]
      rcases hx with hx | hx | hx
      · exact Or.inl hx
      · rw [hx]; exact Or.inl him
      · exact Or.inr hx
    · intro hx
      rw [List.mem_append] at hx
      rcases hx with hx | hx
      · exact List.mem_of_mem_take hx
      · exact List.mem_of_mem_drop hx
  unfold imgOf
  rw [← hy, e2]
  have := imgL_len (ys.take k ++ ys.drop (k + 1))
  rw [List.length_append, List.length_take, List.length_drop] at this
  omega
/-- The sets of states that the greedy word goes through. -/
def SetIn (a : Aut) (xs : List Int) : Prop := Rise xs ∧ ∀ s, s ∈ xs → 0 ≤ s ∧ s < a.n
theorem SetIn.inn {a : Aut} {xs : List Int} (h : SetIn a xs) (i : Nat) (hi : i < xs.length) : 0 ≤ nth xs i ∧ nth xs i < a.n := h.2 _ (nth_mem _ _ hi)
theorem SetIn.img {a : Aut} (ha : autOk a = true) {xs ws : List Int} (h : SetIn a xs) (hw : letters a ws) : SetIn a (imgOf a.nx xs ws) := by
  obtain ⟨r1, r2⟩ := imgL_spec (xs.map fun s => runOf a.nx s ws)
  refine ⟨r1, fun s hs => ?_⟩
  obtain ⟨x, hx, rfl⟩ := List.mem_map.1 ((r2 s).1 hs)
  exact runOf_lt ha x (h.2 x hx) ws hw
theorem SetIn.meets {a : Aut} (ha : autOk a = true) {xs : List Int} (h : SetIn a xs) {i k : Nat} (hik : i < k) (hk : k < xs.length) : (mw a.nx (nth xs i).toNat (nth xs k).toNat).2 = true ↔ Meets a (nth xs i) (nth xs k) := by
  have h1 := h.inn i (by omega)
  have h2 := h.inn k hk
  rw [mw_iff ha _ _ (by omega) (by omega), Int.toNat_of_nonneg h1.1, Int.toNat_of_nonneg h2.1]
theorem SetIn.merges {a : Aut} (ha : autOk a = true) {xs : List Int} (h : SetIn a xs) {i k : Nat} (hik : i < k) (hk : k < xs.length) (hm : (mw a.nx (nth xs i).toNat (nth xs k).toNat).2 = true) :
    letters a (mw a.nx (nth xs i).toNat (nth xs k).toNat).1 ∧ runOf a.nx (nth xs i) (mw a.nx (nth xs i).toNat (nth xs k).toNat).1 = runOf a.nx (nth xs k) (mw a.nx (nth xs i).toNat (nth xs k).toNat).1 := by
  have h1 := h.inn i (by omega)
  have h2 := h.inn k hk
  have := mw_merges ha _ _ (by omega) (by omega) hm
  rw [Int.toNat_of_nonneg h1.1, Int.toNat_of_nonneg h2.1] at this
  exact this
/-- A pair that nothing merges stays one. -/
theorem bad_img {a : Aut} (ha : autOk a = true) {xs ws : List Int} (h : SetIn a xs) (hw : letters a ws) (hb : ¬ Good a.nx xs) : ¬ Good a.nx (imgOf a.nx xs ws) := by
  intro hg
  apply hb
  intro i k hik hk
  have h' := h.img ha hw
  rw [h.meets ha hik hk]
  have m1 : runOf a.nx (nth xs i) ws ∈ imgOf a.nx xs ws := (imgL_spec _).2 _ |>.2 (List.mem_map.2 ⟨_, nth_mem _ _ (by omega), rfl⟩)
  have m2 : runOf a.nx (nth xs k) ws ∈ imgOf a.nx xs ws := (imgL_spec _).2 _ |>.2 (List.mem_map.2 ⟨_, nth_mem _ _ hk, rfl⟩)
  have lift : ∀ vs, letters a vs → runOf a.nx (runOf a.nx (nth xs i) ws) vs = runOf a.nx (runOf a.nx (nth xs k) ws) vs → Meets a (nth xs i) (nth xs k) :=
    fun vs hv e => ⟨ws ++ vs, letters_append hw hv, by rw [runOf_append, runOf_append]; exact e⟩
  obtain ⟨x, hx, ex⟩ := mem_nth _ _ m1
  obtain ⟨y, hy, ey⟩ := mem_nth _ _ m2
  rcases Nat.lt_trichotomy x y with q | q | q
  · obtain ⟨vs, hv, e⟩ := (h'.meets ha q hy).1 (hg x y q hy)
    rw [ex, ey] at e
    exact lift vs hv e
  · subst q
    exact lift [] (letters_nil a) (by rw [← ex, ← ey])
  · obtain ⟨vs, hv, e⟩ := (h'.meets ha q hx).1 (hg y x q hx)
    rw [ex, ey] at e
    exact lift vs hv e.symm
theorem greedy_bad {a : Aut} (ha : autOk a = true) : ∀ (f : Nat) (out xs : List Int), xs.length ≤ f → SetIn a xs → ¬ Good a.nx xs → greedy a.nx f out xs = ([], false)
  | 0, out, xs, hf, _, hb => absurd (fun i k _ hk => by omega) hb
  | f + 1, out, xs, hf, hs, hb => by
    have hN := nAll_ok (nx := a.nx) (xs := xs) xs.length (Nat.le_refl _)
    obtain ⟨S, hS⟩ : ∃ S, S = nAll a.nx xs xs.length := ⟨_, rfl⟩
    rw [greedy_step hS (fun q => hb (fun i k hik hk => by omega))]
    rw [← hS] at hN
    clear hS
    split
    · rfl
    · rename_i hq
      rcases hN with q | ⟨i, k, hik, hk, e1, e2, e3⟩
      · exact absurd q hq
      · rw [e1, e2]
        have hm : (mw a.nx (nth xs i).toNat (nth xs k).toNat).2 = true := by
          cases hc : (mw a.nx (nth xs i).toNat (nth xs k).toNat).2 with
          | true => rfl
          | false => rw [e3] at hq; unfold mwLen at hq; rw [if_neg (by rw [hc]; simp)] at hq; omega
        obtain ⟨m1, m2⟩ := hs.merges ha hik hk hm
        have hsh := img_shrinks a.nx xs _ i k hik hk m2
        exact greedy_bad ha f _ _ (by omega) (hs.img ha m1) (bad_img ha hs m1 hb)
theorem greedy_same {a : Aut} (ha : autOk a = true) : ∀ (f : Nat) (out xs : List Int), xs.length ≤ f → SetIn a xs → greedyI a.nx f out xs = greedy a.nx f out xs
  | 0, _, _, _, _ => rfl
  | f + 1, out, xs, hf, hs => by
    by_cases hl : xs.length ≤ 1
    · rw [greedy_end hl, greedyI_end hl]
    by_cases hb : Good a.nx xs
    · have hal := nAll_alike hb xs.length (Nat.le_refl _)
      have hgt := gaAll_true hb (by omega) xs.length (by omega) (Nat.le_refl _)
      have hok := nAll_ok (nx := a.nx) (xs := xs) xs.length (Nat.le_refl _)
      have hgb := (goodB_iff _ _).2 hb
      obtain ⟨S, hS⟩ : ∃ S, S = nAll a.nx xs xs.length := ⟨_, rfl⟩
      obtain ⟨B, hB⟩ : ∃ B, B = gaAll a.nx xs xs.length := ⟨_, rfl⟩
      rw [greedy_step hS hl, greedyI_step hB hl]
      rw [← hS] at hal hok
      rw [← hB] at hal hgt
      clear hS hB
      rcases hal with ⟨_, q⟩ | ⟨h1, _, h3, _⟩
      · rw [hgt] at q; cases q
      · rcases hok with q | ⟨i, k, hik, hk, e1, e2, e3⟩
        · exact absurd q (Int.not_lt.2 h1)
        · have hm := hb i k hik hk
          obtain ⟨m1, m2⟩ := hs.merges ha hik hk hm
          have hsh := img_shrinks a.nx xs _ i k hik hk m2
          rw [if_neg (by rw [hgb]; simp), if_neg (Int.not_lt.2 h1), h3, e1, e2]
          exact greedy_same ha f _ _ (by omega) (hs.img ha m1)
    · rw [greedy_bad ha (f + 1) out xs hf hs hb]
      have hgb : goodB a.nx xs = false := by
        cases hc : goodB a.nx xs with
        | false => rfl
        | true => exact absurd ((goodB_iff _ _).1 hc) hb
      rw [greedyI_step rfl hl, if_pos hgb]
theorem iota_rise (k : Int) (n : Nat) : Rise (iota k n) := by
  unfold Rise iota
  rw [List.pairwise_map]
  exact List.Pairwise.imp (fun h => by omega) List.pairwise_lt_range
theorem SetIn.all {a : Aut} (ha : autOk a = true) : SetIn a (iota 0 a.n.toNat) := by
  have := autOk_n ha
  exact ⟨iota_rise _ _, fun s hs => by have := (mem_iota 0 _ s).1 hs; omega⟩
theorem SetIn.len {a : Aut} {xs : List Int} (h : SetIn a xs) (hn : a.n ≤ 10) : xs.length ≤ 10 := by
  have key : ∀ i, i < xs.length → (i : Int) ≤ nth xs i := by
    intro i
    induction i with
    | zero => intro hi; exact (h.inn 0 hi).1
    | succ i ih => intro hi; have h1 := ih (by omega); have h2 := h.1.nth i (i + 1) (by omega) hi; omega
  rcases Nat.lt_or_ge 10 xs.length with q | q
  · have h1 := key 10 q
    have h2 := (h.inn 10 q).2
    omega
  · exact q
theorem mw_toNat (nx : List (List Int)) (s t : Int) (hs : 0 ≤ s) (ht : 0 ≤ t) : mw nx s.toNat t.toNat = firstWord smallB (tourOf nx (pairOf s t)) := by
  unfold mw
  rw [Int.toNat_of_nonneg hs, Int.toNat_of_nonneg ht]
end

end Go.Proofs.YthbebnfhplacnaaGreat
