/- Parts of the proof that lean on no program: PlainTidy, PlainPer. -/
import Derived.Test.YthbebnfhplacnaaGreatCore
import Derived.Test.YthbebnfhplacnaaGreatPlains
import Derived.Test.YthbebnfhplacnaaGreatJoins
import Derived.WalkKit
import Derived.WalkSpells
import Derived.WalkLawsBesides
import Derived.Deep.QuietTactic
import Derived.Deep.OwnRows
import Derived.BigQuiet
import Derived.KernelRfl
namespace Go.Proofs.YthbebnfhplacnaaGreat
open Go.RowKit

section
def addNew (acc : List Int) (x : Int) : List Int := if hasB acc x = true then acc else acc ++ [x]
/-- The different numbers of a list, in the order in which they come. -/
def firsts (xs : List Int) : List Int := xs.foldl addNew []
theorem firsts_snoc (xs : List Int) (x : Int) : firsts (xs ++ [x]) = addNew (firsts xs) x := by simp [firsts]
theorem firsts_take (xs : List Int) (k : Nat) (h : k < xs.length) : firsts (xs.take (k + 1)) = addNew (firsts (xs.take k)) (nth xs k) := by
  rw [take_succ_nth xs k h, firsts_snoc]
theorem mem_addNew (acc : List Int) (x y : Int) : y ∈ addNew acc x ↔ y ∈ acc ∨ y = x := by
  unfold addNew
  split
  · rename_i h
    rw [hasB_iff] at h
    constructor
    · exact Or.inl
    · rintro (h1 | rfl)
      · exact h1
      · exact h
  · simp
theorem mem_firsts (xs : List Int) (y : Int) : y ∈ firsts xs ↔ y ∈ xs := by
  have key : ∀ zs : List Int, y ∈ firsts zs.reverse ↔ y ∈ zs.reverse := by
    intro zs
    induction zs with
    | nil => simp [firsts]
    | cons z r ih => rw [List.reverse_cons, firsts_snoc, mem_addNew, ih]; simp
  have := key xs.reverse
  rwa [List.reverse_reverse] at this
theorem hasB_firsts (xs : List Int) (y : Int) : hasB (firsts xs) y = hasB xs y := by
  rw [Bool.eq_iff_iff, hasB_iff, hasB_iff, mem_firsts]
theorem firsts_len (xs : List Int) : (firsts xs).length ≤ xs.length := by
  have key : ∀ zs : List Int, (firsts zs.reverse).length ≤ zs.length := by
    intro zs
    induction zs with
    | nil => simp [firsts]
    | cons z r ih =>
      rw [List.reverse_cons, firsts_snoc]
      unfold addNew
      split
      · simp; omega
      · simp; omega
  have := key xs.reverse
  rw [List.reverse_reverse] at this
  simpa using this
theorem placeOf_mem (xs : List Int) (x : Int) (h : x ∈ xs) : ∃ i, i < xs.length ∧ nth xs i = x ∧ placeOf xs x = i ∧ ∀ j, j < i → nth xs j ≠ x := by
  unfold placeOf
  cases e : xs.findIdx? (fun y => decide (y = x)) with
  | none =>
    rw [List.findIdx?_eq_none_iff] at e
    have := e x h
    simp at this
  | some i =>
    rw [List.findIdx?_eq_some_iff_getElem] at e
    obtain ⟨h1, h2, h3⟩ := e
    refine ⟨i, h1, by rw [nth_eq _ _ h1]; simpa using h2, rfl, fun j hj => ?_⟩
    have := h3 j hj
    rw [nth_eq _ _ (by omega)]; simpa using this
theorem placeOf_not (xs : List Int) (x : Int) (h : x ∉ xs) : placeOf xs x = -1 := by
  unfold placeOf
  have : xs.findIdx? (fun y => decide (y = x)) = none := by
    rw [List.findIdx?_eq_none_iff]
    intro y hy
    simp; rintro rfl; exact h hy
  rw [this]
theorem placeOf_of (xs : List Int) (x : Int) (i : Nat) (hi : i < xs.length) (h : nth xs i = x) (hj : ∀ j, j < i → nth xs j ≠ x) : placeOf xs x = i := by
  obtain ⟨k, k1, k2, k3, k4⟩ := placeOf_mem xs x (by rw [← h]; exact nth_mem _ _ hi)
  rw [k3]
  rcases Nat.lt_trichotomy k i with h1 | h1 | h1
  · exact absurd k2 (hj k h1)
  · rw [h1]
  · exact absurd h (k4 i h1)
theorem placeOf_left (a b : List Int) (x : Int) (h : x ∈ a) : placeOf (a ++ b) x = placeOf a x := by
  obtain ⟨i, h1, h2, h3, h4⟩ := placeOf_mem a x h
  rw [h3]
  exact placeOf_of _ _ i (by simp; omega) (by rw [nth_append_left _ _ _ h1]; exact h2) (fun j hj => by rw [nth_append_left _ _ _ (by omega)]; exact h4 j hj)
theorem placeOf_new (a : List Int) (x : Int) (h : x ∉ a) : placeOf (a ++ [x]) x = a.length :=
  placeOf_of _ _ _ (by simp) (nth_append_here _ _) (fun j hj e => h (by rw [nth_append_left _ _ _ hj] at e; rw [← e]; exact nth_mem _ _ hj))
theorem placeOf_addNew (acc : List Int) (x y : Int) (h : y ∈ acc) : placeOf (addNew acc x) y = placeOf acc y := by
  unfold addNew
  split
  · rfl
  · exact placeOf_left _ _ _ h
theorem placeOf_firsts (xs : List Int) (x : Int) (k : Nat) (hx : x ∈ xs.take k) : ∀ d, k + d ≤ xs.length → placeOf (firsts (xs.take (k + d))) x = placeOf (firsts (xs.take k)) x
  | 0, _ => rfl
  | d + 1, hd => by
    rw [← Nat.add_assoc, firsts_take _ _ (by omega), placeOf_addNew, placeOf_firsts xs x k hx d (by omega)]
    rw [mem_firsts]
    have : (xs.take k) = (xs.take (k + d)).take k := by rw [List.take_take, Nat.min_eq_left (by omega)]
    rw [this] at hx
    exact List.mem_of_mem_take hx
def tidyTo (xs : List Int) (k : Nat) : List Int := (List.range k).map fun i => placeOf (firsts (xs.take (i + 1))) (nth xs i)
/-- The division with the same classes, numbered in order. -/
def tidyOf (xs : List Int) : List Int := tidyTo xs xs.length
theorem tidyTo_succ (xs : List Int) (k : Nat) : tidyTo xs (k + 1) = tidyTo xs k ++ [placeOf (firsts (xs.take (k + 1))) (nth xs k)] := list_range_snoc _ _
theorem tidyTo_len (xs : List Int) (k : Nat) : (tidyTo xs k).length = k := by simp [tidyTo]
theorem nth_tidyTo (xs : List Int) (k i : Nat) (h : i < k) : nth (tidyTo xs k) i = placeOf (firsts (xs.take (i + 1))) (nth xs i) := by
  rw [nth_eq _ _ (by rw [tidyTo_len]; exact h)]; simp [tidyTo]
theorem nth_mem_take (xs : List Int) (i k : Nat) (h : i < k) (hk : k ≤ xs.length) : nth xs i ∈ xs.take k := by
  have : nth (xs.take k) i = nth xs i := by simp [nth, h]
  rw [← this]; exact nth_mem _ _ (by simp; omega)
theorem placeOf_lt (acc : List Int) (x : Int) : -1 ≤ placeOf acc x ∧ placeOf acc x < acc.length ∨ placeOf acc x = -1 := by
  by_cases h : x ∈ acc
  · obtain ⟨i, h1, _, h3, _⟩ := placeOf_mem acc x h
    left; omega
  · right; exact placeOf_not _ _ h
theorem placeOf_le (acc : List Int) (x : Int) : -1 ≤ placeOf acc x ∧ placeOf acc x ≤ acc.length := by
  rcases placeOf_lt acc x with h | h <;> omega
theorem placeOf_nonneg (acc : List Int) (x : Int) (h : x ∈ acc) : 0 ≤ placeOf acc x := by
  obtain ⟨i, _, _, h3, _⟩ := placeOf_mem acc x h; omega
def KernelOf (a : Aut) (ws : List Int) : List Int × Int := if autOk a = true then (if wordOk a ws = true then (tidyOf (actOf a ws), 0) else ([], 2)) else ([], 1)
end
section
def gAll (g : Nat) (ds : List Nat) : Nat := ds.foldl Nat.gcd g
theorem gAll_snoc (g : Nat) (ds : List Nat) (d : Nat) : gAll g (ds ++ [d]) = Nat.gcd (gAll g ds) d := by simp [gAll]
theorem dvd_gAll (m : Nat) : ∀ (ds : List Nat) (g : Nat), m ∣ gAll g ds ↔ m ∣ g ∧ ∀ d, d ∈ ds → m ∣ d
  | [], g => by simp [gAll]
  | d :: ds, g => by
    show m ∣ gAll (Nat.gcd g d) ds ↔ _
    rw [dvd_gAll m ds, Nat.dvd_gcd_iff]
    simp only [List.mem_cons, forall_eq_or_imp]
    constructor
    · rintro ⟨⟨h1, h2⟩, h3⟩; exact ⟨h1, h2, h3⟩
    · rintro ⟨h1, h2, h3⟩; exact ⟨⟨h1, h2⟩, h3⟩
theorem gAll_same {xs ys : List Nat} (h : ∀ d, d ∈ xs ↔ d ∈ ys) (g : Nat) : gAll g xs = gAll g ys := by
  apply Nat.dvd_antisymm
  · rw [dvd_gAll]
    have := (dvd_gAll (gAll g xs) xs g).1 (Nat.dvd_refl _)
    exact ⟨this.1, fun d hd => this.2 d ((h d).2 hd)⟩
  · rw [dvd_gAll]
    have := (dvd_gAll (gAll g ys) ys g).1 (Nat.dvd_refl _)
    exact ⟨this.1, fun d hd => this.2 d ((h d).1 hd)⟩
theorem gAll_le (ds : List Nat) (g M : Nat) (h : g ≤ M) (hd : ∀ d, d ∈ ds → d ≤ M) : gAll g ds ≤ M := by
  induction ds generalizing g with
  | nil => exact h
  | cons d ds ih =>
    show gAll (Nat.gcd g d) ds ≤ M
    refine ih _ ?_ (fun x hx => hd x (by simp [hx]))
    by_cases h0 : g = 0
    · subst h0; rw [Nat.gcd_zero_left]; exact hd d (by simp)
    · exact Nat.le_trans (Nat.le_of_dvd (by omega) (Nat.gcd_dvd_left g d)) h
/-- What f tells of the places before row k, letter l. -/
def upTo (f : Nat → Nat → Nat) (L k l : Nat) : List Nat := (List.range k).flatMap (fun i => (List.range L).map (f i)) ++ (List.range l).map (f k)
theorem upTo_zero (f : Nat → Nat → Nat) (L : Nat) : upTo f L 0 0 = [] := rfl
theorem upTo_step (f : Nat → Nat → Nat) (L k l : Nat) : upTo f L k (l + 1) = upTo f L k l ++ [f k l] := by simp [upTo, List.range_succ]
theorem upTo_row (f : Nat → Nat → Nat) (L k : Nat) : upTo f L (k + 1) 0 = upTo f L k L := by simp [upTo, List.range_succ]
theorem mem_upTo (f : Nat → Nat → Nat) (L k : Nat) (d : Nat) : d ∈ upTo f L k 0 ↔ ∃ i l, i < k ∧ l < L ∧ f i l = d := by
  simp only [upTo, List.range_zero, List.map_nil, List.append_nil, List.mem_flatMap, List.mem_range, List.mem_map]
  constructor
  · rintro ⟨i, hi, l, hl, e⟩; exact ⟨i, l, hi, hl, e⟩
  · rintro ⟨i, l, hi, hl, e⟩; exact ⟨i, hi, l, hl, e⟩
theorem upTo_congr (f g : Nat → Nat → Nat) (L k l : Nat) (h : ∀ i m, i < k → m < L → f i m = g i m) (h2 : ∀ m, m < l → f k m = g k m) : upTo f L k l = upTo g L k l := by
  unfold upTo
  congr 1
  · rw [List.flatMap_def, List.flatMap_def]
    congr 1
    apply List.map_congr_left
    intro i hi
    apply List.map_congr_left
    intro m hm
    exact h i m (by simpa using hi) (by simpa using hm)
  · apply List.map_congr_left
    intro m hm
    exact h2 m (by simpa using hm)
/-- How far a thing is from the start. -/
def farD (t : Bfs Int) (x : Int) : Nat := (nth t.words (placeOf t.list x).toNat).length
theorem placeOf_nth {xs : List Int} (h : xs.Nodup) (i : Nat) (hi : i < xs.length) : placeOf xs (nth xs i) = i := by
  obtain ⟨j, hj, e, e2, _⟩ := placeOf_mem xs (nth xs i) (nth_mem _ _ hi)
  rw [e2, nodup_nth h hj hi e]
theorem farD_nth {t : Bfs Int} (h : t.list.Nodup) (i : Nat) (hi : i < t.list.length) : farD t (nth t.list i) = (nth t.words i).length := by
  unfold farD
  rw [placeOf_nth h i hi]; rfl
theorem farD_pre {t t' : Bfs Int} (h : BPre t t') (hlw : t.words.length = t.list.length) (hn : t'.list.Nodup) (hn0 : t.list.Nodup) (x : Int) (hx : x ∈ t.list) : farD t' x = farD t x := by
  obtain ⟨i, hi, rfl⟩ := mem_nth _ x hx
  have h1 := h.2 i hi
  rw [farD_nth hn0 i hi, ← h1.1, farD_nth hn i (by have := h.1; omega), h1.2 hlw]
theorem farD_old {t : Bfs Int} (hlw : t.words.length = t.list.length) (y : Int) (w : List Int) (x : Int) (hx : x ∈ t.list) : farD ⟨t.list ++ [y], t.words ++ [w]⟩ x = farD t x := by
  unfold farD
  obtain ⟨i, hi, _, e, _⟩ := placeOf_mem _ _ hx
  simp only
  rw [placeOf_left _ _ _ hx, nth_append_left _ _ _ (by rw [hlw, e]; simpa using hi)]
theorem farD_new {t : Bfs Int} (hlw : t.words.length = t.list.length) (y : Int) (w : List Int) (hy : y ∉ t.list) : farD ⟨t.list ++ [y], t.words ++ [w]⟩ y = w.length := by
  unfold farD
  simp only
  rw [placeOf_new _ _ hy, show ((t.list.length : Nat) : Int).toNat = t.words.length by rw [hlw]; simp, nth_append_here]
/-- How far apart the ends of a step are. -/
def gapOf (x y : Nat) : Nat := ((x : Int) + 1 - (y : Int)).natAbs
def stepGap (a : Aut) (t : Bfs Int) (i l : Nat) : Nat := gapOf (farD t (nth t.list i)) (farD t (nth (nth a.nx l) (nth t.list i).toNat))
def periodN (a : Aut) : Nat := gAll 0 (upTo (stepGap a (rcT a 0 11)) a.nx.length (rcL a 0).length 0)
/-- The same, state by state. -/
def stateGap (a : Aut) (s l : Nat) : Nat := gapOf (farD (rcT a 0 11) (s : Int)) (farD (rcT a 0 11) (nth (nth a.nx l) s))
theorem joined_all {a : Aut} (ha : autOk a = true) (hj : joinedB a = true) (x : Int) (hx : rcP a x) : x ∈ rcL a 0 := by
  have hn := autOk_n ha
  have hok := rc_bok ha (s := 0) ⟨by omega, by omega⟩ 11
  unfold joinedB at hj
  rw [List.all_eq_true] at hj
  have h0 := of_decide_eq_true (hj 0 (by unfold iota; rw [List.mem_map]; exact ⟨0, by simp; omega, by simp⟩))
  by_cases hm : x ∈ rcL a 0
  · exact hm
  · exfalso
    have hb := nodup_bound a.n.toNat ((x :: rcL a 0).map Int.toNat) ?_ ?_
    · simp at hb; omega
    · rw [List.nodup_iff_pairwise_ne, List.pairwise_map]
      have hnd : (x :: rcL a 0).Nodup := List.nodup_cons.2 ⟨hm, hok.nodup⟩
      have hp := List.nodup_iff_pairwise_ne.1 hnd
      refine hp.imp_of_mem fun {u v} hu hv huv e => huv ?_
      have g : ∀ z, z ∈ x :: rcL a 0 → rcP a z := fun z hz => by
        rcases List.mem_cons.1 hz with q | q
        · subst q; exact hx
        · exact hok.ok z q
      have g1 := g u hu
      have g2 := g v hv
      unfold rcP at g1 g2
      omega
    · intro y hy
      obtain ⟨z, hz, rfl⟩ := List.mem_map.1 hy
      rcases List.mem_cons.1 hz with q | q
      · subst q; unfold rcP at hx; omega
      · have := hok.ok z q; unfold rcP at this; omega
theorem period_states {a : Aut} (ha : autOk a = true) (hj : joinedB a = true) : gAll 0 (upTo (stateGap a) a.nx.length a.n.toNat 0) = periodN a := by
  unfold periodN
  apply gAll_same
  intro d
  have hn := autOk_n ha
  have hok := rc_bok ha (s := 0) ⟨by omega, by omega⟩ 11
  rw [mem_upTo, mem_upTo]
  constructor
  · rintro ⟨s, l, hs, hl, e⟩
    obtain ⟨i, hi, hx⟩ := mem_nth _ _ (joined_all ha hj (s : Int) ⟨by omega, by omega⟩)
    refine ⟨i, l, hi, hl, ?_⟩
    rw [← e]
    unfold stepGap stateGap
    unfold rcL at hx
    rw [hx]
    rfl
  · rintro ⟨i, l, hi, hl, e⟩
    have h1 := hok.ok (nth (rcT a 0 11).list i) (nth_mem _ _ hi)
    unfold rcP at h1
    refine ⟨(nth (rcT a 0 11).list i).toNat, l, by omega, hl, ?_⟩
    rw [← e]
    unfold stepGap stateGap
    rw [show (((nth (rcT a 0 11).list i).toNat : Nat) : Int) = nth (rcT a 0 11).list i by omega]
theorem rc_far {a : Aut} (ha : autOk a = true) {t : Bfs Int} (h : BOk (rcP a) a.nx.length t) (x : Int) : farD t x ≤ 10 := by
  have hb := rc_bound ha h
  have hn := autOk_n ha
  unfold farD
  by_cases hx : (placeOf t.list x).toNat < t.list.length
  · have := h.wl _ hx; omega
  · have : nth t.words (placeOf t.list x).toNat = [] := by
      unfold nth
      rw [List.getD_eq_getElem?_getD, List.getElem?_eq_none (by rw [h.lw]; omega)]; rfl
    rw [this]; simp
theorem bStep_mem {g : Nat → Int → Option Int} (i l : Nat) (t : Bfs Int) (y : Int) (h : g l (nth t.list i) = some y) : y ∈ (bStep g i l t).list := by
  by_cases hy : y ∈ t.list
  · rw [bStep_has g i l t y h hy]; exact hy
  · rw [bStep_new g i l t y h hy]; simp
/-- In the midst of the search a step's gap is known. -/
theorem stepGap_mid {a : Aut} (ha : autOk a = true) (k l : Nat) (hk : k < (rcT a 0 k).list.length) (hl : l < a.nx.length) (T : Bfs Int) (hT : bRow (rcG a.nx) k (rcT a 0 k) (l + 1) = T) (X Y : Int) (hX : nth T.list k = X) (hY : nth (nth a.nx l) X.toNat = Y) :
    stepGap a (rcT a 0 11) k l = gapOf (farD T X) (farD T Y) := by
  have hn := autOk_n ha
  have hs : rcP a 0 := ⟨by omega, by omega⟩
  have hb := rc_bound ha (rc_bok ha hs k)
  have hok := (rc_bok ha hs k).row (g := rcG a.nx) (fun l x y hl hx hg => rcG_ok ha l x y hl hx hg) k hk (l + 1) (by omega)
  have hpre0 := bRow_pre' (g := rcG a.nx) k (rcT a 0 k) l
  have hpre := bMid_pre (g := rcG a.nx) (L := a.nx.length) 0 k (l + 1) 11 (by omega) (by omega) hk
  have hT' : bRow (rcG a.nx) k (bTo (rcG a.nx) a.nx.length 0 k) (l + 1) = T := hT
  have hst : T = bStep (rcG a.nx) k l (bRow (rcG a.nx) k (rcT a 0 k) l) := by rw [← hT, bRow_succ]
  rw [hT'] at hpre
  replace hpre : BPre T (rcT a 0 11) := hpre
  rw [hT] at hok
  have hkT : k < T.list.length := by rw [hst]; have := (bStep_pre (g := rcG a.nx) k l (bRow (rcG a.nx) k (rcT a 0 k) l)).1; have := hpre0.1; omega
  have hXm : X ∈ T.list := by rw [← hX]; exact nth_mem _ _ hkT
  have hYm : Y ∈ T.list := by
    rw [hst]
    refine bStep_mem k l _ Y ?_
    have e1 : nth (bRow (rcG a.nx) k (rcT a 0 k) l).list k = X := by
      rw [← hX, hst, ((bStep_pre (g := rcG a.nx) k l (bRow (rcG a.nx) k (rcT a 0 k) l)).2 k (by have := hpre0.1; omega)).1]
    rw [e1, ← hY]; rfl
  have e2 : nth (rcT a 0 11).list k = X := by rw [← hX]; exact (hpre.2 k hkT).1
  have hnd := (rc_bok ha hs 11).nodup
  unfold stepGap
  rw [e2, hY, farD_pre hpre hok.lw hnd hok.nodup X hXm, farD_pre hpre hok.lw hnd hok.nodup Y hYm]
theorem gapOf_le (x y : Nat) (hx : x ≤ 10) (hy : y ≤ 10) : gapOf x y ≤ 11 := by unfold gapOf; omega
theorem stepGap_le {a : Aut} (ha : autOk a = true) (i l : Nat) : stepGap a (rcT a 0 11) i l ≤ 11 := by
  have hn := autOk_n ha
  have hs : rcP a 0 := ⟨by omega, by omega⟩
  exact gapOf_le _ _ (rc_far ha (rc_bok ha hs 11) _) (rc_far ha (rc_bok ha hs 11) _)
theorem upTo_le (f : Nat → Nat → Nat) (L k l M : Nat) (h : ∀ i m, f i m ≤ M) : ∀ d, d ∈ upTo f L k l → d ≤ M := by
  intro d hd
  unfold upTo at hd
  rw [List.mem_append] at hd
  rcases hd with hd | hd
  · obtain ⟨i, _, hi⟩ := List.mem_flatMap.1 hd
    obtain ⟨m, _, rfl⟩ := List.mem_map.1 hi
    exact h i m
  · obtain ⟨m, _, rfl⟩ := List.mem_map.1 hd
    exact h k m
/-- The distances as a list. -/
def farL (n : Nat) (t : Bfs Int) : List Int := (List.range n).map fun (s : Nat) => if hasB t.list (s : Int) = true then ((farD t (s : Int) : Nat) : Int) else 0
theorem farL_len (n : Nat) (t : Bfs Int) : (farL n t).length = n := by simp [farL]
theorem nth_farL (n : Nat) (t : Bfs Int) (s : Nat) (h : s < n) : nth (farL n t) s = if hasB t.list (s : Int) = true then ((farD t (s : Int) : Nat) : Int) else 0 := by
  unfold farL
  rw [nth_eq _ _ (by simpa using h)]; simp
theorem farL_at (n : Nat) (t : Bfs Int) (x : Int) (h0 : 0 ≤ x) (h : x.toNat < n) (hx : x ∈ t.list) : nth (farL n t) x.toNat = ((farD t x : Nat) : Int) := by
  rw [nth_farL n t _ h, show ((x.toNat : Nat) : Int) = x by omega, if_pos ((hasB_iff _ _).2 hx)]
theorem farL_start (n : Nat) : farL n (bStart 0) = List.replicate n 0 := by
  apply ext_nth
  · simp [farL]
  · intro i hi
    rw [farL_len] at hi
    rw [nth_farL _ _ _ hi, nth_eq _ _ (by simpa using hi)]
    simp only [List.getElem_replicate]
    split
    · rename_i h
      rw [hasB_iff] at h
      simp [bStart] at h
      subst h
      have := farD_nth (t := bStart 0) (by simp [bStart]) 0 (by simp [bStart])
      have e : nth (bStart (0 : Int)).list 0 = 0 := rfl
      rw [e] at this
      simp only [Int.ofNat_zero] at *
      rw [this]
      simp [bStart, nth]
    · rfl
theorem farL_put (n : Nat) {t : Bfs Int} (hlw : t.words.length = t.list.length) (y : Int) (wd : List Int) (hy : y ∉ t.list) (h0 : 0 ≤ y) (hn : y.toNat < n) :
    (farL n t).set y.toNat (wd.length : Nat) = farL n ⟨t.list ++ [y], t.words ++ [wd]⟩ := by
  apply ext_nth
  · simp [farL]
  · intro i hi
    simp [farL] at hi
    rw [nth_set _ _ _ _ (by rw [farL_len]; exact hn), nth_farL _ _ _ hi, nth_farL _ _ _ hi]
    by_cases e : i = y.toNat
    · have e2 : (i : Int) = y := by omega
      rw [if_pos e, e2, if_pos ((hasB_iff _ _).2 (by simp)), farD_new hlw y wd hy]
    · have e2 : (i : Int) ≠ y := by omega
      rw [if_neg e]
      have h1 : hasB (t.list ++ [y]) (i : Int) = hasB t.list (i : Int) := by rw [Bool.eq_iff_iff, hasB_iff, hasB_iff]; simp [e2]
      simp only [h1]
      by_cases h2 : hasB t.list (i : Int) = true
      · rw [if_pos h2, if_pos h2, farD_old hlw y wd _ ((hasB_iff _ _).1 h2)]
      · rw [if_neg h2, if_neg h2]
theorem stateGap_le {a : Aut} (ha : autOk a = true) (i l : Nat) : stateGap a i l ≤ 11 := by
  have hn := autOk_n ha
  have hs : rcP a 0 := ⟨by omega, by omega⟩
  exact gapOf_le _ _ (rc_far ha (rc_bok ha hs 11) _) (rc_far ha (rc_bok ha hs 11) _)
theorem rc_endT {a : Aut} (ha : autOk a = true) {s : Int} (hs : rcP a s) (k : Nat) (hk : (rcT a s k).list.length = k) : rcT a s 11 = rcT a s k := by
  have hb := rc_bound ha (rc_bok ha hs k)
  have hn := autOk_n ha
  unfold rcT
  exact bTo_end (g := rcG a.nx) (L := a.nx.length) s k 11 (by omega) hk
end

end Go.Proofs.YthbebnfhplacnaaGreat
