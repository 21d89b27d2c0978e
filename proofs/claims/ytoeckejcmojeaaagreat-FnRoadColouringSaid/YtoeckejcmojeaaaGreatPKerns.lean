/- Parts of the proof that lean on no program: PlainKern, PlainKern2. -/
import Derived.Test.YtoeckejcmojeaaaGreatCore
import Derived.Test.YtoeckejcmojeaaaGreatPlains
import Derived.Test.YtoeckejcmojeaaaGreatPers
import Derived.Test.YtoeckejcmojeaaaGreatPQuos
import Derived.Test.YtoeckejcmojeaaaGreatPOrds
import Derived.Test.YtoeckejcmojeaaaGreatPMerg
import Derived.WalkKit
import Derived.WalkSpells
import Derived.WalkLawsBesides
import Derived.Deep.QuietTactic
import Derived.Deep.OwnRows
import Derived.BigQuiet
import Derived.KernelRfl
namespace Go.Proofs.YtoeckejcmojeaaaGreat
open Go.RowKit

section
/-- No more things in a list without doubles than in one that has them all. -/
theorem nodup_sub {α : Type} [DecidableEq α] : ∀ (l l' : List α), l.Nodup → (∀ x, x ∈ l → x ∈ l') → l.length ≤ l'.length
  | [], _, _, _ => Nat.zero_le _
  | x :: r, l', hn, hs => by
    rw [List.nodup_cons] at hn
    have hx : x ∈ l' := hs x (List.mem_cons_self)
    have ih := nodup_sub r (l'.erase x) hn.2 (fun y hy => by
      rw [List.mem_erase_of_ne (show y ≠ x from fun e => hn.1 (by rw [← e]; exact hy))]
      exact hs y (List.mem_cons_of_mem _ hy))
    rw [List.length_erase_of_mem hx] at ih
    have : 0 < l'.length := List.length_pos_of_mem hx
    simp only [List.length_cons]
    omega
/-- How many different numbers. -/
def dcnt (xs : List Int) : Nat := (firsts xs).length
theorem firsts_nodup (xs : List Int) : (firsts xs).Nodup := by
  refine snoc_ind (P := fun xs => (firsts xs).Nodup) (by simp [firsts]) (fun xs x ih => ?_) xs
  rw [firsts_snoc]
  unfold addNew
  split
  · exact ih
  · rename_i h
    rw [hasB_iff] at h
    rw [List.nodup_append]
    refine ⟨ih, by simp, ?_⟩
    intro y hy z hz
    simp at hz
    subst hz
    rintro rfl
    exact h hy
theorem dcnt_le {xs ys : List Int} (h : ∀ x, x ∈ xs → x ∈ ys) : dcnt xs ≤ dcnt ys :=
  nodup_sub _ _ (firsts_nodup xs) (fun x hx => (mem_firsts ys x).2 (h x ((mem_firsts xs x).1 hx)))
/-- A finer division with as many classes is the same. -/
theorem finer_same {xs ys : List Int} (hl : xs.length = ys.length) (hf : ∀ i j, i < xs.length → j < xs.length → nth xs i = nth xs j → nth ys i = nth ys j) (hc : dcnt xs ≤ dcnt ys) (i j : Nat) (hi : i < xs.length) (hj : j < xs.length) (h : nth ys i = nth ys j) : nth xs i = nth xs j := by
  refine Classical.byContradiction fun hne => ?_
  -- the values of ys, one for each value of xs but that at j
  have hz : ∀ y, y ∈ firsts ys → y ∈ ((firsts xs).erase (nth xs j)).map (fun v => nth ys (placeOf xs v).toNat) := by
    intro y hy
    rw [mem_firsts] at hy
    obtain ⟨k, hk, rfl⟩ := mem_nth ys y hy
    have hk' : k < xs.length := by omega
    have key : ∀ k, k < xs.length → nth xs k ≠ nth xs j → nth ys k ∈ ((firsts xs).erase (nth xs j)).map (fun v => nth ys (placeOf xs v).toNat) := by
      intro k hk hkj
      rw [List.mem_map]
      refine ⟨nth xs k, ?_, ?_⟩
      · rw [List.mem_erase_of_ne hkj, mem_firsts]; exact nth_mem _ _ hk
      · obtain ⟨p, p1, p2, p3, _⟩ := placeOf_mem xs (nth xs k) (nth_mem _ _ hk)
        rw [p3, Int.toNat_natCast]
        exact hf p k p1 hk p2
    by_cases e : nth xs k = nth xs j
    · have e2 : nth ys k = nth ys j := hf k j hk' hj e
      rw [e2, ← h]
      exact key i hi hne
    · exact key k hk' e
  have h1 := nodup_sub _ _ (firsts_nodup ys) hz
  rw [List.length_map, List.length_erase_of_mem ((mem_firsts xs _).2 (nth_mem _ _ hj))] at h1
  have h2 : 0 < (firsts xs).length := List.length_pos_of_mem ((mem_firsts xs _).2 (nth_mem _ _ hj))
  unfold dcnt at hc
  omega
theorem nth_tidyOf (xs : List Int) (i : Nat) (h : i < xs.length) : nth (tidyOf xs) i = placeOf (firsts xs) (nth xs i) := by
  have hd := placeOf_firsts xs (nth xs i) (i + 1) (nth_mem_take xs i (i + 1) (Nat.lt_succ_self i) h) (xs.length - (i + 1)) (by omega)
  rw [show i + 1 + (xs.length - (i + 1)) = xs.length by omega, List.take_length] at hd
  unfold tidyOf
  rw [nth_tidyTo _ _ _ h, hd]
theorem tidyOf_len (xs : List Int) : (tidyOf xs).length = xs.length := tidyTo_len _ _
theorem tidyOf_eq_iff (xs : List Int) (i j : Nat) (hi : i < xs.length) (hj : j < xs.length) : nth (tidyOf xs) i = nth (tidyOf xs) j ↔ nth xs i = nth xs j := by
  rw [nth_tidyOf _ _ hi, nth_tidyOf _ _ hj]
  constructor
  · intro h
    obtain ⟨p, p1, p2, p3, _⟩ := placeOf_mem (firsts xs) (nth xs i) ((mem_firsts xs _).2 (nth_mem _ _ hi))
    obtain ⟨q, q1, q2, q3, _⟩ := placeOf_mem (firsts xs) (nth xs j) ((mem_firsts xs _).2 (nth_mem _ _ hj))
    rw [p3, q3] at h
    have : p = q := by omega
    rw [← p2, ← q2, this]
  · intro h; rw [h]
theorem tidyOf_lt (xs : List Int) (i : Nat) (h : i < xs.length) : 0 ≤ nth (tidyOf xs) i ∧ nth (tidyOf xs) i < (dcnt xs : Int) := by
  rw [nth_tidyOf _ _ h]
  obtain ⟨p, p1, p2, p3, _⟩ := placeOf_mem (firsts xs) (nth xs i) ((mem_firsts xs _).2 (nth_mem _ _ h))
  unfold dcnt
  omega
/-- The number of classes. -/
theorem tidyOf_cls (xs : List Int) : clsN (tidyOf xs) = (dcnt xs : Int) := by
  have hl := tidyOf_len xs
  rcases Nat.eq_zero_or_pos xs.length with h0 | h0
  · rw [List.length_eq_zero_iff] at h0
    subst h0; rfl
  · have hpos : 0 < dcnt xs := List.length_pos_of_mem ((mem_firsts xs (nth xs 0)).2 (nth_mem xs 0 h0))
    -- the last of the different numbers has the greatest place
    have hlast : nth (firsts xs) (dcnt xs - 1) ∈ xs := (mem_firsts xs _).1 (nth_mem _ _ (by unfold dcnt at *; omega))
    obtain ⟨k, hk, hke⟩ := mem_nth xs _ hlast
    have hv : nth (tidyOf xs) k = ((dcnt xs - 1 : Nat) : Int) := by
      rw [nth_tidyOf _ _ hk, hke]
      refine placeOf_of _ _ _ (by unfold dcnt at *; omega) rfl (fun j hj => ?_)
      intro e
      have hn := firsts_nodup xs
      rw [List.nodup_iff_pairwise_ne, List.pairwise_iff_getElem] at hn
      have := hn j (dcnt xs - 1) (by unfold dcnt at *; omega) (by unfold dcnt at *; omega) hj
      rw [← nth_eq _ _ (by unfold dcnt at *; omega), ← nth_eq _ _ (by unfold dcnt at *; omega)] at this
      exact this e
    have h1 := clsTo_ge (tidyOf xs) (tidyOf xs).length (Nat.le_refl _) k (by omega)
    rw [hv] at h1
    unfold clsN
    rcases clsTo_hit (tidyOf xs) (tidyOf xs).length (Nat.le_refl _) (by omega) with ⟨i, hi, e⟩ | e
    · have := (tidyOf_lt xs i (by omega)).2
      omega
    · omega
/-- The kernel of a letter and a word behind it. -/
def kerS (row x : List Int) : List Int := tidyOf (row.map fun t => nth x t.toNat)
def kern (a : Aut) (ws : List Int) : List Int := tidyOf (actOf a ws)
theorem actOf_len (a : Aut) (ws : List Int) : (actOf a ws).length = a.n.toNat := by simp [actOf, iota_length]
theorem nth_actOf (a : Aut) (ws : List Int) (i : Nat) (h : i < a.n.toNat) : nth (actOf a ws) i = runOf a.nx (i : Int) ws := by
  unfold actOf
  rw [nth_map _ _ _ (by rw [iota_length]; exact h), nth_iota _ _ _ h]
  simp
theorem kern_len (a : Aut) (ws : List Int) : (kern a ws).length = a.n.toNat := by rw [kern, tidyOf_len, actOf_len]
theorem runOf_cons (nx : List (List Int)) (s l : Int) (ws : List Int) : runOf nx s (l :: ws) = runOf nx (stepOf nx s l) ws := rfl
section
variable {a : Aut} (ha : autOk a = true)
include ha
theorem kerS_kern (l : Nat) (hl : l < a.nx.length) (ws : List Int) : kerS (nth a.nx l) (kern a ws) = kern a ((l : Int) :: ws) := by
  obtain ⟨r1, r2⟩ := autOk_row ha l hl
  have hn := autOk_n ha
  show tidyOf ((nth a.nx l).map fun t => nth (kern a ws) t.toNat) = tidyOf (actOf a ((l : Int) :: ws))
  refine tidyOf_ker _ _ (by rw [List.length_map, actOf_len]; omega) (fun i j hi hj => ?_)
  rw [List.length_map] at hi hj
  rw [nth_map _ _ _ hi, nth_map _ _ _ hj, nth_actOf _ _ _ (by omega), nth_actOf _ _ _ (by omega), runOf_cons, runOf_cons]
  have bi := r2 i hi
  have bj := r2 j hj
  unfold kern
  rw [tidyOf_eq_iff _ _ _ (by rw [actOf_len]; omega) (by rw [actOf_len]; omega), nth_actOf _ _ _ (by omega), nth_actOf _ _ _ (by omega)]
  rw [Int.toNat_of_nonneg bi.1, Int.toNat_of_nonneg bj.1]
  have si : stepOf a.nx (i : Int) (l : Int) = nth (nth a.nx l) i := by simp [stepOf]
  have sj : stepOf a.nx (j : Int) (l : Int) = nth (nth a.nx l) j := by simp [stepOf]
  rw [si, sj]
end
/-- Whether a state is among those to which a word leads. -/
theorem runF_bits {a : Aut} (ha : autOk a = true) (ws : List Int) (hw : letters a ws) (i : Nat) : (runF a.nx (full a.n) ws).testBit i = true ↔ ∃ s : Nat, s < a.n.toNat ∧ (runOf a.nx (s : Int) ws).toNat = i := by
  have hn := autOk_n ha
  have hfull : ∀ s, (full a.n).testBit s = true ↔ s < a.n.toNat := fun s => by
    unfold full
    rw [Nat.testBit_two_pow_sub_one]; simp
  refine snoc_ind (P := fun ws => letters a ws → ∀ i, (runF a.nx (full a.n) ws).testBit i = true ↔ ∃ s : Nat, s < a.n.toNat ∧ (runOf a.nx (s : Int) ws).toNat = i) ?_ ?_ ws hw i
  · intro _ i
    show (full a.n).testBit i = true ↔ _
    rw [hfull]
    constructor
    · intro h; exact ⟨i, h, by simp [runOf]⟩
    · rintro ⟨s, h1, h2⟩
      simp [runOf] at h2
      omega
  · intro xs x ih h i
    rw [letters_snoc] at h
    rw [runF_snoc, testBit_moved]
    constructor
    · rintro ⟨t, ht, h1, h2⟩
      obtain ⟨s, hs, he⟩ := (ih h.1 t).1 h1
      refine ⟨s, hs, ?_⟩
      rw [runOf_snoc]
      unfold stepOf
      rw [he]; exact h2
    · rintro ⟨s, hs, he⟩
      have hr := runOf_lt ha (s : Int) ⟨by omega, by omega⟩ xs h.1
      refine ⟨(runOf a.nx (s : Int) xs).toNat, by omega, (ih h.1 _).2 ⟨s, hs, rfl⟩, ?_⟩
      rw [runOf_snoc] at he
      exact he
theorem setOf_nodup (f : Nat) : (setOf f).Nodup := by
  unfold setOf bitsTo
  rw [List.nodup_iff_pairwise_ne]
  refine List.Pairwise.filter _ ?_
  unfold iota
  rw [List.pairwise_map]
  exact List.Pairwise.imp (fun h => by omega) List.pairwise_lt_range
/-- So many states does a word lead to. -/
theorem img_dcnt {a : Aut} (ha : autOk a = true) (ws : List Int) (hw : letters a ws) : (setOf (runF a.nx (full a.n) ws)).length = dcnt (actOf a ws) := by
  have hn := autOk_n ha
  have hm : ∀ x, x ∈ setOf (runF a.nx (full a.n) ws) ↔ x ∈ actOf a ws := by
    intro x
    unfold setOf
    rw [mem_bitsTo, runF_bits ha ws hw]
    constructor
    · rintro ⟨h0, _, s, hs, he⟩
      have hr := runOf_lt ha (s : Int) ⟨by omega, by omega⟩ ws hw
      have : x = nth (actOf a ws) s := by rw [nth_actOf _ _ _ hs]; omega
      rw [this]
      exact nth_mem _ _ (by rw [actOf_len]; exact hs)
    · intro h
      obtain ⟨s, hs, rfl⟩ := mem_nth _ _ h
      rw [actOf_len] at hs
      rw [nth_actOf _ _ _ hs]
      have hr := runOf_lt ha (s : Int) ⟨by omega, by omega⟩ ws hw
      exact ⟨hr.1, by omega, s, hs, rfl⟩
  refine Nat.le_antisymm (nodup_sub _ _ (setOf_nodup _) (fun x hx => (mem_firsts _ x).2 ((hm x).1 hx))) (nodup_sub _ _ (firsts_nodup _) (fun x hx => (hm x).2 ((mem_firsts _ x).1 hx)))
theorem leastTo_le_at (sets : List Nat) (m : Nat) : ∀ k, k ≤ sets.length → ∀ j, j < k → leastTo sets m k ≤ (setOf (nth sets j)).length
  | 0, _, j, h => by omega
  | k + 1, hk, j, h => by
    rw [leastTo_succ _ _ _ (by omega)]
    by_cases e : j = k
    · subst e; exact Nat.min_le_right _ _
    · exact Nat.le_trans (Nat.min_le_left _ _) (leastTo_le_at sets m k (by omega) j (by omega))
/-- The rank of an automaton, and the first word with it. -/
def rankA (a : Aut) : Nat := leastOf a.nx (full a.n)
def rankP (a : Aut) : List Int × Bool := firstWord (fun f => decide ((setOf f).length = rankA a)) (tourOf a.nx (full a.n))
theorem rankP_is (a : Aut) : rankP a = firstWord (fun f => decide ((setOf f).length = rankA a)) (tourOf a.nx (full a.n)) := rfl
theorem rank_le {a : Aut} (ha : autOk a = true) (ws : List Int) (hw : letters a ws) : rankA a ≤ dcnt (actOf a ws) := by
  rw [← img_dcnt ha ws hw]
  obtain ⟨j, hj, e⟩ := mem_nth _ _ (mem_tour_run ha (full a.n) (full_lt a.n) ws hw)
  rw [← e]
  exact leastTo_le_at _ _ _ (Nat.le_refl _) j hj
theorem first_runsP {a : Aut} {f : Nat} {T : Tour} (p : Nat → Bool) (hw : WRun a f T) (h : (firstWord p T).2 = true) : letters a (firstWord p T).1 ∧ p (runF a.nx f (firstWord p T).1) = true := by
  unfold firstWord at h ⊢
  cases hi : T.sets.findIdx? p with
  | none => rw [hi] at h; cases h
  | some i =>
    rw [List.findIdx?_eq_some_iff_getElem] at hi
    obtain ⟨hlt, h1, _⟩ := hi
    obtain ⟨q1, q2⟩ := hw.2 i hlt
    refine ⟨q1, ?_⟩
    show p (runF a.nx f (nth T.words i)) = true
    rw [q2, nth_eq _ _ hlt]; exact h1
theorem found_of (f : Nat) {T : Tour} (hf : f ∈ T.sets) : (firstWord (fun g => decide ((setOf g).length = leastTo T.sets (setOf f).length T.sets.length)) T).2 = true := by
  rw [firstWord_iff]
  rcases leastTo_hit T.sets (setOf f).length T.sets.length (Nat.le_refl _) with e | ⟨j, hj, e⟩
  · exact ⟨f, hf, by rw [decide_eq_true_eq, e]⟩
  · exact ⟨_, nth_mem _ j hj, by rw [decide_eq_true_eq, e]⟩
theorem rank_found {a : Aut} (ha : autOk a = true) : (firstWord (fun f => decide ((setOf f).length = rankA a)) (tourOf a.nx (full a.n))).2 = true :=
  found_of (full a.n) (mem_tour_run ha (full a.n) (full_lt a.n) [] (letters_nil a))
theorem ok_of {a : Aut} (ha : autOk a = true) (r : Nat) (P : List Int × Bool) {T : Tour} (hw : WRun a (full a.n) T) (hP : P = firstWord (fun f => decide ((setOf f).length = r)) T) (hb : P.2 = true) : letters a P.1 ∧ dcnt (actOf a P.1) = r := by
  subst hP
  obtain ⟨h1, h2⟩ := first_runsP _ hw hb
  rw [decide_eq_true_eq] at h2
  refine ⟨h1, ?_⟩
  rw [← img_dcnt ha _ h1]
  exact h2
theorem eq_true_of {P Q : List Int × Bool} (h : P = Q) (hq : Q.2 = true) : P.2 = true := by rw [h]; exact hq
theorem rankP_found {a : Aut} (ha : autOk a = true) : (rankP a).2 = true := eq_true_of (rankP_is a) (rank_found ha)
theorem rankP_ok {a : Aut} (ha : autOk a = true) : letters a (rankP a).1 ∧ dcnt (actOf a (rankP a).1) = rankA a :=
  ok_of ha (rankA a) (rankP a) (WRun.tour a (full a.n)) (rankP_is a) (rankP_found ha)
section
variable {α : Type} [DecidableEq α] [Inhabited α] {g : Nat → α → Option α} {L : Nat}
/-- What is reached from a start. -/
inductive Gets (g : Nat → α → Option α) (L : Nat) (s : α) : α → Prop
  | start : Gets g L s s
  | step {x y : α} {l : Nat} : Gets g L s x → l < L → g l x = some y → Gets g L s y
theorem bStep_gets {s : α} {t : Bfs α} (h : ∀ x, x ∈ t.list → Gets g L s x) (i l : Nat) (hi : i < t.list.length) (hl : l < L) : ∀ x, x ∈ (bStep g i l t).list → Gets g L s x := by
  cases e : g l (nth t.list i) with
  | none => rw [bStep_none g i l t e]; exact h
  | some y =>
    by_cases hy : y ∈ t.list
    · rw [bStep_has g i l t y e hy]; exact h
    · rw [bStep_new g i l t y e hy]
      intro x hx
      rcases List.mem_append.1 hx with q | q
      · exact h x q
      · simp at q; subst q; exact (h _ (nth_mem _ _ hi)).step hl e
theorem bRow_gets {s : α} {t : Bfs α} (h : ∀ x, x ∈ t.list → Gets g L s x) (i : Nat) (hi : i < t.list.length) : ∀ l, l ≤ L → ∀ x, x ∈ (bRow g i t l).list → Gets g L s x
  | 0, _ => h
  | l + 1, hl => by
    rw [bRow_succ]
    exact bStep_gets (bRow_gets h i hi l (by omega)) i l (Nat.lt_of_lt_of_le hi (bRow_pre' (g := g) i t l).1) (by omega)
theorem bTo_gets (s : α) : ∀ k x, x ∈ (bTo g L s k).list → Gets g L s x
  | 0 => fun x hx => by simp [bTo_zero, bStart] at hx; subst hx; exact Gets.start
  | k + 1 => by
    rw [bTo_succ]
    split
    · rename_i h; exact bRow_gets (bTo_gets s k) k h L (Nat.le_refl _)
    · exact bTo_gets s k
omit [DecidableEq α] in
theorem mem_pre {t t' : Bfs α} (h : BPre t t') {x : α} (hx : x ∈ t.list) : x ∈ t'.list := by
  obtain ⟨i, hi, rfl⟩ := mem_nth _ _ hx
  rw [← (h.2 i hi).1]
  exact nth_mem _ _ (Nat.lt_of_lt_of_le hi h.1)
theorem bRow_closed (i : Nat) (t : Bfs α) (hi : i < t.list.length) : ∀ l j y, j < l → g j (nth t.list i) = some y → y ∈ (bRow g i t l).list
  | 0, j, y, hj, _ => by omega
  | l + 1, j, y, hj, hg => by
    rw [bRow_succ]
    by_cases e : j = l
    · subst e
      have e1 := ((bRow_pre' (g := g) i t j).2 i hi).1
      by_cases hy : y ∈ (bRow g i t j).list
      · exact mem_pre (bStep_pre i j _) hy
      · rw [bStep_new g i j _ y (by rw [e1]; exact hg) hy]
        simp
    · exact mem_pre (bStep_pre i l _) (bRow_closed i t hi l j y (by omega) hg)
theorem bTo_closed (s : α) : ∀ k i l y, i < k → i < (bTo g L s k).list.length → l < L → g l (nth (bTo g L s k).list i) = some y → y ∈ (bTo g L s k).list
  | 0, i, l, y, h, _, _, _ => by omega
  | k + 1, i, l, y, h, hi, hl, hg => by
    by_cases hlt : k < (bTo g L s k).list.length
    · have e : bTo g L s (k + 1) = bRow g k (bTo g L s k) L := by rw [bTo_succ, if_pos hlt]
      have hpre := bRow_pre' (g := g) k (bTo g L s k) L
      rw [e] at hg ⊢
      by_cases ei : i = k
      · subst ei
        rw [(hpre.2 i hlt).1] at hg
        exact bRow_closed i _ hlt L l y hl hg
      · rw [(hpre.2 i (by omega)).1] at hg
        exact mem_pre hpre (bTo_closed s k i l y (by omega) (by omega) hl hg)
    · have e : bTo g L s (k + 1) = bTo g L s k := by rw [bTo_succ, if_neg hlt]
      rw [e] at hi hg ⊢
      exact bTo_closed s k i l y (by omega) hi hl hg
theorem start_mem (s : α) (k : Nat) : s ∈ (bTo g L s k).list := by
  have h := bTo_pre (g := g) (L := L) s 0 k
  rw [Nat.zero_add] at h
  exact mem_pre h (by simp [bTo_zero, bStart])
theorem gets_mem (s : α) (k : Nat) (hk : (bTo g L s k).list.length ≤ k) {x : α} (h : Gets g L s x) : x ∈ (bTo g L s k).list := by
  induction h with
  | start => exact start_mem s k
  | step h1 hl hg ih =>
    obtain ⟨i, hi, e⟩ := mem_nth _ _ ih
    rw [← e] at hg
    exact bTo_closed s k i _ _ (by omega) hi hl hg
theorem gets_iff (s : α) (k : Nat) (hk : (bTo g L s k).list.length ≤ k) (x : α) : x ∈ (bTo g L s k).list ↔ Gets g L s x := ⟨bTo_gets s k x, gets_mem s k hk⟩
end
theorem perm_of_mem {α : Type} [DecidableEq α] : ∀ l l' : List α, l.Nodup → l'.Nodup → (∀ x, x ∈ l ↔ x ∈ l') → l.Perm l'
  | [], l', _, _, h => by
    have : l' = [] := by
      cases l' with
      | nil => rfl
      | cons y r => exact absurd ((h y).2 (List.mem_cons_self)) (by simp)
    rw [this]
  | x :: r, l', hn, hn', h => by
    have hx : x ∈ l' := (h x).1 (List.mem_cons_self)
    rw [List.nodup_cons] at hn
    have hp := List.perm_cons_erase hx
    have hn2 : (x :: l'.erase x).Nodup := hp.nodup_iff.1 hn'
    rw [List.nodup_cons] at hn2
    refine List.Perm.trans (List.Perm.cons x ?_) hp.symm
    refine perm_of_mem r (l'.erase x) hn.2 hn2.2 (fun y => ?_)
    constructor
    · intro hy
      have hne : y ≠ x := fun e => hn.1 (by rw [← e]; exact hy)
      rw [List.mem_erase_of_ne hne]
      exact (h y).1 (List.mem_cons_of_mem _ hy)
    · intro hy
      have hne : y ≠ x := fun e => by subst e; exact hn2.1 hy
      have := (h y).2 (List.mem_of_mem_erase hy)
      rcases List.mem_cons.1 this with q | q
      · exact absurd q hne
      · exact q
/-- What is reached by making a list of all that one word leads to: the kernels. -/
def kG (a : Aut) (l : Nat) (x : List Int) : Option (List Int) := some (kerS (nth a.nx l) x)
def kG2 (a : Aut) (r : Nat) (l : Nat) (x : List Int) : Option (List Int) := if clsN (kerS (nth a.nx l) x) = (r : Int) then some (kerS (nth a.nx l) x) else none
section
variable {a : Aut} (ha : autOk a = true)
include ha
omit ha in
theorem kern_nil : kern a [] = tidyOf (iota 0 a.n.toNat) := by
  unfold kern
  congr 1
  unfold actOf
  refine ext_nth _ _ (by rw [List.length_map]) (fun i hi => ?_)
  rw [List.length_map] at hi
  rw [nth_map _ _ _ hi]
  rfl
/-- All kernels are reached from that of the empty word. -/
theorem gets_kern (x : List Int) : Gets (kG a) a.nx.length (tidyOf (iota 0 a.n.toNat)) x ↔ ∃ ws, letters a ws ∧ x = kern a ws := by
  constructor
  · intro h
    induction h with
    | start => exact ⟨[], letters_nil a, (kern_nil).symm⟩
    | @step x y l h1 hl hg ih =>
      obtain ⟨ws, hw, rfl⟩ := ih
      unfold kG at hg
      injection hg with hg
      refine ⟨(l : Int) :: ws, ?_, ?_⟩
      · have : letters a ([(l : Int)] ++ ws) := letters_append (fun i hi => by
          have e : i = 0 := by simpa using hi
          subst e
          show 0 ≤ (l : Int) ∧ (l : Int) < (a.nx.length : Int)
          omega) hw
        exact this
      · rw [← hg, kerS_kern ha l (by omega) ws]
  · rintro ⟨ws, hw, rfl⟩
    induction ws with
    | nil => rw [kern_nil]; exact Gets.start
    | cons c ws ih =>
      have h0 := hw 0 (by simp)
      have h0' : 0 ≤ c ∧ c < (a.nx.length : Int) := h0
      have hws : letters a ws := fun i hi => hw (i + 1) (by simp; omega)
      refine (ih hws).step (l := c.toNat) (by omega) ?_
      unfold kG
      rw [kerS_kern ha c.toNat (by omega) ws, Int.toNat_of_nonneg h0'.1]
omit ha in
theorem kern_cls (ws : List Int) : clsN (kern a ws) = (dcnt (actOf a ws) : Int) := tidyOf_cls _
theorem dcnt_append (us ws : List Int) (hu : letters a us) : dcnt (actOf a (us ++ ws)) ≤ dcnt (actOf a ws) := by
  refine dcnt_le (fun x hx => ?_)
  obtain ⟨i, hi, rfl⟩ := mem_nth _ _ hx
  rw [actOf_len] at hi
  have hn := autOk_n ha
  rw [nth_actOf _ _ _ hi, runOf_append]
  have hr := runOf_lt ha (i : Int) ⟨by omega, by omega⟩ us hu
  have : runOf a.nx (runOf a.nx (i : Int) us) ws = nth (actOf a ws) (runOf a.nx (i : Int) us).toNat := by
    rw [nth_actOf _ _ _ (by omega), Int.toNat_of_nonneg hr.1]
  rw [this]
  exact nth_mem _ _ (by rw [actOf_len]; omega)
/-- A kernel of least rank is that of a word that ends with a given one of least rank. -/
theorem kern_least (ws vs : List Int) (hw : letters a ws) (hv : letters a vs) (h : dcnt (actOf a ws) = rankA a) : kern a ws = kern a (ws ++ vs) := by
  have hn := autOk_n ha
  have hle := rank_le ha (ws ++ vs) (letters_append hw hv)
  have hf : ∀ i j, i < (actOf a ws).length → j < (actOf a ws).length → nth (actOf a ws) i = nth (actOf a ws) j → nth (actOf a (ws ++ vs)) i = nth (actOf a (ws ++ vs)) j := by
    intro i j hi hj e
    rw [actOf_len] at hi hj
    rw [nth_actOf _ _ _ hi, nth_actOf _ _ _ hj] at e ⊢
    rw [runOf_append, runOf_append, e]
  refine tidyOf_ker _ _ (by rw [actOf_len, actOf_len]) (fun i j hi hj => ⟨hf i j hi hj, fun e => ?_⟩)
  exact finer_same (by rw [actOf_len, actOf_len]) hf (by omega) i j hi hj e
/-- The reference reaches the same. -/
theorem gets_kern2 (x : List Int) : Gets (kG2 a (rankA a)) a.nx.length (kern a (rankP a).1) x ↔ Gets (kG a) a.nx.length (tidyOf (iota 0 a.n.toNat)) x ∧ clsN x = (rankA a : Int) := by
  obtain ⟨hl0, hr0⟩ := rankP_ok ha
  obtain ⟨W, hW⟩ : ∃ W, W = (rankP a).1 := ⟨_, rfl⟩
  rw [← hW] at hl0 hr0 ⊢
  clear hW
  rw [gets_kern ha]
  constructor
  · intro h
    induction h with
    | start => exact ⟨⟨W, hl0, rfl⟩, by rw [kern_cls, hr0]⟩
    | @step x y l h1 hl hg ih =>
      obtain ⟨⟨ws, hw, rfl⟩, _⟩ := ih
      unfold kG2 at hg
      split at hg
      · rename_i hc
        injection hg with hg
        refine ⟨⟨(l : Int) :: ws, ?_, ?_⟩, by rw [← hg]; exact hc⟩
        · have : letters a ([(l : Int)] ++ ws) := letters_append (fun i hi => by
            have e : i = 0 := by simpa using hi
            subst e
            show 0 ≤ (l : Int) ∧ (l : Int) < (a.nx.length : Int)
            omega) hw
          exact this
        · rw [← hg, kerS_kern ha l (by omega) ws]
      · cases hg
  · rintro ⟨⟨ws, hw, rfl⟩, hc⟩
    rw [kern_cls] at hc
    rw [kern_least ha ws W hw hl0 (by omega)]
    clear hc
    induction ws with
    | nil => exact Gets.start
    | cons c ws ih =>
      have h0' : 0 ≤ c ∧ c < (a.nx.length : Int) := hw 0 (by simp)
      have hws : letters a ws := fun i hi => hw (i + 1) (by simp; omega)
      have h1 := dcnt_append ha (c :: ws) W hw
      have h2 := rank_le ha (c :: ws ++ W) (letters_append hw hl0)
      refine (ih hws).step (l := c.toNat) (by omega) ?_
      have e : kerS (nth a.nx c.toNat) (kern a (ws ++ W)) = kern a (c :: ws ++ W) := by
        rw [kerS_kern ha c.toNat (by omega) (ws ++ W), Int.toNat_of_nonneg h0'.1]; rfl
      unfold kG2
      rw [e, if_pos (by rw [kern_cls]; omega)]
end
end
section
/-- All divisions of so many states, with the numbers of their classes. -/
def rgs : Nat → List (List Int × Nat)
  | 0 => [([], 0)]
  | k + 1 => (rgs k).flatMap fun p => ((List.range p.2).map fun (c : Nat) => (p.1 ++ [(c : Int)], p.2)) ++ [(p.1 ++ [(p.2 : Int)], p.2 + 1)]
def bellW : Nat → Nat → Nat
  | 0, _ => 1
  | d + 1, m => m * bellW d m + bellW d (m + 1)
def wsum (d : Nat) (L : List (List Int × Nat)) : Nat := (L.map fun p => bellW d p.2).sum
theorem wsum_append (d : Nat) (A B : List (List Int × Nat)) : wsum d (A ++ B) = wsum d A + wsum d B := by simp [wsum]
theorem wsum_same (d m : Nat) (f : Nat → List Int) : ∀ k, wsum d ((List.range k).map fun c => (f c, m)) = k * bellW d m
  | 0 => by simp [wsum]
  | k + 1 => by
    rw [List.range_succ, List.map_append, wsum_append, wsum_same d m f k, Nat.succ_mul]
    simp [wsum]
theorem wsum_step (d : Nat) : ∀ L : List (List Int × Nat), wsum d (L.flatMap fun p => ((List.range p.2).map fun (c : Nat) => (p.1 ++ [(c : Int)], p.2)) ++ [(p.1 ++ [(p.2 : Int)], p.2 + 1)]) = wsum (d + 1) L
  | [] => by simp [wsum]
  | p :: L => by
    rw [List.flatMap_cons, wsum_append, wsum_step d L, wsum_append, wsum_same]
    simp [wsum, bellW]
theorem wsum_rgs (d : Nat) : ∀ k, wsum d (rgs k) = bellW (d + k) 0
  | 0 => by simp [wsum, rgs]
  | k + 1 => by
    rw [rgs, wsum_step, wsum_rgs (d + 1) k]
    congr 1
    omega
theorem rgs_len (k : Nat) : (rgs k).length = bellW k 0 := by
  have h := wsum_rgs 0 k
  rw [Nat.zero_add] at h
  rw [← h]
  have : ∀ L : List (List Int × Nat), L.length = wsum 0 L := by
    intro L
    induction L with
    | nil => rfl
    | cons p L ih =>
      have e : wsum 0 (p :: L) = 1 + wsum 0 L := by simp [wsum, bellW]
      rw [e, List.length_cons, ih]; omega
  exact this _
theorem bell_le : ∀ n : Fin 11, bellW n.val 0 ≤ 115975 := by decide
theorem tidyTo_rgs (xs : List Int) : ∀ k, k ≤ xs.length → (tidyTo xs k, (firsts (xs.take k)).length) ∈ rgs k
  | 0, _ => by simp [rgs, tidyTo, firsts]
  | k + 1, hk => by
    have ih := tidyTo_rgs xs k (by omega)
    rw [rgs, List.mem_flatMap]
    refine ⟨_, ih, ?_⟩
    rw [tidyTo_succ, firsts_take xs k (by omega)]
    simp only [List.mem_append, List.mem_map, List.mem_range, List.mem_singleton]
    by_cases h : nth xs k ∈ firsts (xs.take k)
    · left
      have e : addNew (firsts (xs.take k)) (nth xs k) = firsts (xs.take k) := by
        unfold addNew; rw [if_pos ((hasB_iff _ _).2 h)]
      rw [e]
      obtain ⟨p, p1, _, p3, _⟩ := placeOf_mem _ _ h
      exact ⟨p, p1, by rw [p3]⟩
    · right
      have e : addNew (firsts (xs.take k)) (nth xs k) = firsts (xs.take k) ++ [nth xs k] := by
        unfold addNew; rw [if_neg (fun q => h ((hasB_iff _ _).1 q))]
      rw [e, placeOf_new _ _ h]
      simp
/-- A division of so many states. -/
def Div (n : Nat) (x : List Int) : Prop := ∃ xs : List Int, xs.length = n ∧ x = tidyOf xs
theorem Div.len {n : Nat} {x : List Int} (h : Div n x) : x.length = n := by obtain ⟨xs, h1, rfl⟩ := h; rw [tidyOf_len, h1]
theorem Div.lt {n : Nat} {x : List Int} (h : Div n x) (i : Nat) (hi : i < x.length) : 0 ≤ nth x i ∧ nth x i < (n : Int) := by
  obtain ⟨xs, h1, rfl⟩ := h
  rw [tidyOf_len] at hi
  have h2 := tidyOf_lt xs i hi
  have h3 := firsts_len xs
  unfold dcnt at h2
  omega
theorem div_bound {n : Nat} (hn : n ≤ 10) {l : List (List Int)} (hd : l.Nodup) (h : ∀ x, x ∈ l → Div n x) : l.length ≤ 115975 := by
  have h1 := nodup_sub l ((rgs n).map Prod.fst) hd (fun x hx => by
    obtain ⟨xs, h1, rfl⟩ := h x hx
    rw [List.mem_map]
    exact ⟨_, by rw [← h1]; exact tidyTo_rgs xs xs.length (Nat.le_refl _), rfl⟩)
  rw [List.length_map, rgs_len] at h1
  exact Nat.le_trans h1 (bell_le ⟨n, by omega⟩)
def kN : Nat := 131072
theorem kN_is : kN = 131072 := rfl
theorem kN_big : 115975 ≤ kN := by rw [kN_is]; decide
def kT (a : Aut) (k : Nat) : Bfs (List Int) := bTo (kG a) a.nx.length (tidyOf (iota 0 a.n.toNat)) k
def kT2 (a : Aut) (k : Nat) : Bfs (List Int) := bTo (kG2 a (rankA a)) a.nx.length (kern a (rankP a).1) k
def LeastKernels (a : Aut) : List (List Int) × Int :=
  if autOk a = true then (buildR lexLt ((kT a kN).list.filter fun x => decide (clsN x = (rankA a : Int))), 0) else ([], 1)
section
variable {a : Aut} (ha : autOk a = true)
include ha
theorem kG_ok (l : Nat) (x y : List Int) (hl : l < a.nx.length) (_hx : Div a.n.toNat x) (h : kG a l x = some y) : Div a.n.toNat y := by
  unfold kG at h
  injection h with h
  subst h
  obtain ⟨r1, _⟩ := autOk_row ha l hl
  exact ⟨_, by rw [List.length_map]; omega, rfl⟩
theorem kG2_ok (r l : Nat) (x y : List Int) (hl : l < a.nx.length) (hx : Div a.n.toNat x) (h : kG2 a r l x = some y) : Div a.n.toNat y := by
  unfold kG2 at h
  split at h
  · exact kG_ok ha l x y hl hx h
  · cases h
theorem k_bok (k : Nat) : BOk (Div a.n.toNat) a.nx.length (kT a k) := BOk.to (fun l x y hl hx h => kG_ok ha l x y hl hx h) _ ⟨_, iota_length _ _, rfl⟩ k
theorem k2_bok (k : Nat) : BOk (Div a.n.toNat) a.nx.length (kT2 a k) := BOk.to (fun l x y hl hx h => kG2_ok ha _ l x y hl hx h) _ ⟨_, actOf_len _ _, rfl⟩ k
theorem k_bound {t : Bfs (List Int)} (h : BOk (Div a.n.toNat) a.nx.length t) : t.list.length ≤ 115975 := by
  have := autOk_n ha
  exact div_bound (n := a.n.toNat) (by omega) h.nodup h.ok
theorem k_end (k : Nat) (h : (kT a k).list.length = k) : kT a kN = kT a k := by
  have := k_bound ha (k_bok ha k)
  exact bTo_end _ _ _ (by rw [kN_is]; omega) h
theorem k2_end (k : Nat) (h : (kT2 a k).list.length = k) : kT2 a kN = kT2 a k := by
  have := k_bound ha (k2_bok ha k)
  exact bTo_end _ _ _ (by rw [kN_is]; omega) h
/-- The two have the same kernels of least rank. -/
theorem kern_same : buildR lexLt (kT2 a kN).list = buildR lexLt ((kT a kN).list.filter fun x => decide (clsN x = (rankA a : Int))) := by
  have b1 := k_bound ha (k_bok ha kN)
  have b2 := k_bound ha (k2_bok ha kN)
  have hp : (kT2 a kN).list.Perm ((kT a kN).list.filter fun x => decide (clsN x = (rankA a : Int))) := by
    refine perm_of_mem _ _ (k2_bok ha kN).nodup ?_ (fun x => ?_)
    · have := (k_bok ha kN).nodup
      rw [List.nodup_iff_pairwise_ne] at this ⊢
      exact this.filter _
    · rw [List.mem_filter, decide_eq_true_eq]
      have e1 := gets_iff (g := kG2 a (rankA a)) (L := a.nx.length) (kern a (rankP a).1) kN (Nat.le_trans b2 kN_big) x
      have e2 := gets_iff (g := kG a) (L := a.nx.length) (tidyOf (iota 0 a.n.toNat)) kN (Nat.le_trans b1 kN_big) x
      have e3 := gets_kern2 ha x
      rw [← e1, ← e2] at e3
      exact e3
  obtain ⟨s1, p1⟩ := buildR_ok lex_total (kT2 a kN).list
  obtain ⟨s2, p2⟩ := buildR_ok lex_total ((kT a kN).list.filter fun x => decide (clsN x = (rankA a : Int)))
  exact srtR_uniq lex_total _ _ s1 s2 ((p1.trans hp).trans p2.symm)
end
theorem total_le (m : Nat) : ∀ xs : List (List Int), (∀ x, x ∈ xs → x.length ≤ m) → total xs ≤ xs.length * m
  | [], _ => by simp [total]
  | x :: r, h => by
    have ih := total_le m r (fun y hy => h y (List.mem_cons_of_mem _ hy))
    have h1 := h x List.mem_cons_self
    have e : total (x :: r) = x.length + total r := by simp [total]
    rw [e, List.length_cons, Nat.succ_mul]
    omega
theorem LeastKernels_big (a : Aut) : (LeastKernels a).1.length ≤ 1048576 ∧ total (LeastKernels a).1 ≤ 1073741824 := by
  unfold LeastKernels
  split
  · rename_i ha
    have hn := autOk_n ha
    have hk := k_bok ha kN
    have hb := k_bound ha hk
    obtain ⟨T, hT⟩ : ∃ T, T = kT a kN := ⟨_, rfl⟩
    rw [← hT] at hk hb ⊢
    obtain ⟨_, hp⟩ := buildR_ok lex_total (T.list.filter fun x => decide (clsN x = (rankA a : Int)))
    have hl := hp.length_eq
    have hf := List.length_filter_le (fun x => decide (clsN x = (rankA a : Int))) T.list
    have ht := total_le 10 (buildR lexLt (T.list.filter fun x => decide (clsN x = (rankA a : Int)))) (fun x hx => by
      have h1 := (List.mem_filter.1 (hp.mem_iff.1 hx)).1
      have := (hk.ok x h1).len
      omega)
    constructor
    · show (buildR _ _).length ≤ _
      omega
    · show total (buildR _ _) ≤ _
      omega
  · simp [total]
end

end Go.Proofs.YtoeckejcmojeaaaGreat
