/- How many words of a length lead to each set. -/
import Derived.Test.YtnhjoiafadapaaaCore
import Derived.Test.YtnhjoiafadapaaaPlains
import Derived.WalkKit
import Derived.WalkSpells
import Derived.WalkLawsBesides
import Derived.Deep.QuietTactic
import Derived.Deep.OwnRows
import Derived.BigQuiet
import Derived.KernelRfl
namespace Go.Proofs.Ytnhjoiafadapaaa
open Go.RowKit

theorem sum_append_int (a b : List Int) : (a ++ b).sum = a.sum + b.sum := by
  induction a with
  | nil => simp
  | cons x r ih => simp [ih, Int.add_assoc]
/-- What the sets of a list give together, those of which d holds. -/
def sumD (S : List Nat) (d : Nat → Bool) (g : Nat → Int) : Int := (S.map fun F => if d F = true then g F else 0).sum
theorem sumD_none (S : List Nat) (g : Nat → Int) : sumD S (fun _ => false) g = 0 := by
  unfold sumD
  induction S with
  | nil => rfl
  | cons x r ih => simp at ih ⊢; exact ih
theorem sumD_congr (S : List Nat) (d d' : Nat → Bool) (g g' : Nat → Int) (h : ∀ F, F ∈ S → (if d F = true then g F else 0) = (if d' F = true then g' F else 0)) : sumD S d g = sumD S d' g' := by
  unfold sumD
  congr 1
  exact List.map_congr_left fun F hF => h F hF
theorem sumD_add : ∀ (S : List Nat) (d : Nat → Bool) (g : Nat → Int) (F : Nat), S.Nodup → F ∈ S → d F = false → sumD S (fun x => d x || x == F) g = sumD S d g + g F
  | [], _, _, F, _, h, _ => by simp at h
  | x :: r, d, g, F, hn, h, hd => by
    rw [List.nodup_cons] at hn
    unfold sumD
    simp only [List.map_cons, List.sum_cons]
    by_cases e : x = F
    · subst e
      have : (r.map fun y => if (d y || y == x) = true then g y else 0) = r.map fun y => if d y = true then g y else 0 := by
        apply List.map_congr_left
        intro y hy
        have : y ≠ x := fun e => hn.1 (e ▸ hy)
        simp [this]
      simp only [this, hd]
      simp; omega
    · have hm : F ∈ r := by
        rcases List.mem_cons.1 h with h | h
        · exact absurd h.symm e
        · exact h
      have ih := sumD_add r d g F hn.2 hm hd
      unfold sumD at ih
      rw [ih]
      have e' : (x == F) = false := by simpa using e
      simp only [e', Bool.or_false]
      omega
/-- What a set gives to another one by its first k letters. -/
def contrib (nx : List (List Int)) (cur : Nat → Int) (F G k : Nat) : Int := ((List.range k).map fun l => if moved (nth nx l) F = G then cur F else 0).sum
theorem contrib_zero (nx : List (List Int)) (cur : Nat → Int) (F G : Nat) : contrib nx cur F G 0 = 0 := rfl
theorem contrib_succ (nx : List (List Int)) (cur : Nat → Int) (F G k : Nat) : contrib nx cur F G (k + 1) = contrib nx cur F G k + if moved (nth nx k) F = G then cur F else 0 := by
  unfold contrib; rw [List.range_succ, List.map_append, sum_append_int]; simp
theorem contrib_nil (nx : List (List Int)) (cur : Nat → Int) (F G k : Nat) (h : cur F = 0) : contrib nx cur F G k = 0 := by
  induction k with
  | zero => rfl
  | succ k ih => rw [contrib_succ, ih, h]; simp
/-- How many words of a length lead from one set to each. -/
def cnt (nx : List (List Int)) (S : List Nat) (f : Nat) : Nat → Nat → Int
  | 0, G => if G = f then 1 else 0
  | k + 1, G => sumD S (fun _ => true) fun F => contrib nx (cnt nx S f k) F G nx.length
/-- The first i sets' part. -/
def sumTo (S : List Nat) (g : Nat → Int) (i : Nat) : Int := ((S.take i).map g).sum
theorem sumTo_zero (S : List Nat) (g : Nat → Int) : sumTo S g 0 = 0 := rfl
theorem sumTo_succ (S : List Nat) (g : Nat → Int) (i : Nat) (h : i < S.length) : sumTo S g (i + 1) = sumTo S g i + g (nth S i) := by
  unfold sumTo; rw [take_succ_nth S i h, List.map_append, sum_append_int]; simp
theorem sumTo_all (S : List Nat) (g : Nat → Int) : sumTo S g S.length = sumD S (fun _ => true) g := by
  unfold sumTo sumD; simp
/-- In 64 bits. -/
def w64 (x : Int) : Int := Go.RowKit.wrap64 x
theorem w64_add (x y : Int) : Go.RowKit.wrap64 (w64 x + w64 y) = w64 (x + y) := by unfold w64 Go.RowKit.wrap64; omega
theorem w64_zero : w64 0 = 0 := by unfold w64 Go.RowKit.wrap64; omega
theorem w64_one : w64 1 = 1 := by unfold w64 Go.RowKit.wrap64; omega
/-- All sets of a tour lead to sets of the tour. -/
theorem tStep_mem (nx : List (List Int)) (i l : Nat) (t : Tour) (x : Nat) (h : x ∈ t.sets) : x ∈ (tStep nx i l t).sets := by
  unfold tStep; split
  · exact h
  · simp [h]
theorem tStep_done (nx : List (List Int)) (i l : Nat) (t : Tour) : moved (nth nx l) (nth t.sets i) ∈ (tStep nx i l t).sets := by
  unfold tStep; split
  · rename_i h; rwa [contains_iff] at h
  · simp
theorem tRow_mem (nx : List (List Int)) (i : Nat) (t : Tour) (x : Nat) (h : x ∈ t.sets) : ∀ k, x ∈ (tRow nx i t k).sets
  | 0 => h
  | k + 1 => by rw [tRow_succ]; exact tStep_mem _ _ _ _ _ (tRow_mem nx i t x h k)
theorem tRow_done (nx : List (List Int)) (i : Nat) (t : Tour) (hi : i < t.sets.length) : ∀ k l, l < k → moved (nth nx l) (nth t.sets i) ∈ (tRow nx i t k).sets
  | 0, l, h => absurd h (by omega)
  | k + 1, l, h => by
    rw [tRow_succ]
    by_cases e : l = k
    · subst e
      have := tStep_done nx i l (tRow nx i t l)
      rwa [(tRow_sets nx i t l).2 i hi] at this
    · exact tStep_mem _ _ _ _ _ (tRow_done nx i t hi k l (by omega))
theorem tTo_done (nx : List (List Int)) (f : Nat) : ∀ k, (∀ i l, i < k → i < (tTo nx f k).sets.length → l < nx.length → moved (nth nx l) (nth (tTo nx f k).sets i) ∈ (tTo nx f k).sets)
  | 0, i, _, h, _, _ => absurd h (by omega)
  | k + 1, i, l, hi, hlen, hl => by
    have ih := tTo_done nx f k
    rw [tTo_succ] at hlen ⊢
    by_cases hk : k < (tTo nx f k).sets.length
    · rw [if_pos hk] at hlen ⊢
      have hs := tRow_sets nx k (tTo nx f k) nx.length
      have hi' : i < (tTo nx f k).sets.length := by omega
      rw [hs.2 i hi']
      by_cases e : i = k
      · subst e; exact tRow_done nx i _ hk _ l hl
      · exact tRow_mem _ _ _ _ (ih i l (by omega) hi' hl) _
    · rw [if_neg hk] at hlen ⊢
      exact ih i l (by omega) hlen hl
theorem tour_closed {a : Aut} (ha : autOk a = true) (f : Nat) (hf : f < 2 ^ a.n.toNat) (F : Nat) (hF : F ∈ (tourOf a.nx f).sets) (l : Nat) (hl : l < a.nx.length) : moved (nth a.nx l) F ∈ (tourOf a.nx f).sets := by
  obtain ⟨i, hi, rfl⟩ := mem_nth _ _ hF
  have h1 := (tourOk ha f hf).len (autOk_n ha).2
  exact tTo_done a.nx f 1024 i l (by unfold tourOf at h1 hi; omega) hi hl
def CountResets (a : Aut) (len : Int) : Int × Int :=
  if autOk a = true then (if inB len 0 20 = true then (w64 (sumD (tourOf a.nx (full a.n)).sets smallB (cnt a.nx (tourOf a.nx (full a.n)).sets (full a.n) len.toNat)), 0) else (0, 2)) else (0, 1)
def CountByRank (a : Aut) (len : Int) : List Int × Int :=
  if autOk a = true then (if inB len 0 20 = true then ((List.range (a.n.toNat + 1)).map fun k => w64 (sumD (tourOf a.nx (full a.n)).sets (fun F => (setOf F).length == k) (cnt a.nx (tourOf a.nx (full a.n)).sets (full a.n) len.toNat)), 0) else ([], 2)) else ([], 1)
/-- A row of N numbers. -/
def rowL (N : Nat) (f : Nat → Int) : List Int := (List.range N).map f
theorem rowL_len (N : Nat) (f : Nat → Int) : (rowL N f).length = N := by simp [rowL]
theorem nth_rowL (N : Nat) (f : Nat → Int) (i : Nat) (h : i < N) : nth (rowL N f) i = f i := by
  rw [nth_eq _ _ (by rw [rowL_len]; exact h)]; simp [rowL]
theorem rowL_set (N : Nat) (f : Nat → Int) (i : Nat) (x : Int) (h : i < N) : (rowL N f).set i x = rowL N (fun j => if j = i then x else f j) := by
  apply ext_nth
  · rw [List.length_set, rowL_len, rowL_len]
  · intro j hj
    rw [List.length_set, rowL_len] at hj
    rw [nth_set _ _ _ _ (by rw [rowL_len]; exact h), nth_rowL _ _ _ hj, nth_rowL _ _ _ hj]
theorem rowL_congr (N : Nat) (f g : Nat → Int) (h : ∀ i, i < N → f i = g i) : rowL N f = rowL N g := by
  apply ext_nth
  · rw [rowL_len, rowL_len]
  · intro j hj
    rw [rowL_len] at hj
    rw [nth_rowL _ _ _ hj, nth_rowL _ _ _ hj, h j hj]
theorem rowL_zero (N : Nat) : rowL N (fun _ => 0) = List.replicate N 0 := by
  apply ext_nth
  · rw [rowL_len]; simp
  · intro j hj
    rw [rowL_len] at hj
    rw [nth_rowL _ _ _ hj]; simp [nth, hj]
/-- What stands in the next row in the midst of a step. -/
def midAt (nx : List (List Int)) (S : List Nat) (cur : Nat → Int) (i l G : Nat) : Int := w64 (sumTo S (fun F => contrib nx cur F G nx.length) i + contrib nx cur (nth S i) G l)
theorem midAt_start (nx : List (List Int)) (S : List Nat) (cur : Nat → Int) (G : Nat) : midAt nx S cur 0 0 G = 0 := by
  unfold midAt; rw [sumTo_zero, contrib_zero]; exact w64_zero
theorem midAt_step (nx : List (List Int)) (S : List Nat) (cur : Nat → Int) (i l G : Nat) : midAt nx S cur i (l + 1) G = if G = moved (nth nx l) (nth S i) then Go.RowKit.wrap64 (midAt nx S cur i l G + w64 (cur (nth S i))) else midAt nx S cur i l G := by
  unfold midAt
  rw [contrib_succ]
  by_cases e : G = moved (nth nx l) (nth S i)
  · rw [if_pos e, if_pos e.symm, w64_add, Int.add_assoc]
  · rw [if_neg e, if_neg (fun h => e h.symm)]; simp
theorem midAt_next (nx : List (List Int)) (S : List Nat) (cur : Nat → Int) (i G : Nat) (h : i < S.length) : midAt nx S cur (i + 1) 0 G = midAt nx S cur i nx.length G := by
  unfold midAt
  rw [sumTo_succ _ _ _ h, contrib_zero]; simp
theorem midAt_end (nx : List (List Int)) (S : List Nat) (f k G : Nat) : midAt nx S (cnt nx S f k) S.length 0 G = w64 (cnt nx S f (k + 1) G) := by
  unfold midAt
  rw [sumTo_all, contrib_zero, cnt]; simp
theorem cnt_zero (nx : List (List Int)) (S : List Nat) (f G : Nat) : w64 (cnt nx S f 0 G) = if G = f then 1 else 0 := by
  rw [cnt]; split
  · exact w64_one
  · exact w64_zero
/-- The first i sets of which d holds. -/
def pickTo (S : List Nat) (d : Nat → Bool) (g : Nat → Int) (i : Nat) : Int := sumTo S (fun F => if d F = true then g F else 0) i
theorem pickTo_succ (S : List Nat) (d : Nat → Bool) (g : Nat → Int) (i : Nat) (h : i < S.length) : pickTo S d g (i + 1) = pickTo S d g i + if d (nth S i) = true then g (nth S i) else 0 := by
  unfold pickTo; rw [sumTo_succ _ _ _ h]
theorem pickTo_all (S : List Nat) (d : Nat → Bool) (g : Nat → Int) : pickTo S d g S.length = sumD S d g := by
  unfold pickTo; rw [sumTo_all]; unfold sumD; simp

end Go.Proofs.Ytnhjoiafadapaaa
