/- Parts of the proof that lean on no program: PlainLrk, PlainTrah, PlainRoad, PlainRoad2, PlainLrk2. -/
import Derived.Test.YtoeckejcmojeaaaGreatCore
import Derived.Test.YtoeckejcmojeaaaGreatPlains
import Derived.Test.YtoeckejcmojeaaaGreatJoins
import Derived.Test.YtoeckejcmojeaaaGreatQuicks
import Derived.Test.YtoeckejcmojeaaaGreatPOrds
import Derived.Test.YtoeckejcmojeaaaGreatPMerg
import Derived.Test.YtoeckejcmojeaaaGreatPKerns
import Derived.Test.YtoeckejcmojeaaaGreatPers
import Derived.Test.YtoeckejcmojeaaaGreatPQuos
import Derived.Test.YtoeckejcmojeaaaGreatPlainReset
import Derived.WalkKit
import Derived.WalkSpells
import Derived.WalkLawsBesides
import Derived.Deep.QuietTactic
import Derived.Deep.OwnRows
import Derived.BigQuiet
import Derived.KernelRfl
namespace Go.Proofs.YtoeckejcmojeaaaGreat
open Go.RowKit

section
theorem rank_pos {a : Aut} (ha : autOk a = true) (h7 : a.n ≤ 7) : 1 ≤ rankA a ∧ rankA a ≤ 7 := by
  have hn := autOk_n ha
  have hf : (setOf (full a.n)).length = a.n.toNat := pc_full (n := a.n.toNat) (by omega) (by omega)
  unfold rankA leastOf
  have hle := leastTo_le (tourOf a.nx (full a.n)).sets (setOf (full a.n)).length (tourOf a.nx (full a.n)).sets.length
  rw [hf] at hle ⊢
  refine ⟨?_, by omega⟩
  rcases leastTo_hit (tourOf a.nx (full a.n)).sets a.n.toNat _ (Nat.le_refl _) with h | ⟨j, hj, h⟩
  · rw [h]; omega
  · rw [← h]
    have hs := survey_sets ha h7 1024 _ (nth_mem _ _ hj)
    have := pc_step _ hs.2 hs.1
    show 1 ≤ pc (nth (tTo a.nx (full a.n) 1024).sets j)
    omega
theorem survey_rank {a : Aut} (ha : autOk a = true) (h7 : a.n ≤ 7) : (surveyOf a).1 = (rankA a : Int) := by
  have hn := autOk_n ha
  have hf : (setOf (full a.n)).length = a.n.toNat := pc_full (n := a.n.toNat) (by omega) (by omega)
  cases h : (firstWord smallB (tourOf a.nx (full a.n))).2 with
  | false =>
    unfold surveyOf rankA leastOf
    rw [hf]
    simp only [h]
    rfl
  | true =>
    rw [survey_yes h]
    have h1 := (rank_pos ha h7).1
    obtain ⟨F, hF, hs⟩ := (firstWord_iff smallB _).1 h
    obtain ⟨j, hj, rfl⟩ := mem_nth _ F hF
    have hb := survey_sets ha h7 1024 _ (nth_mem _ _ hj)
    have h2 : rankA a ≤ 1 := by
      unfold rankA leastOf
      have := leastTo_le_at (tourOf a.nx (full a.n)).sets (setOf (full a.n)).length _ (Nat.le_refl _) j hj
      have e : (setOf (nth (tourOf a.nx (full a.n)).sets j)).length = 1 := pc_small _ hb.2 hb.1 hs
      omega
    have e : rankA a = 1 := by omega
    rw [e]; rfl
def lrTo (f : Nat → Nat) : Nat → Nat × Nat
  | 0 => (8, 0)
  | n + 1 => if f n < (lrTo f n).1 then (f n, n) else lrTo f n
theorem lr_yes {f : Nat → Nat} {n : Nat} (h : f n < (lrTo f n).1) : lrTo f (n + 1) = (f n, n) := by
  show (if _ then _ else _) = _
  rw [if_pos h]
theorem lr_no {f : Nat → Nat} {n : Nat} (h : ¬ f n < (lrTo f n).1) : lrTo f (n + 1) = lrTo f n := by
  show (if _ then _ else _) = _
  rw [if_neg h]
theorem lr_le (f : Nat → Nat) : ∀ n i, i < n → (lrTo f n).1 ≤ f i
  | 0, _, h => by omega
  | n + 1, i, h => by
    by_cases hq : f n < (lrTo f n).1
    · rw [lr_yes hq]
      rcases Nat.lt_succ_iff_lt_or_eq.1 h with h | h
      · have := lr_le f n i h; simp only; omega
      · subst h; exact Nat.le_refl _
    · rw [lr_no hq]
      rcases Nat.lt_succ_iff_lt_or_eq.1 h with h | h
      · exact lr_le f n i h
      · subst h; omega
theorem lr_hit {f : Nat → Nat} (h8 : ∀ i, f i < 8) : ∀ n, 0 < n → (lrTo f n).2 < n ∧ f (lrTo f n).2 = (lrTo f n).1
  | 0, h => by omega
  | n + 1, _ => by
    by_cases hq : f n < (lrTo f n).1
    · rw [lr_yes hq]; exact ⟨Nat.lt_succ_self _, rfl⟩
    · rw [lr_no hq]
      rcases Nat.eq_zero_or_pos n with h | h
      · subst h; exact absurd (h8 0) hq
      · have := lr_hit h8 n h; exact ⟨by omega, this.2⟩
theorem lr_low (f : Nat → Nat) : ∀ n, (lrTo f n).1 ≤ 8
  | 0 => Nat.le_refl _
  | n + 1 => by
    have := lr_low f n
    by_cases hq : f n < (lrTo f n).1
    · rw [lr_yes hq]; simp only; omega
    · rw [lr_no hq]; exact this
theorem lr_at (f : Nat → Nat) : ∀ n, (lrTo f n).2 ≤ n
  | 0 => Nat.le_refl _
  | n + 1 => by
    have := lr_at f n
    by_cases hq : f n < (lrTo f n).1
    · rw [lr_yes hq]; exact Nat.le_succ _
    · rw [lr_no hq]; omega
theorem lr_stop {f : Nat → Nat} (h1 : ∀ i, 1 ≤ f i) {N : Nat} (h : (lrTo f N).1 ≤ 1) : ∀ d, lrTo f (N + d) = lrTo f N
  | 0 => rfl
  | d + 1 => by
    have ih := lr_stop h1 h d
    rw [← Nat.add_assoc, lr_no (by rw [ih]; have := h1 (N + d); omega), ih]
theorem lr_end {f : Nat → Nat} (h1 : ∀ i, 1 ≤ f i) {N C : Nat} (hN : N ≤ C) (h : N < C → 0 < N ∧ decide (1 < (lrTo f (N - 1 + 1)).1) = false) : lrTo f N = lrTo f C := by
  rcases Nat.lt_or_ge N C with q | q
  · obtain ⟨a, b⟩ := h q
    rw [show N - 1 + 1 = N by omega] at b
    have b := of_decide_eq_false b
    rw [show C = N + (C - N) by omega, lr_stop h1 (by omega)]
  · rw [show N = C by omega]
def rkN (r : Aut) (n : Nat) : Nat := rankA (colN r n)
theorem rkN_in {r : Aut} (hf : RoadsFacts r) (n : Nat) : 1 ≤ rkN r n ∧ rkN r n ≤ 7 := rank_pos (colN_ok hf n) (colN_n hf n)
theorem rkN_survey {r : Aut} (hf : RoadsFacts r) (n : Nat) : (surveyOf (colN r n)).1 = (rkN r n : Int) := survey_rank (colN_ok hf n) (colN_n hf n)
def LeastRank (r : Aut) : Int × Int × Int :=
  if roadsOk r = true then (if 50000 < colCount r then (0, 0, 3) else (((lrTo (rkN r) (colCount r)).1 : Nat), ((lrTo (rkN r) (colCount r)).2 : Nat), 0)) else (0, 0, 1)
end
section
theorem tr_least {P : Nat → Prop} (h : ∃ n, P n) : ∃ n, P n ∧ ∀ m, m < n → ¬ P m := by
  obtain ⟨n, hn⟩ := h
  induction n using Nat.strongRecOn with
  | ind n ih =>
    by_cases hx : ∃ m, m < n ∧ P m
    · obtain ⟨m, hm, hp⟩ := hx
      exact ih m hm hp
    · exact ⟨n, hn, fun m hm hp => hx ⟨m, hm, hp⟩⟩
theorem tr_most {P : Nat → Prop} (h : ∃ n, P n) (B : Nat) (hb : ∀ n, P n → n ≤ B) : ∃ n, P n ∧ ∀ m, P m → m ≤ n := by
  obtain ⟨d, ⟨hd, hP⟩, hmin⟩ := tr_least (P := fun d => d ≤ B ∧ P (B - d)) (by
    obtain ⟨n, hn⟩ := h
    exact ⟨B - n, by omega, by have := hb n hn; rwa [show B - (B - n) = n by omega]⟩)
  refine ⟨B - d, hP, fun m hm => ?_⟩
  have h1 := hb m hm
  rcases Nat.lt_or_ge (B - m) d with h2 | h2
  · exact absurd ⟨by omega, by rwa [show B - (B - m) = m by omega]⟩ (hmin (B - m) h2)
  · omega
theorem tr_sub {α : Type} : ∀ (l l' : List α), l.Nodup → (∀ x, x ∈ l → x ∈ l') → l.length ≤ l'.length
  | [], _, _, _ => by simp
  | x :: l, l', hn, hs => by
    obtain ⟨a, b, e⟩ := List.append_of_mem (hs x List.mem_cons_self)
    subst e
    rw [List.nodup_cons] at hn
    have := tr_sub l (a ++ b) hn.2 (fun y hy => by
      have h := hs y (List.mem_cons_of_mem _ hy)
      rw [List.mem_append, List.mem_cons] at h
      rw [List.mem_append]
      rcases h with h | h | h
      · exact Or.inl h
      · subst h; exact absurd hy hn.1
      · exact Or.inr h)
    simp at this ⊢
    omega
/-- A function, applied so many times. -/
def itn (f : Nat → Nat) : Nat → Nat → Nat
  | 0, s => s
  | j + 1, s => itn f j (f s)
theorem itn_add (f : Nat → Nat) : ∀ i j s, itn f (i + j) s = itn f j (itn f i s)
  | 0, j, s => by rw [Nat.zero_add]; rfl
  | i + 1, j, s => by rw [show i + 1 + j = (i + j) + 1 by omega]; exact itn_add f i j (f s)
theorem itn_succ (f : Nat → Nat) (j s : Nat) : itn f (j + 1) s = f (itn f j s) := itn_add f j 1 s
theorem itn_mem {V : List Nat} {f : Nat → Nat} (hf : ∀ s, s ∈ V → f s ∈ V) : ∀ j s, s ∈ V → itn f j s ∈ V
  | 0, _, h => h
  | j + 1, s, h => itn_mem hf j (f s) (hf s h)
theorem itn_mul {f : Nat → Nat} {c s : Nat} (h : itn f c s = s) : ∀ m, itn f (c * m) s = s
  | 0 => rfl
  | m + 1 => by rw [Nat.mul_succ, itn_add, itn_mul h m, h]
/-- A thing that comes back to itself. -/
def Cyc (f : Nat → Nat) (s : Nat) : Prop := ∃ j, 0 < j ∧ itn f j s = s
/-- How far something is from what comes back. -/
def Lev (f : Nat → Nat) (s j : Nat) : Prop := Cyc f (itn f j s) ∧ ∀ i, i < j → ¬ Cyc f (itn f i s)
theorem Cyc.step {f : Nat → Nat} {s : Nat} (h : Cyc f s) : Cyc f (f s) := by
  obtain ⟨j, h0, h1⟩ := h
  refine ⟨j, h0, ?_⟩
  have : itn f j (f s) = itn f (j + 1) s := rfl
  rw [this, itn_succ, h1]
theorem Cyc.itn {f : Nat → Nat} {s : Nat} (h : Cyc f s) : ∀ j, Cyc f (itn f j s)
  | 0 => h
  | j + 1 => by rw [itn_succ]; exact (Cyc.itn h j).step
theorem Cyc.ge {f : Nat → Nat} {s i j : Nat} (h : Cyc f (Go.Proofs.YtoeckejcmojeaaaGreat.itn f i s)) (hij : i ≤ j) : Cyc f (Go.Proofs.YtoeckejcmojeaaaGreat.itn f j s) := by
  have := h.itn (j - i)
  rwa [← itn_add, show i + (j - i) = j by omega] at this
theorem Cyc.back {f : Nat → Nat} {s : Nat} (h : Cyc f s) (j : Nat) : ∃ i, Go.Proofs.YtoeckejcmojeaaaGreat.itn f i (Go.Proofs.YtoeckejcmojeaaaGreat.itn f j s) = s := by
  obtain ⟨c, h0, h1⟩ := h
  refine ⟨c * (j + 1) - j, ?_⟩
  have h2 : j + 1 ≤ c * (j + 1) := Nat.le_mul_of_pos_left _ h0
  rw [← itn_add, show j + (c * (j + 1) - j) = c * (j + 1) by omega, itn_mul h1]
theorem Cyc.inj {f : Nat → Nat} {a b : Nat} (ha : Cyc f a) (hb : Cyc f b) (h : f a = f b) : a = b := by
  obtain ⟨i, i0, i1⟩ := ha
  obtain ⟨j, j0, j1⟩ := hb
  have e1 := itn_mul i1 j
  have e2 := itn_mul j1 i
  rw [Nat.mul_comm] at e2
  obtain ⟨m, hm⟩ : ∃ m, i * j = m + 1 := ⟨i * j - 1, by have := Nat.mul_pos i0 j0; omega⟩
  rw [hm] at e1 e2
  rw [← e1, ← e2]
  show Go.Proofs.YtoeckejcmojeaaaGreat.itn f m (f a) = Go.Proofs.YtoeckejcmojeaaaGreat.itn f m (f b)
  rw [h]
theorem Cyc.pred {f : Nat → Nat} {s : Nat} (h : Cyc f s) : ∃ z, Cyc f z ∧ f z = s := by
  obtain ⟨j, h0, h1⟩ := id h
  refine ⟨Go.Proofs.YtoeckejcmojeaaaGreat.itn f (j - 1) s, h.itn _, ?_⟩
  rw [← itn_succ f (j - 1) s, show j - 1 + 1 = j by omega, h1]
theorem Lev.uniq {f : Nat → Nat} {s i j : Nat} (hi : Lev f s i) (hj : Lev f s j) : i = j := by
  rcases Nat.lt_trichotomy i j with h | h | h
  · exact absurd hi.1 (hj.2 i h)
  · exact h
  · exact absurd hj.1 (hi.2 j h)
theorem Lev.shift {f : Nat → Nat} {s i j : Nat} (h : Lev f s j) (hi : i ≤ j) : Lev f (itn f i s) (j - i) := by
  refine ⟨?_, fun m hm => ?_⟩
  · rw [← itn_add, show i + (j - i) = j by omega]; exact h.1
  · rw [← itn_add]; exact h.2 _ (by omega)
theorem Lev.lt {f : Nat → Nat} {s i j : Nat} (h : Lev f s j) (hn : ¬ Cyc f (itn f i s)) : i < j := by
  rcases Nat.lt_or_ge i j with h1 | h1
  · exact h1
  · exact absurd (h.1.ge h1) hn
theorem Lev.inj {f : Nat → Nat} {s l i j : Nat} (h : Lev f s l) (hi : i < l) (hij : i < j) : itn f i s ≠ itn f j s := fun e => by
  refine h.2 i hi ⟨j - i, by omega, ?_⟩
  rw [← itn_add, show i + (j - i) = j by omega, e]
theorem lev_some {V : List Nat} {f : Nat → Nat} (hf : ∀ s, s ∈ V → f s ∈ V) {s : Nat} (hs : s ∈ V) : ∃ j, j ≤ V.length ∧ Lev f s j := by
  have h1 : ∃ i, i ≤ V.length ∧ Cyc f (itn f i s) := by
    by_cases h : ∃ i j, i < j ∧ j ≤ V.length ∧ itn f i s = itn f j s
    · obtain ⟨i, j, h1, h2, h3⟩ := h
      refine ⟨i, by omega, j - i, by omega, ?_⟩
      rw [← itn_add, show i + (j - i) = j by omega, h3]
    · exfalso
      have := tr_sub ((List.range (V.length + 1)).map fun i => itn f i s) V (by
        rw [List.nodup_iff_pairwise_ne, List.pairwise_map]
        refine List.Pairwise.imp_of_mem ?_ List.pairwise_lt_range
        intro a b ha hb hab e
        exact h ⟨a, b, hab, by have := List.mem_range.1 hb; omega, e⟩) (fun x hx => by
        obtain ⟨i, _, rfl⟩ := List.mem_map.1 hx
        exact itn_mem hf i s hs)
      simp at this
      omega
  obtain ⟨j, ⟨h2, h3⟩, h4⟩ := tr_least h1
  exact ⟨j, h2, h3, fun i hi hc => h4 i hi ⟨by omega, hc⟩⟩
/-- Two functions differ at one place at most. -/
def Ag (u : Nat) (f g : Nat → Nat) : Prop := ∀ x, x ≠ u → f x = g x
theorem Ag.symm {u : Nat} {f g : Nat → Nat} (h : Ag u f g) : Ag u g f := fun x hx => (h x hx).symm
theorem Ag.itn {u : Nat} {f g : Nat → Nat} (h : Ag u f g) (s : Nat) : ∀ j, (∀ i, i < j → itn f i s ≠ u) → itn g j s = itn f j s
  | 0, _ => rfl
  | j + 1, hj => by
    rw [itn_succ, itn_succ, h.itn s j (fun i hi => hj i (by omega)), h _ (hj j (by omega))]
theorem Ag.cyc {u : Nat} {f g : Nat → Nat} (h : Ag u f g) {s : Nat} (ha : ∀ i, Go.Proofs.YtoeckejcmojeaaaGreat.itn f i s ≠ u) (hc : Cyc f s) : Cyc g s := by
  obtain ⟨j, h0, h1⟩ := hc
  exact ⟨j, h0, by rw [h.itn s j (fun i _ => ha i), h1]⟩
theorem Ag.avoid {u : Nat} {f g : Nat → Nat} (h : Ag u f g) {s : Nat} (ha : ∀ i, Go.Proofs.YtoeckejcmojeaaaGreat.itn f i s ≠ u) (i : Nat) : Go.Proofs.YtoeckejcmojeaaaGreat.itn g i s ≠ u := by
  rw [h.itn s i (fun j _ => ha j)]; exact ha i
theorem Ag.cyc_iff {u : Nat} {f g : Nat → Nat} (h : Ag u f g) {s : Nat} (ha : ∀ i, Go.Proofs.YtoeckejcmojeaaaGreat.itn f i s ≠ u) : Cyc f s ↔ Cyc g s :=
  ⟨h.cyc ha, h.symm.cyc (h.avoid ha)⟩
theorem Ag.lev {u : Nat} {f g : Nat → Nat} (h : Ag u f g) {s j : Nat} (ha : ∀ i, Go.Proofs.YtoeckejcmojeaaaGreat.itn f i s ≠ u) (hl : Lev f s j) : Lev g s j := by
  have hs : ∀ i, ∀ m, Go.Proofs.YtoeckejcmojeaaaGreat.itn f m (Go.Proofs.YtoeckejcmojeaaaGreat.itn f i s) ≠ u := fun i m => by rw [← itn_add]; exact ha _
  refine ⟨?_, fun i hi => ?_⟩
  · rw [h.itn s j (fun i _ => ha i)]; exact h.cyc (hs j) hl.1
  · rw [h.itn s i (fun i _ => ha i)]
    exact fun hc => hl.2 i hi ((h.cyc_iff (hs i)).2 hc)
theorem Cyc.avoid {u : Nat} {f : Nat → Nat} {s : Nat} (h : Cyc f s) (hu : ¬ Cyc f u) (i : Nat) : Go.Proofs.YtoeckejcmojeaaaGreat.itn f i s ≠ u := fun e => hu (by rw [← e]; exact h.itn i)
theorem Ag.keep {u : Nat} {f g : Nat → Nat} (h : Ag u f g) {s : Nat} (hc : Cyc f s) (hu : ¬ Cyc f u) : Cyc g s := h.cyc (hc.avoid hu) hc
/-- A function, turned at one place. -/
def upd (f : Nat → Nat) (u p : Nat) : Nat → Nat := fun x => if x = u then p else f x
theorem upd_ag (f : Nat → Nat) (u p : Nat) : Ag u f (upd f u p) := fun x hx => by unfold upd; rw [if_neg hx]
theorem upd_at (f : Nat → Nat) (u p : Nat) : upd f u p u = p := by unfold upd; rw [if_pos rfl]
/-- Where a word leads. -/
def runN (E : Nat → Nat → Nat) : Nat → List Nat → Nat
  | s, [] => s
  | s, l :: w => runN E (E s l) w
theorem runN_append (E : Nat → Nat → Nat) : ∀ u s w, runN E s (u ++ w) = runN E (runN E s u) w
  | [], _, _ => rfl
  | l :: u, s, w => runN_append E u (E s l) w
def Lets (k : Nat) (w : List Nat) : Prop := ∀ l, l ∈ w → l < k
theorem Lets.append {k : Nat} {u w : List Nat} (hu : Lets k u) (hw : Lets k w) : Lets k (u ++ w) := fun l h => by
  rcases List.mem_append.1 h with h | h
  · exact hu l h
  · exact hw l h
theorem Lets.nil (k : Nat) : Lets k [] := fun _ h => by cases h
theorem Lets.rep {k : Nat} (hk : 0 < k) (j : Nat) : Lets k (List.replicate j 0) := fun l h => by rw [List.eq_of_mem_replicate h]; exact hk
theorem Lets.head {k l : Nat} {w : List Nat} (h : Lets k (l :: w)) : l < k ∧ Lets k w := ⟨h l List.mem_cons_self, fun x hx => h x (List.mem_cons_of_mem _ hx)⟩
/-- A connected graph with k edges out of each point. -/
structure Gr (V : List Nat) (k : Nat) (E : Nat → Nat → Nat) : Prop where
  nodup : V.Nodup
  pos : 0 < V.length
  kpos : 0 < k
  cl : ∀ s, s ∈ V → ∀ l, l < k → E s l ∈ V
  conn : ∀ s t, s ∈ V → t ∈ V → ∃ w, Lets k w ∧ runN E s w = t
theorem runN_mem {V : List Nat} {k : Nat} {E : Nat → Nat → Nat} (cl : ∀ s, s ∈ V → ∀ l, l < k → E s l ∈ V) : ∀ w s, s ∈ V → Lets k w → runN E s w ∈ V
  | [], _, h, _ => h
  | l :: w, s, h, hw => runN_mem cl w (E s l) (cl s h l hw.head.1) hw.head.2
/-- The letters changed about at each point. -/
def Recol (V : List Nat) (k : Nat) (E D : Nat → Nat → Nat) : Prop :=
  ∃ a b : Nat → Nat → Nat, ∀ s, s ∈ V → ∀ l, l < k → a s l < k ∧ b s l < k ∧ a s (b s l) = l ∧ b s (a s l) = l ∧ D s l = E s (a s l)
theorem Recol.refl (V : List Nat) (k : Nat) (E : Nat → Nat → Nat) : Recol V k E E := ⟨fun _ l => l, fun _ l => l, fun _ _ _ h => ⟨h, h, rfl, rfl, rfl⟩⟩
theorem Recol.some {V : List Nat} {k : Nat} {E D : Nat → Nat → Nat} (h : Recol V k E D) {s l : Nat} (hs : s ∈ V) (hl : l < k) : (∃ m, m < k ∧ D s m = E s l) ∧ ∃ m, m < k ∧ E s m = D s l := by
  obtain ⟨a, b, h⟩ := h
  obtain ⟨h1, h2, h3, h4, h5⟩ := h s hs l hl
  refine ⟨⟨b s l, h2, ?_⟩, ⟨a s l, h1, h5.symm⟩⟩
  rw [(h s hs (b s l) h2).2.2.2.2, h3]
theorem Recol.gr {V : List Nat} {k : Nat} {E D : Nat → Nat → Nat} (h : Recol V k E D) (g : Gr V k E) : Gr V k D where
  nodup := g.nodup
  pos := g.pos
  kpos := g.kpos
  cl := fun s hs l hl => by
    obtain ⟨_, m, hm, e⟩ := h.some hs hl
    rw [← e]; exact g.cl s hs m hm
  conn := fun s t hs ht => by
    obtain ⟨w, hw, e⟩ := g.conn s t hs ht
    clear ht
    induction w generalizing s with
    | nil => exact ⟨[], Lets.nil k, e⟩
    | cons l w ih =>
      obtain ⟨h1, h2⟩ := hw.head
      obtain ⟨v, hv, e2⟩ := ih (E s l) (g.cl s hs l h1) h2 e
      obtain ⟨⟨m, hm, e3⟩, _⟩ := h.some hs h1
      refine ⟨m :: v, fun x hx => ?_, ?_⟩
      · rcases List.mem_cons.1 hx with rfl | hx
        · exact hm
        · exact hv x hx
      · show runN D (D s m) v = t
        rw [e3]; exact e2
/-- A choice of an edge out of each point. -/
def Sel (V : List Nat) (k : Nat) (E : Nat → Nat → Nat) (f : Nat → Nat) : Prop := ∀ s, s ∈ V → ∃ l, l < k ∧ E s l = f s
theorem Sel.cl {V : List Nat} {k : Nat} {E : Nat → Nat → Nat} {f : Nat → Nat} (h : Sel V k E f) (g : Gr V k E) (s : Nat) (hs : s ∈ V) : f s ∈ V := by
  obtain ⟨l, hl, e⟩ := h s hs
  rw [← e]; exact g.cl s hs l hl
theorem Sel.upd {V : List Nat} {k : Nat} {E : Nat → Nat → Nat} {f : Nat → Nat} (h : Sel V k E f) (u : Nat) {l : Nat} (hl : l < k) : Sel V k E (Go.Proofs.YtoeckejcmojeaaaGreat.upd f u (E u l)) := fun s hs => by
  unfold Go.Proofs.YtoeckejcmojeaaaGreat.upd
  by_cases e : s = u
  · subst e; exact ⟨l, hl, by rw [if_pos rfl]⟩
  · rw [if_neg e]; exact h s hs
theorem Sel.col {V : List Nat} {k : Nat} {E : Nat → Nat → Nat} {f : Nat → Nat} (h : Sel V k E f) (hk : 0 < k) : ∃ D, Recol V k E D ∧ ∀ s, s ∈ V → D s 0 = f s := by
  have h2 : ∀ s, ∃ l, s ∈ V → l < k ∧ E s l = f s := fun s => by
    by_cases hs : s ∈ V
    · obtain ⟨l, q⟩ := h s hs; exact ⟨l, fun _ => q⟩
    · exact ⟨0, fun q => absurd q hs⟩
  obtain ⟨c, hc⟩ := Classical.axiomOfChoice h2
  let a : Nat → Nat → Nat := fun s l => if l = 0 then c s else if l = c s then 0 else l
  have ha : ∀ s, s ∈ V → ∀ l, l < k → a s l < k ∧ a s (a s l) = l := fun s hs l hl => by
    have := (hc s hs).1
    show (if l = 0 then c s else if l = c s then 0 else l) < k ∧ (if (if l = 0 then c s else if l = c s then 0 else l) = 0 then c s else if (if l = 0 then c s else if l = c s then 0 else l) = c s then 0 else (if l = 0 then c s else if l = c s then 0 else l)) = l
    by_cases e1 : l = 0
    · subst e1
      simp only [if_true]
      refine ⟨this, ?_⟩
      by_cases e2 : c s = 0
      · rw [if_pos e2, e2]
      · rw [if_neg e2]
    · by_cases e2 : l = c s
      · rw [if_neg e1, if_pos e2]; exact ⟨hk, by rw [if_pos rfl, e2]⟩
      · simp only [if_neg e1, if_neg e2]; exact ⟨hl, trivial⟩
  refine ⟨fun s l => E s (a s l), ⟨a, a, fun s hs l hl => ⟨(ha s hs l hl).1, (ha s hs l hl).1, (ha s hs l hl).2, (ha s hs l hl).2, rfl⟩⟩, fun s hs => ?_⟩
  show E s (a s 0) = f s
  rw [← (hc s hs).2]
  show E s (if (0:Nat) = 0 then c s else _) = _
  rw [if_pos rfl]
/-- Two points that some word leads to one. -/
def Mg (k : Nat) (D : Nat → Nat → Nat) (p q : Nat) : Prop := ∃ w, Lets k w ∧ runN D p w = runN D q w
/-- Two points that can be led to one, wherever a word leads them. -/
def Stab (k : Nat) (D : Nat → Nat → Nat) (p q : Nat) : Prop := ∀ u, Lets k u → Mg k D (runN D p u) (runN D q u)
def Clq (V : List Nat) (k : Nat) (D : Nat → Nat → Nat) (M : List Nat) : Prop := (∀ x, x ∈ M → x ∈ V) ∧ M.Pairwise fun a b => ¬ Mg k D a b
theorem Mg.refl (k : Nat) (D : Nat → Nat → Nat) (p : Nat) : Mg k D p p := ⟨[], Lets.nil k, rfl⟩
theorem Mg.symm {k : Nat} {D : Nat → Nat → Nat} {p q : Nat} (h : Mg k D p q) : Mg k D q p := let ⟨w, a, b⟩ := h; ⟨w, a, b.symm⟩
theorem Mg.of {k : Nat} {D : Nat → Nat → Nat} {p q : Nat} {u : List Nat} (hu : Lets k u) (h : Mg k D (runN D p u) (runN D q u)) : Mg k D p q := by
  obtain ⟨w, a, b⟩ := h
  exact ⟨u ++ w, hu.append a, by rw [runN_append, runN_append, b]⟩
theorem Clq.len {V : List Nat} {k : Nat} {D : Nat → Nat → Nat} {M : List Nat} (h : Clq V k D M) : M.length ≤ V.length := by
  refine tr_sub M V ?_ h.1
  rw [List.nodup_iff_pairwise_ne]
  exact h.2.imp fun {a b} hn (e : a = b) => hn (by rw [e]; exact Mg.refl _ _ _)
theorem Clq.run {V : List Nat} {k : Nat} {D : Nat → Nat → Nat} {M u : List Nat} (g : Gr V k D) (h : Clq V k D M) (hu : Lets k u) : Clq V k D (M.map fun x => runN D x u) := by
  refine ⟨fun x hx => ?_, ?_⟩
  · obtain ⟨y, hy, rfl⟩ := List.mem_map.1 hx
    exact runN_mem g.cl u y (h.1 y hy) hu
  · rw [List.pairwise_map]
    exact h.2.imp fun hn hm => hn (Mg.of hu hm)
theorem runN_rep (D : Nat → Nat → Nat) : ∀ j s, runN D s (List.replicate j 0) = itn (fun x => D x 0) j s
  | 0, _ => rfl
  | j + 1, s => runN_rep D j (D s 0)
theorem common (f : Nat → Nat) : ∀ L : List Nat, (∀ y, y ∈ L → Cyc f y) → ∃ m, 0 < m ∧ ∀ y, y ∈ L → itn f m y = y
  | [], _ => ⟨1, by omega, fun _ h => by cases h⟩
  | x :: L, h => by
    obtain ⟨m, m0, hm⟩ := common f L fun y hy => h y (List.mem_cons_of_mem _ hy)
    obtain ⟨j, j0, hj⟩ := h x List.mem_cons_self
    refine ⟨m * j, Nat.mul_pos m0 j0, fun y hy => ?_⟩
    rcases List.mem_cons.1 hy with rfl | hy
    · rw [Nat.mul_comm]; exact itn_mul hj m
    · exact itn_mul (hm y hy) j
/-- If all the farthest points lead to one and the same, then there is a stable pair. -/
theorem stab_of {V : List Nat} {k : Nat} {D : Nat → Nat → Nat} (g : Gr V k D) {f : Nat → Nat} (hf : ∀ s, s ∈ V → D s 0 = f s) {l p : Nat} (hl : 0 < l) (hp : p ∈ V) (hlp : Lev f p l)
    (hmax : ∀ s, s ∈ V → ∀ j, Lev f s j → j ≤ l) (huni : ∀ s, s ∈ V → Lev f s l → itn f l s = itn f l p) :
    ∃ s t, s ∈ V ∧ t ∈ V ∧ s ≠ t ∧ Stab k D s t := by
  have hfc : ∀ s, s ∈ V → f s ∈ V := fun s hs => by rw [← hf s hs]; exact g.cl s hs 0 g.kpos
  have hrep : ∀ j s, s ∈ V → runN D s (List.replicate j 0) = itn f j s := fun j => by
    induction j with
    | zero => intro s _; rfl
    | succ j ih => intro s hs; show runN D (D s 0) (List.replicate j 0) = itn f j (f s); rw [hf s hs]; exact ih _ (hfc s hs)
  obtain ⟨n, ⟨M, hM, hMn⟩, hbig⟩ := tr_most (P := fun n => ∃ M, Clq V k D M ∧ M.length = n) ⟨1, [p], ⟨fun x hx => by simp at hx; subst hx; exact hp, List.pairwise_singleton _ _⟩, rfl⟩ V.length (by rintro n ⟨M, h, rfl⟩; exact h.len)
  have hn1 := hbig 1 ⟨[p], ⟨fun x hx => by simp at hx; subst hx; exact hp, List.pairwise_singleton _ _⟩, rfl⟩
  obtain ⟨x, M', rfl⟩ : ∃ x M', M = x :: M' := by
    cases M with
    | nil => simp at hMn; omega
    | cons x M' => exact ⟨x, M', rfl⟩
  obtain ⟨u, hu, hxp⟩ := g.conn x p (hM.1 x List.mem_cons_self) hp
  have hM1 := hM.run g hu
  rw [List.map_cons, hxp] at hM1
  generalize hK1 : (M'.map fun x => runN D x u) = K1 at hM1
  have hK1n : K1.length + 1 = n := by rw [← hK1, List.length_map, ← hMn, List.length_cons]
  have hM2 := hM1.run g (Lets.rep g.kpos (l - 1))
  rw [List.map_cons, hrep _ _ hp] at hM2
  have hK2 : (K1.map fun x => runN D x (List.replicate (l - 1) 0)) = K1.map fun x => itn f (l - 1) x := List.map_congr_left fun y hy => hrep _ _ (hM1.1 y (List.mem_cons_of_mem _ hy))
  rw [hK2] at hM2
  have hcyc : ∀ z, z ∈ (K1.map fun x => itn f (l - 1) x) → Cyc f z := fun z hz => by
    obtain ⟨y, hy, rfl⟩ := List.mem_map.1 hz
    have hyV := hM1.1 y (List.mem_cons_of_mem _ hy)
    obtain ⟨j, _, hj⟩ := lev_some hfc hyV
    have h1 := hmax y hyV j hj
    have h2 : j ≠ l := fun e => by
      subst e
      refine (List.pairwise_cons.1 hM1.2).1 y hy ⟨List.replicate j 0, Lets.rep g.kpos j, ?_⟩
      rw [hrep _ _ hp, hrep _ _ hyV, huni y hyV hj]
    exact hj.1.ge (by omega)
  obtain ⟨m, m0, hm⟩ := common f _ hcyc
  have hsV : itn f (l - 1) p ∈ V := itn_mem hfc _ _ hp
  have hM3 := hM2.run g (Lets.rep g.kpos m)
  rw [List.map_cons, hrep _ _ hsV] at hM3
  have hK3 : ((K1.map fun x => itn f (l - 1) x).map fun x => runN D x (List.replicate m 0)) = K1.map fun x => itn f (l - 1) x := by
    refine (List.map_congr_left (g := id) fun y hy => ?_).trans (List.map_id _)
    rw [hrep _ _ (hM2.1 y (List.mem_cons_of_mem _ hy)), hm y hy]; rfl
  rw [hK3] at hM3
  generalize (K1.map fun x => itn f (l - 1) x) = K2 at hK3 hM2 hM3 hcyc hm hK2
  have hK2n : K2.length + 1 = n := by rw [← hK1n, ← hK2, List.length_map]
  have hnc : ¬ Cyc f (itn f (l - 1) p) := hlp.2 _ (by omega)
  have hcy : Cyc f (itn f m (itn f (l - 1) p)) := by
    rw [← itn_add, show l - 1 + m = l + (m - 1) by omega, itn_add]
    exact hlp.1.itn _
  generalize itn f (l - 1) p = s at hM2 hM3 hsV hnc hcy
  have htV : itn f m s ∈ V := itn_mem hfc _ _ hsV
  generalize itn f m s = t at hM3 hcy htV
  refine ⟨s, t, hsV, htV, fun e => hnc (e ▸ hcy), fun v hv => ?_⟩
  refine Classical.byContradiction fun hno => ?_
  have h2 := hM2.run g hv
  have h3 := hM3.run g hv
  rw [List.map_cons] at h2 h3
  have := hbig (K2.length + 2) ⟨runN D s v :: runN D t v :: K2.map (fun x => runN D x v), ⟨fun y hy => ?_, ?_⟩, by simp⟩
  · omega
  · rcases List.mem_cons.1 hy with rfl | hy
    · exact h2.1 _ List.mem_cons_self
    · exact h3.1 _ hy
  · refine List.pairwise_cons.2 ⟨fun y hy => ?_, h3.2⟩
    rcases List.mem_cons.1 hy with rfl | hy
    · exact hno
    · exact (List.pairwise_cons.1 h2.2).1 y hy
/-- A stable pair under no change of the letters. -/
def NoStab (V : List Nat) (k : Nat) (E : Nat → Nat → Nat) : Prop := ∀ D, Recol V k E D → ∀ p q, p ∈ V → q ∈ V → Stab k D p q → p = q
theorem no_uniq {V : List Nat} {k : Nat} {E : Nat → Nat → Nat} (g : Gr V k E) (H : NoStab V k E) {f : Nat → Nat} (hs : Sel V k E f) (l r : Nat)
    (h1 : ∃ x, x ∈ V ∧ ∃ j, l < j ∧ Lev f x j) (h2 : ∀ x, x ∈ V → ∀ j, l < j → Lev f x j → itn f j x = r) : False := by
  obtain ⟨D, hD, hf⟩ := hs.col g.kpos
  have hfc : ∀ s, s ∈ V → f s ∈ V := fun s h => hs.cl g s h
  obtain ⟨x0, hx0, j0, hj0, hl0⟩ := h1
  obtain ⟨n, ⟨x, hx, hn⟩, hbig⟩ := tr_most (P := fun n => ∃ x, x ∈ V ∧ Lev f x n) ⟨j0, x0, hx0, hl0⟩ V.length (by
    rintro n ⟨x, hx, hl⟩
    obtain ⟨j, hj, hl2⟩ := lev_some hfc hx
    rw [hl.uniq hl2]; exact hj)
  have h3 := hbig j0 ⟨x0, hx0, hl0⟩
  obtain ⟨s, t, a, b, c, d⟩ := stab_of (hD.gr g) hf (show 0 < n by omega) hx hn (fun s hs j hj => hbig j ⟨s, hs, hj⟩) (fun s hs hl => by rw [h2 s hs n (by omega) hl, h2 x hx n (by omega) hn])
  exact c (H D hD s t a b d)
theorem no_two {V : List Nat} {k : Nat} {E : Nat → Nat → Nat} (g : Gr V k E) (H : NoStab V k E) {p q r : Nat} (hp : p ∈ V) (hq : q ∈ V) (h1 : ∀ l, l < k → E p l = r) (h2 : ∀ l, l < k → E q l = r) : p = q := by
  refine H E (Recol.refl V k E) p q hp hq fun u hu => ?_
  cases u with
  | nil => exact ⟨[0], fun l hl => by simp at hl; subst hl; exact g.kpos, by show E p 0 = E q 0; rw [h1 0 g.kpos, h2 0 g.kpos]⟩
  | cons l w =>
    show Mg k E (runN E (E p l) w) (runN E (E q l) w)
    rw [h1 l hu.head.1, h2 l hu.head.1]
    exact Mg.refl _ _ _
/-- What is asked of a count of the points that come back to themselves. -/
structure CntOk (V : List Nat) (c : (Nat → Nat) → Nat) : Prop where
  le : ∀ f, c f ≤ V.length
  same : ∀ f g, (∀ x, Cyc f x ↔ Cyc g x) → c f = c g
  more : ∀ (f g : Nat → Nat) (L B : List Nat), (∀ x, x ∈ V → Cyc f x → ¬ Cyc g x → x ∈ L) → B.Nodup → (∀ x, x ∈ B → x ∈ V ∧ Cyc g x ∧ ¬ Cyc f x) → c f + B.length ≤ c g + L.length
theorem filter_split (V : List Nat) (P Q : Nat → Bool) : (V.filter P).length = (V.filter fun v => P v && Q v).length + (V.filter fun v => P v && !Q v).length := by
  induction V with
  | nil => rfl
  | cons x V ih =>
    simp only [List.filter_cons]
    cases hp : P x <;> cases hq : Q x <;> simp only [Bool.and_true, Bool.and_false, Bool.not_true, Bool.not_false, if_true, List.length_cons, Bool.false_eq_true, if_false] <;> omega
theorem cnt_some {V : List Nat} (hV : V.Nodup) : ∃ c, CntOk V c := by
  have hP : ∀ f : Nat → Nat, ∃ P : Nat → Bool, ∀ x, P x = true ↔ Cyc f x := fun f =>
    ⟨fun x => @decide (Cyc f x) (Classical.propDecidable _), fun x => @decide_eq_true_iff _ (Classical.propDecidable _)⟩
  obtain ⟨P, hP⟩ := Classical.axiomOfChoice hP
  refine ⟨fun f => (V.filter (P f)).length, fun f => List.length_filter_le _ _, fun f g h => ?_, fun f g L B hL hBn hB => ?_⟩
  · show (V.filter (P f)).length = (V.filter (P g)).length
    congr 2
    funext x
    rw [Bool.eq_iff_iff, hP, hP]
    exact h x
  · have e1 := filter_split V (P f) (P g)
    have e2 := filter_split V (P g) (P f)
    have e3 : (V.filter fun v => P f v && P g v).length = (V.filter fun v => P g v && P f v).length := by
      congr 2
      funext x
      exact Bool.and_comm _ _
    have h1 := tr_sub (V.filter fun v => P f v && !P g v) L (by
      rw [List.nodup_iff_pairwise_ne] at hV ⊢
      exact hV.filter _) (fun x hx => by
      rw [List.mem_filter, Bool.and_eq_true, Bool.not_eq_true', hP] at hx
      refine hL x hx.1 hx.2.1 (fun hc => ?_)
      rw [(hP g x).2 hc] at hx
      exact absurd hx.2.2 (by simp))
    have h2 := tr_sub B (V.filter fun v => P g v && !P f v) hBn (fun x hx => by
      obtain ⟨a, b, d⟩ := hB x hx
      rw [List.mem_filter, Bool.and_eq_true, Bool.not_eq_true', hP]
      refine ⟨a, b, ?_⟩
      cases e : P f x with
      | false => rfl
      | true => exact absurd ((hP f x).1 e) d)
    show (V.filter (P f)).length + B.length ≤ (V.filter (P g)).length + L.length
    omega
theorem cnt_lt {V : List Nat} {c : (Nat → Nat) → Nat} (hc : CntOk V c) {f g : Nat → Nat} (h : ∀ x, x ∈ V → Cyc f x → Cyc g x) {p : Nat} (hp : p ∈ V) (h1 : ¬ Cyc f p) (h2 : Cyc g p) : c f < c g := by
  have := hc.more f g [] [p] (fun x hx a b => absurd (h x hx a) b) (List.nodup_cons.2 ⟨by simp, by simp⟩) (fun x hx => by simp at hx; subst hx; exact ⟨hp, h2, h1⟩)
  simp at this
  omega
def MaxSel (V : List Nat) (k : Nat) (E : Nat → Nat → Nat) (c : (Nat → Nat) → Nat) (f : Nat → Nat) : Prop := Sel V k E f ∧ ∀ g, Sel V k E g → c g ≤ c f
theorem maxsel_some {V : List Nat} {k : Nat} {E : Nat → Nat → Nat} (g : Gr V k E) {c : (Nat → Nat) → Nat} (hc : CntOk V c) : ∃ f, MaxSel V k E c f := by
  obtain ⟨n, ⟨f, hf, hn⟩, hbig⟩ := tr_most (P := fun n => ∃ f, Sel V k E f ∧ c f = n) ⟨_, fun s => E s 0, fun s _ => ⟨0, g.kpos, rfl⟩, rfl⟩ V.length (by rintro n ⟨f, _, rfl⟩; exact hc.le f)
  exact ⟨f, hf, fun h hh => by rw [hn]; exact hbig _ ⟨h, hh, rfl⟩⟩
/-- Farthest points: none is farther. -/
def Far (V : List Nat) (f : Nat → Nat) (l : Nat) : Prop := ∀ x, x ∈ V → ∀ j, Lev f x j → j ≤ l
theorem in_edge {V : List Nat} {k : Nat} {E : Nat → Nat → Nat} (g : Gr V k E) {f : Nat → Nat} (hs : Sel V k E f) {l p : Nat} (hl : 0 < l) (hp : p ∈ V) (hlp : Lev f p l) (hfar : Far V f l) :
    ∃ u m, u ∈ V ∧ m < k ∧ E u m = p ∧ f u ≠ p := by
  have hnc : ¬ Cyc f p := hlp.2 0 hl
  obtain ⟨w, hw, e⟩ := g.conn (f p) p (hs.cl g p hp) hp
  rcases List.eq_nil_or_concat w with h0 | ⟨w', m, h0⟩
  · subst h0
    exact absurd ⟨1, by omega, e⟩ hnc
  · have h0' : w = w' ++ [m] := by rw [h0]; simp
    subst h0'
    rw [runN_append] at e
    have hu : runN E (f p) w' ∈ V := runN_mem g.cl w' _ (hs.cl g p hp) fun x hx => hw x (List.mem_append_left _ hx)
    refine ⟨runN E (f p) w', m, hu, hw m (List.mem_append_right _ (List.mem_singleton_self m)), e, fun e2 => ?_⟩
    generalize runN E (f p) w' = u at hu e2
    have : Lev f u (l + 1) := by
      refine ⟨?_, fun i hi => ?_⟩
      · show Cyc f (itn f l (f u)); rw [e2]; exact hlp.1
      · cases i with
        | zero => exact fun h => hnc (by have h3 : Cyc f u := h; have := h3.step; rwa [e2] at this)
        | succ i => show ¬ Cyc f (itn f i (f u)); rw [e2]; exact hlp.2 i (by omega)
    have := hfar u hu _ this
    omega
/-- All points come back to themselves: one edge turned leaves one tree. -/
theorem case_one {V : List Nat} {k : Nat} {E : Nat → Nat → Nat} (g : Gr V k E) (H : NoStab V k E) {f : Nat → Nat} (hs : Sel V k E f) (hall : ∀ x, x ∈ V → Cyc f x) {p m : Nat} (hp : p ∈ V) (hm : m < k) (hne : E p m ≠ f p) : False := by
  have hs2 := hs.upd p hm
  have hc2 : ∀ s, s ∈ V → upd f p (E p m) s ∈ V := fun s h => hs2.cl g s h
  have hat := upd_at f p (E p m)
  have hag := upd_ag f p (E p m)
  generalize upd f p (E p m) = h at hs2 hc2 hat hag
  have hinj : ∀ a b, a ∈ V → b ∈ V → f a = f b → a = b := fun a b ha hb e => (hall a ha).inj (hall b hb) e
  refine no_uniq g H hs2 0 (E p m) ?_ ?_
  · have hq : ¬ Cyc h (f p) := fun hc => by
      obtain ⟨j, j0, hj⟩ := hc
      obtain ⟨i, rfl⟩ : ∃ i, j = i + 1 := ⟨j - 1, by omega⟩
      rw [itn_succ] at hj
      have hx : itn h i (f p) ∈ V := itn_mem hc2 i _ (hs.cl g p hp)
      generalize itn h i (f p) = x at hj hx
      by_cases e : x = p
      · subst e; rw [hat] at hj; exact hne hj
      · rw [← hag x e] at hj
        exact e (hinj x p hx hp hj)
    obtain ⟨j, _, hj⟩ := lev_some hc2 (hs.cl g p hp)
    refine ⟨f p, hs.cl g p hp, j, ?_, hj⟩
    rcases Nat.eq_zero_or_pos j with e | e
    · subst e; exact absurd hj.1 hq
    · exact e
  · intro x hx j hj hl
    obtain ⟨i, rfl⟩ : ∃ i, j = i + 1 := ⟨j - 1, by omega⟩
    have hz := hl.2 i (by omega)
    have hzV : itn h i x ∈ V := itn_mem hc2 i _ hx
    have hy := hl.1
    rw [itn_succ] at hy ⊢
    generalize itn h i x = z at hz hzV hy
    obtain ⟨z2, hz2, e2⟩ := hy.pred
    have hz2V : z2 ∈ V := by
      obtain ⟨i2, hi2⟩ := hz2.back 1
      rw [show itn h 1 z2 = h z2 from rfl, e2] at hi2
      rw [← hi2]; exact itn_mem hc2 _ _ (hc2 z hzV)
    by_cases e : z = p
    · subst e; exact hat
    · by_cases e3 : z2 = p
      · subst e3; rw [← e2]; exact hat
      · exfalso
        rw [← hag z e, ← hag z2 e3] at e2
        have := hinj z2 z hz2V hzV e2
        subst this
        exact hz hz2
/-- An edge into a farthest point turned: the new tree lies as far from the same root. -/
theorem turn_in {V : List Nat} {k : Nat} {E : Nat → Nat → Nat} (g : Gr V k E) (H : NoStab V k E) {c : (Nat → Nat) → Nat} (hc : CntOk V c) {f : Nat → Nat} (hM : MaxSel V k E c f) {l p u m : Nat} (hl : 0 < l) (hp : p ∈ V) (hlp : Lev f p l) (hfar : Far V f l)
    (hu : u ∈ V) (hm : m < k) (hup : E u m = p) (_hne : f u ≠ p) :
    Cyc f u ∧ itn f l (f u) = itn f l p ∧ MaxSel V k E c (upd f u p) ∧ Far V (upd f u p) l ∧ Lev (upd f u p) (f u) l ∧ ∀ d, d ≤ l → itn (upd f u p) d (f u) = itn f d (f u) := by
  have hs := hM.1
  have hfc : ∀ s, s ∈ V → f s ∈ V := fun s h => hs.cl g s h
  have hs1 := hs.upd u hm
  rw [hup] at hs1
  have hc1 : ∀ s, s ∈ V → upd f u p s ∈ V := fun s h => hs1.cl g s h
  have hat := upd_at f u p
  have hag := upd_ag f u p
  generalize upd f u p = h at hs1 hc1 hat hag ⊢
  have hnp : ¬ Cyc f p := hlp.2 0 hl
  by_cases hx : ∃ i, itn f i p = u
  · obtain ⟨i, hi, himin⟩ := tr_least hx
    -- the way from p to u is as it was
    have hway : ∀ j, j ≤ i → itn h j p = itn f j p := fun j hj => hag.itn p j fun a ha e => himin a (by omega) e
    have hpc : itn h (i + 1) p = p := by rw [itn_succ, hway i (Nat.le_refl _), hi, hat]
    have hcp : Cyc h p := ⟨i + 1, by omega, hpc⟩
    have hcj : ∀ j, j ≤ i → Cyc h (itn f j p) := fun j hj => by rw [← hway j hj]; exact hcp.itn j
    have hcu : Cyc h u := by rw [← hi]; exact hcj i (Nat.le_refl _)
    have hfu : Cyc f u := Classical.byContradiction fun hnc => by
      have h1 := hM.2 h hs1
      have h2 := cnt_lt hc (f := f) (g := h) (fun x _ hc => hag.keep hc hnc) hp hnp hcp
      omega
    have hil : l ≤ i := by
      rcases Nat.lt_or_ge i l with h1 | h1
      · exact absurd (hi ▸ hfu) (hlp.2 i h1)
      · exact h1
    obtain ⟨v, hv⟩ : ∃ v, v = f u := ⟨_, rfl⟩
    have hvV : v ∈ V := by rw [hv]; exact hfc u hu
    have hvc : Cyc f v := by rw [hv]; exact hfu.step
    obtain ⟨r, hr⟩ : ∃ r, r = itn f l p := ⟨_, rfl⟩
    have hrc : Cyc f r := by rw [hr]; exact hlp.1
    have hrh : Cyc h r := by rw [hr]; exact hcj l hil
    have hru : itn f (i - l) r = u := by rw [hr, ← itn_add, show l + (i - l) = i by omega, hi]
    have hrv : itn f (i - l + 1) r = v := by rw [itn_succ, hru, hv]
    obtain ⟨D, hD, hDmin⟩ := tr_least (P := fun d => itn f d v = r) (by
      obtain ⟨d, hd⟩ := hrc.back (i - l + 1)
      rw [hrv] at hd
      exact ⟨d, hd⟩)
    -- u is not met on the way from v to r
    have hnu : ∀ d, d < D → itn f d v ≠ u := fun d hd e => by
      have e2 : itn f (d + 1) v = v := by rw [itn_succ, e, hv]
      have e3 : itn f (D - (d + 1)) v = r := by
        rw [← hD, show D = (d + 1) + (D - (d + 1)) by omega, itn_add, e2]
        congr 1
        omega
      exact hDmin _ (by omega) e3
    have hvw : ∀ d, d ≤ D → itn h d v = itn f d v := fun d hd => hag.itn v d fun a ha => hnu a (by omega)
    -- the points from v to ahead of r don't come back
    have hvn : ∀ d, d < D → ¬ Cyc h (itn f d v) := fun d hd hc => by
      have h1 : Cyc h (itn f (D - 1) v) := by
        have := hc.itn (D - 1 - d)
        rw [← hvw d (by omega), ← itn_add, show d + (D - 1 - d) = D - 1 by omega, hvw (D - 1) (by omega)] at this
        exact this
      have h2 : h (itn f (D - 1) v) = r := by rw [← hvw (D - 1) (by omega), ← itn_succ h, show D - 1 + 1 = D by omega, hvw D (Nat.le_refl _), hD]
      have h3 : h (itn f (l - 1) p) = r := by
        have := hway l hil
        rw [show l = (l - 1) + 1 by omega, itn_succ, hway (l - 1) (by omega), ← show l = (l - 1) + 1 by omega, ← hr] at this
        exact this
      have h4 := h1.inj (hcj (l - 1) (by omega)) (by rw [h2, h3])
      exact hlp.2 (l - 1) (by omega) (h4 ▸ hvc.itn (D - 1))
    have hlv : Lev h v D := ⟨by rw [hvw D (Nat.le_refl _), hD]; exact hrh, fun d hd => by rw [hvw d (by omega)]; exact hvn d hd⟩
    -- what comes back no more lies on that way
    have hlost : ∀ x, x ∈ V → Cyc f x → ¬ Cyc h x → ∃ d, d < D ∧ x = itn f d v := fun x _ hxc hxn => by
      have h1 : ∃ a, itn f a x = u := Classical.byContradiction fun hno => hxn (hag.cyc (fun a e => hno ⟨a, e⟩) hxc)
      obtain ⟨a, ha⟩ := h1
      obtain ⟨b, hb⟩ := hxc.back (a + 1)
      rw [itn_succ, ha, ← hv] at hb
      obtain ⟨b, hb, hbmin⟩ := tr_least (P := fun b => itn f b v = x) ⟨b, hb⟩
      refine ⟨b, ?_, hb.symm⟩
      refine Classical.byContradiction fun hbD => hxn ?_
      have e1 : itn f (b - D) r = x := by rw [← hD, ← itn_add, show D + (b - D) = b by omega, hb]
      by_cases h2 : b - D ≤ i - l
      · have := hcj (l + (b - D)) (by omega)
        rw [itn_add, ← hr, e1] at this
        exact this
      · exfalso
        refine hbmin (b - D - (i - l + 1)) (by omega) ?_
        rw [← e1, ← hrv, ← itn_add, show i - l + 1 + (b - D - (i - l + 1)) = b - D by omega]
    have hcnt := hc.more f h ((List.range D).map fun d => itn f d v) ((List.range l).map fun d => itn f d p) (fun x hx a b => by
        obtain ⟨d, hd, e⟩ := hlost x hx a b
        exact List.mem_map.2 ⟨d, List.mem_range.2 hd, e.symm⟩) (by
        rw [List.nodup_iff_pairwise_ne, List.pairwise_map]
        refine List.Pairwise.imp_of_mem ?_ List.pairwise_lt_range
        intro a b ha hb hab
        exact hlp.inj (List.mem_range.1 ha) hab) (fun x hx => by
        obtain ⟨d, hd, rfl⟩ := List.mem_map.1 hx
        have hd := List.mem_range.1 hd
        exact ⟨itn_mem hfc _ _ hp, hcj d (by omega), hlp.2 d hd⟩)
    rw [List.length_map, List.length_map, List.length_range, List.length_range] at hcnt
    have hmx := hM.2 h hs1
    have hroot : ∀ x, x ∈ V → ∀ j, l < j → Lev h x j → itn h j x = r := fun x hxV j hj hlx => by
      have hsame : ∀ a, a ≤ j → itn h a x = itn f a x := fun a ha => hag.symm.itn x a (fun b hb e => hlx.2 b (by omega) (e ▸ hcu)) |>.symm
      obtain ⟨i0, _, hi0⟩ := lev_some hfc hxV
      have h1 := hfar x hxV i0 hi0
      have h2 : ¬ Cyc h (itn f i0 x) := by rw [← hsame i0 (by omega)]; exact hlx.2 i0 (by omega)
      obtain ⟨d, hd, e⟩ := hlost _ (itn_mem hfc _ _ hxV) hi0.1 h2
      have h3 := hlx.shift (i := i0) (by omega)
      rw [hsame i0 (by omega), e] at h3
      have h4 := hlv.shift (i := d) (by omega)
      rw [hvw d (by omega)] at h4
      have h5 := h3.uniq h4
      rw [show j = i0 + (j - i0) by omega, itn_add, hsame i0 (by omega), e, h5, ← hvw d (by omega), ← itn_add, show d + (D - d) = D by omega, hvw D (Nat.le_refl _), hD]
    have hDl : D = l := by
      rcases Nat.lt_or_ge l D with h1 | h1
      · exact (no_uniq g H hs1 l r ⟨v, hvV, D, h1, hlv⟩ hroot).elim
      · omega
    subst hDl
    rw [← hv, ← hr]
    refine ⟨hfu, hD, ⟨hs1, fun q hq => by have := hM.2 q hq; omega⟩, fun x hxV j hj => ?_, hlv, hvw⟩
    rcases Nat.lt_or_ge D j with h1 | h1
    · exact (no_uniq g H hs1 D r ⟨x, hxV, j, h1, hj⟩ hroot).elim
    · exact h1
  · exfalso
    have ha : ∀ i, itn f i p ≠ u := fun i e => hx ⟨i, e⟩
    have hway : ∀ j, itn h j p = itn f j p := fun j => hag.itn p j fun a _ => ha a
    have hnu : ¬ Cyc h u := fun ⟨j, j0, hj⟩ => by
      obtain ⟨i, rfl⟩ : ∃ i, j = i + 1 := ⟨j - 1, by omega⟩
      have : itn h i (h u) = u := hj
      rw [hat, hway] at this
      exact ha i this
    have hlph : Lev h p l := hag.lev ha hlp
    have hlu : Lev h u (l + 1) := by
      refine ⟨?_, fun i hi => ?_⟩
      · show Cyc h (itn h l (h u)); rw [hat]; exact hlph.1
      · cases i with
        | zero => exact hnu
        | succ i => show ¬ Cyc h (itn h i (h u)); rw [hat]; exact hlph.2 i (by omega)
    refine no_uniq g H hs1 l (itn f l p) ⟨u, hu, l + 1, by omega, hlu⟩ fun x hxV j hj hlx => ?_
    have h1 : ∃ a, itn h a x = u := Classical.byContradiction fun hno => by
      have := hfar x hxV j (hag.symm.lev (fun a e => hno ⟨a, e⟩) hlx)
      omega
    obtain ⟨a, e⟩ := h1
    have h2 := hlx.lt (i := a) (by rw [e]; exact hnu)
    have h3 := hlx.shift (i := a) (by omega)
    rw [e] at h3
    have h4 := h3.uniq hlu
    rw [show j = a + (l + 1) by omega, itn_add, e]
    show itn h l (h u) = _
    rw [hat, hway]
/-- The point ahead of a farthest one's root has all its edges to the root. -/
theorem turn_out {V : List Nat} {k : Nat} {E : Nat → Nat → Nat} (g : Gr V k E) (H : NoStab V k E) {c : (Nat → Nat) → Nat} (hc : CntOk V c) {f : Nat → Nat} (hM : MaxSel V k E c f) {l p : Nat} (hl : 0 < l) (hp : p ∈ V) (hlp : Lev f p l) (hfar : Far V f l) (m : Nat) (hm : m < k) :
    E (itn f (l - 1) p) m = itn f l p := by
  refine Classical.byContradiction fun hne => ?_
  have hs := hM.1
  have hfc : ∀ s, s ∈ V → f s ∈ V := fun s h => hs.cl g s h
  have hqV : itn f (l - 1) p ∈ V := itn_mem hfc _ _ hp
  have hqn : ¬ Cyc f (itn f (l - 1) p) := hlp.2 _ (by omega)
  have hqr : f (itn f (l - 1) p) = itn f l p := by rw [← itn_succ f, show l - 1 + 1 = l by omega]
  have hway0 : ∀ a, a < l - 1 → itn f a p ≠ itn f (l - 1) p := fun a ha => hlp.inj (by omega) ha
  obtain ⟨q, hq⟩ : ∃ q, q = itn f (l - 1) p := ⟨_, rfl⟩
  rw [← hq] at hne hqV hqn hqr hway0
  obtain ⟨r2, hr2⟩ : ∃ r2, r2 = E q m := ⟨_, rfl⟩
  rw [← hr2] at hne
  have hr2V : r2 ∈ V := by rw [hr2]; exact g.cl q hqV m hm
  have hs2 := hs.upd q hm
  rw [← hr2] at hs2
  have hat := upd_at f q r2
  have hag := upd_ag f q r2
  generalize upd f q r2 = h at hs2 hat hag
  have hc2 : ∀ s, s ∈ V → h s ∈ V := fun s hh => hs2.cl g s hh
  by_cases hx : ∃ i, itn f i r2 = q
  · obtain ⟨i, hi, himin⟩ := tr_least hx
    have hway : itn h i r2 = q := by rw [hag.itn r2 i fun a ha e => himin a ha e, hi]
    have hcq : Cyc h q := ⟨i + 1, by omega, by show itn h i (h q) = q; rw [hat, hway]⟩
    have h1 := hM.2 h hs2
    have h2 := cnt_lt hc (f := f) (g := h) (fun x _ hc => hag.keep hc hqn) hqV hqn hcq
    omega
  · have ha : ∀ i, itn f i r2 ≠ q := fun i e => hx ⟨i, e⟩
    have hway : ∀ j, itn h j r2 = itn f j r2 := fun j => hag.itn r2 j fun a _ => ha a
    have hnq : ¬ Cyc h q := fun ⟨j, j0, hj⟩ => by
      obtain ⟨i, rfl⟩ : ∃ i, j = i + 1 := ⟨j - 1, by omega⟩
      have : itn h i (h q) = q := hj
      rw [hat, hway] at this
      exact ha i this
    have hcc : ∀ x, Cyc h x ↔ Cyc f x := fun x => ⟨fun hc => hag.symm.keep hc hnq, fun hc => hag.keep hc hqn⟩
    obtain ⟨j, _, hj⟩ := lev_some hfc hr2V
    have hjh : Lev h r2 j := hag.lev ha hj
    have hpq : ∀ a, a ≤ l - 1 → itn h a p = itn f a p := fun a ha => hag.itn p a fun b hb => hway0 b (by omega)
    have hlh : itn h l p = r2 := by
      rw [show l = (l - 1) + 1 by omega, itn_succ, hpq _ (Nat.le_refl _), ← hq, hat]
    have hlpj : Lev h p (l + j) := by
      refine ⟨?_, fun i hi => ?_⟩
      · rw [itn_add, hlh]; exact hjh.1
      · rcases Nat.lt_or_ge i l with h1 | h1
        · rw [hpq i (by omega), hcc]; exact hlp.2 i h1
        · rw [show i = l + (i - l) by omega, itn_add, hlh]; exact hjh.2 _ (by omega)
    have hlq : Lev h q (j + 1) := by
      have := hlpj.shift (i := l - 1) (by omega)
      rw [hpq _ (Nat.le_refl _), ← hq, show l + j - (l - 1) = j + 1 by omega] at this
      exact this
    rcases Nat.eq_zero_or_pos j with j0 | j0
    · subst j0
      have hr2c : Cyc f r2 := hj.1
      have hcnt : c h = c f := hc.same h f hcc
      have hM2 : MaxSel V k E c h := ⟨hs2, fun b hb => by rw [hcnt]; exact hM.2 b hb⟩
      have hlf1 : Lev f q 1 := by
        refine ⟨?_, fun i hi => ?_⟩
        · show Cyc f (f q)
          rw [hqr]; exact hlp.1
        · have e : i = 0 := by omega
          subst e
          exact hqn
      have hfar2 : Far V h l := fun x hxV n hn => by
        by_cases h1 : ∃ a, itn f a x = q
        · obtain ⟨a, ha1, hamin⟩ := tr_least h1
          have e1 : itn h a x = q := by rw [hag.itn x a fun b hb e => hamin b hb e, ha1]
          have h2 := hn.lt (i := a) (by rw [e1]; exact hnq)
          have h3 := hn.shift (i := a) (by omega)
          rw [e1] at h3
          have h4 := h3.uniq hlq
          obtain ⟨n', _, hn'⟩ := lev_some hfc hxV
          have h5 := hn'.lt (i := a) (by rw [ha1]; exact hqn)
          have h6 := hn'.shift (i := a) (by omega)
          rw [ha1] at h6
          have h7 := h6.uniq hlf1
          have := hfar x hxV n' hn'
          omega
        · refine hfar x hxV n ?_
          have h2 : ∀ a, itn f a x ≠ q := fun a e => h1 ⟨a, e⟩
          exact hag.symm.lev (hag.avoid h2) hn
      obtain ⟨u, m0, hu, hm0, hup, hne0⟩ := in_edge g hs hl hp hlp hfar
      obtain ⟨hcu, hru, _⟩ := turn_in g H hc hM hl hp hlp hfar hu hm0 hup hne0
      have huq : u ≠ q := fun e => hqn (e ▸ hcu)
      have hhu : h u = f u := (hag u huq).symm
      obtain ⟨_, hru2, _⟩ := turn_in g H hc hM2 hl hp (by simpa using hlpj) hfar2 hu hm0 hup (by rw [hhu]; exact hne0)
      rw [hhu, hlh, hag.itn (f u) l fun a _ => hcu.step.avoid hqn a, hru] at hru2
      exact hne hru2.symm
    · refine no_uniq g H hs2 l (itn f j r2) ⟨p, hp, l + j, by omega, hlpj⟩ fun x hxV n hn hlx => ?_
      have h1 : ∃ a, itn h a x = q := Classical.byContradiction fun hno => by
        have := hfar x hxV n (hag.symm.lev (fun a e => hno ⟨a, e⟩) hlx)
        omega
      obtain ⟨a, e⟩ := h1
      have h2 := hlx.lt (i := a) (by rw [e]; exact hnq)
      have h3 := hlx.shift (i := a) (by omega)
      rw [e] at h3
      have h4 := h3.uniq hlq
      rw [show n = a + (j + 1) by omega, itn_add, e]
      show itn h j (h q) = _
      rw [hat, hway]
/-- Trahtman: a connected graph that is no bunch of edges from each point has a colouring with a stable pair. -/
theorem stab_some {V : List Nat} {k : Nat} {E : Nat → Nat → Nat} (g : Gr V k E) (hb : ∃ s m, s ∈ V ∧ m < k ∧ E s m ≠ E s 0) :
    ∃ D, Recol V k E D ∧ ∃ p q, p ∈ V ∧ q ∈ V ∧ p ≠ q ∧ Stab k D p q := by
  refine Classical.byContradiction fun hno => ?_
  have H : NoStab V k E := fun D hD p q hp hq hst => Classical.byContradiction fun hne => hno ⟨D, hD, p, q, hp, hq, hne, hst⟩
  obtain ⟨c, hc⟩ := cnt_some g.nodup
  obtain ⟨f, hM⟩ := maxsel_some g hc
  have hs := hM.1
  have hfc : ∀ s, s ∈ V → f s ∈ V := fun s h => hs.cl g s h
  by_cases hall : ∀ x, x ∈ V → Cyc f x
  · obtain ⟨s, m, hsV, hm, hne⟩ := hb
    by_cases e : E s m = f s
    · exact case_one g H hs hall hsV g.kpos (fun e2 => hne (by rw [e, e2]))
    · exact case_one g H hs hall hsV hm e
  · have hx : ∃ x, x ∈ V ∧ ¬ Cyc f x := Classical.byContradiction fun h => hall fun x hx => Classical.byContradiction fun hc => h ⟨x, hx, hc⟩
    obtain ⟨x, hxV, hxn⟩ := hx
    obtain ⟨jx, _, hjx⟩ := lev_some hfc hxV
    have hjx0 : 0 < jx := hjx.lt (i := 0) hxn
    obtain ⟨l, ⟨p, hp, hlp⟩, hbig⟩ := tr_most (P := fun n => ∃ x, x ∈ V ∧ Lev f x n) ⟨jx, x, hxV, hjx⟩ V.length (by
      rintro n ⟨x, hx, hl⟩
      obtain ⟨j, hj, hl2⟩ := lev_some hfc hx
      rw [hl.uniq hl2]; exact hj)
    have hl : 0 < l := by have := hbig jx ⟨x, hxV, hjx⟩; omega
    have hfar : Far V f l := fun x hx j hj => hbig j ⟨x, hx, hj⟩
    obtain ⟨u, m0, hu, hm0, hup, hne0⟩ := in_edge g hs hl hp hlp hfar
    obtain ⟨hcu, hru, hM1, hfar1, hlv, hvw⟩ := turn_in g H hc hM hl hp hlp hfar hu hm0 hup hne0
    have h1 := turn_out g H hc hM hl hp hlp hfar
    have h2 := turn_out g H hc hM1 hl (hfc u hu) hlv hfar1
    rw [hvw (l - 1) (by omega), hvw l (Nat.le_refl _), hru] at h2
    have h3 := no_two g H (itn_mem hfc _ _ hp) (itn_mem hfc _ _ (hfc u hu)) h1 h2
    exact hlp.2 (l - 1) (by omega) (h3 ▸ hcu.step.itn (l - 1))
theorem Recol.trans {V : List Nat} {k : Nat} {E D F : Nat → Nat → Nat} (h : Recol V k E D) (h2 : Recol V k D F) : Recol V k E F := by
  obtain ⟨a, b, h⟩ := h
  obtain ⟨c, d, h2⟩ := h2
  refine ⟨fun s l => a s (c s l), fun s l => d s (b s l), fun s hs l hl => ?_⟩
  obtain ⟨x1, x2, x3, x4, x5⟩ := h2 s hs l hl
  obtain ⟨y1, y2, y3, y4, y5⟩ := h s hs l hl
  obtain ⟨z1, z2, z3, z4, z5⟩ := h s hs (c s l) x1
  obtain ⟨u1, u2, u3, u4, u5⟩ := h2 s hs (b s l) y2
  refine ⟨z1, u2, ?_, ?_, ?_⟩
  · show a s (c s (d s (b s l))) = l
    rw [u3, y3]
  · show d s (b s (a s (c s l))) = l
    rw [z4, x4]
  · rw [x5, z5]
theorem Stab.refl (k : Nat) (D : Nat → Nat → Nat) (p : Nat) : Stab k D p p := fun _ _ => Mg.refl _ _ _
theorem Stab.symm {k : Nat} {D : Nat → Nat → Nat} {p q : Nat} (h : Stab k D p q) : Stab k D q p := fun u hu => (h u hu).symm
theorem Stab.trans {k : Nat} {D : Nat → Nat → Nat} {p q r : Nat} (h : Stab k D p q) (h2 : Stab k D q r) : Stab k D p r := fun u hu => by
  obtain ⟨w, hw, e⟩ := h u hu
  obtain ⟨v, hv, e2⟩ := h2 (u ++ w) (hu.append hw)
  rw [runN_append, runN_append] at e2
  exact ⟨w ++ v, hw.append hv, by rw [runN_append, runN_append, e, e2]⟩
theorem Stab.step {k : Nat} {D : Nat → Nat → Nat} {p q l : Nat} (h : Stab k D p q) (hl : l < k) : Stab k D (D p l) (D q l) := fun u hu => by
  have := h (l :: u) (fun x hx => by
    rcases List.mem_cons.1 hx with rfl | hx
    · exact hl
    · exact hu x hx)
  exact this
/-- The first point that is stable with a given one. -/
theorem cls_some (V : List Nat) (k : Nat) (D : Nat → Nat → Nat) : ∃ cl : Nat → Nat, (∀ s, s ∈ V → cl s ∈ V ∧ Stab k D (cl s) s) ∧ ∀ s t, s ∈ V → Stab k D s t → cl s = cl t := by
  have hP : ∀ s : Nat, ∃ P : Nat → Bool, ∀ x, P x = true ↔ Stab k D x s := fun s =>
    ⟨fun x => @decide (Stab k D x s) (Classical.propDecidable _), fun x => @decide_eq_true_iff _ (Classical.propDecidable _)⟩
  obtain ⟨P, hP⟩ := Classical.axiomOfChoice hP
  refine ⟨fun s => (V.find? (P s)).getD s, fun s hs => ?_, fun s t hs h => ?_⟩
  · show (V.find? (P s)).getD s ∈ V ∧ Stab k D ((V.find? (P s)).getD s) s
    cases h : V.find? (P s) with
    | none =>
      have := List.find?_eq_none.1 h s hs
      exact absurd ((hP s s).2 (Stab.refl k D s)) this
    | some t => exact ⟨List.mem_of_find?_eq_some h, (hP s t).1 (List.find?_some h)⟩
  · show (V.find? (P s)).getD s = (V.find? (P t)).getD t
    have e : P s = P t := by
      funext x
      rw [Bool.eq_iff_iff, hP, hP]
      exact ⟨fun h1 => h1.trans h, fun h1 => h1.trans h.symm⟩
    rw [← e]
    cases h2 : V.find? (P s) with
    | none =>
      have := List.find?_eq_none.1 h2 s hs
      exact absurd ((hP s s).2 (Stab.refl k D s)) this
    | some t => rfl
/-- All edges out of a point lead to the same: the graph is a ring. -/
theorem ring {V : List Nat} {k : Nat} {E : Nat → Nat → Nat} (g : Gr V k E) (hb : ∀ s, s ∈ V → ∀ l, l < k → E s l = E s 0) :
    ∃ m, 0 < m ∧ ∃ c : Nat → Nat, (∀ s, s ∈ V → c s < m) ∧ (∀ s, s ∈ V → ∀ l, l < k → c (E s l) = (c s + 1) % m) ∧ ∃ L : List Nat, L.length ≤ m ∧ ∀ s, s ∈ V → s ∈ L := by
  obtain ⟨v, hv⟩ : ∃ v, v ∈ V := by
    cases V with
    | nil => exact absurd g.pos (by simp)
    | cons v V => exact ⟨v, List.mem_cons_self⟩
  obtain ⟨f, hf⟩ : ∃ f : Nat → Nat, f = fun s => E s 0 := ⟨_, rfl⟩
  have hfe : ∀ s, s ∈ V → ∀ l, l < k → E s l = f s := fun s hs l hl => by rw [hb s hs l hl, hf]
  have hfc : ∀ s, s ∈ V → f s ∈ V := fun s hs => by rw [← hfe s hs 0 g.kpos]; exact g.cl s hs 0 g.kpos
  have hrun : ∀ w s, s ∈ V → Lets k w → runN E s w = itn f w.length s := fun w => by
    induction w with
    | nil => intro s _ _; rfl
    | cons l w ih =>
      intro s hs hw
      show runN E (E s l) w = itn f w.length (f s)
      rw [hfe s hs l hw.head.1]
      exact ih _ (hfc s hs) hw.head.2
  obtain ⟨m, ⟨m0, hm⟩, hmin⟩ := tr_least (P := fun j => 0 < j ∧ itn f j v = v) (by
    obtain ⟨w, hw, e⟩ := g.conn (f v) v (hfc v hv) hv
    rw [hrun w _ (hfc v hv) hw] at e
    exact ⟨w.length + 1, by omega, e⟩)
  have hex : ∀ s, ∃ j, s ∈ V → itn f j v = s ∧ ∀ i, i < j → itn f i v ≠ s := fun s => by
    by_cases hs : s ∈ V
    · obtain ⟨w, hw, e⟩ := g.conn v s hv hs
      rw [hrun w _ hv hw] at e
      obtain ⟨j, h1, h2⟩ := tr_least (P := fun j => itn f j v = s) ⟨_, e⟩
      exact ⟨j, fun _ => ⟨h1, h2⟩⟩
    · exact ⟨0, fun h => absurd h hs⟩
  obtain ⟨c, hc⟩ := Classical.axiomOfChoice hex
  have hlt : ∀ s, s ∈ V → c s < m := fun s hs => by
    obtain ⟨h1, h2⟩ := hc s hs
    refine Nat.lt_of_not_le fun h3 => h2 (c s - m) (by omega) ?_
    have h4 : itn f (m + (c s - m)) v = s := by rw [show m + (c s - m) = c s by omega, h1]
    rw [itn_add, hm] at h4
    exact h4
  refine ⟨m, m0, c, hlt, fun s hs l hl => ?_, (List.range m).map fun j => itn f j v, by simp, fun s hs => List.mem_map.2 ⟨c s, List.mem_range.2 (hlt s hs), (hc s hs).1⟩⟩
  rw [hfe s hs l hl]
  obtain ⟨h1, h2⟩ := hc s hs
  obtain ⟨h3, h4⟩ := hc (f s) (hfc s hs)
  have h5 := hlt s hs
  have h6 : itn f (c s + 1) v = f s := by rw [itn_succ, h1]
  have h7 : c (f s) ≤ c s + 1 := Nat.le_of_not_lt fun h => h4 _ h h6
  by_cases h8 : c s + 1 < m
  · rw [Nat.mod_eq_of_lt h8]
    refine Nat.le_antisymm h7 (Nat.le_of_not_lt fun h9 => ?_)
    refine hmin (c (f s) + (m - (c s + 1))) (by omega) ⟨by omega, ?_⟩
    rw [itn_add, h3, ← h6, ← itn_add, show c s + 1 + (m - (c s + 1)) = m by omega, hm]
  · have h9 : c s + 1 = m := by omega
    rw [h9, hm] at h6
    rw [h9, Nat.mod_self]
    exact Nat.eq_zero_of_le_zero (Nat.le_of_not_lt fun h => h4 0 h h6)
/-- Trahtman's theorem: a connected graph has a colouring, a number m such that all edges lead from a class of m to the next one, and a word that leads all points to at most m. -/
theorem road_colouring (k : Nat) : ∀ (N : Nat) (V : List Nat) (E : Nat → Nat → Nat), V.length = N → Gr V k E →
    ∃ D, Recol V k E D ∧ ∃ m, 0 < m ∧ ∃ c : Nat → Nat, (∀ s, s ∈ V → c s < m) ∧ (∀ s, s ∈ V → ∀ l, l < k → c (E s l) = (c s + 1) % m) ∧
      ∃ w, Lets k w ∧ ∃ L : List Nat, L.length ≤ m ∧ ∀ s, s ∈ V → runN D s w ∈ L := by
  intro N
  induction N using Nat.strongRecOn with
  | ind N ih =>
  intro V E hN g
  by_cases hb : ∃ s m, s ∈ V ∧ m < k ∧ E s m ≠ E s 0
  · obtain ⟨D, hD, p, q, hp, hq, hne, hst⟩ := stab_some g hb
    have gD := hD.gr g
    obtain ⟨cl, c1, c2⟩ := cls_some V k D
    obtain ⟨W, hlt, c3, c4⟩ : ∃ W : List Nat, W.length < V.length ∧ (∀ s, s ∈ W ↔ s ∈ V ∧ cl s = s) ∧ W.Nodup := by
      refine ⟨V.filter fun s => decide (cl s = s), ?_, fun s => ?_, ?_⟩
      · rw [List.length_filter_lt_length_iff_exists]
        have e := c2 p q hp hst
        by_cases h1 : cl p = p
        · refine ⟨q, hq, fun h2 => ?_⟩
          have h2 := of_decide_eq_true h2
          exact hne (by rw [← h1, e, h2])
        · exact ⟨p, hp, fun h2 => h1 (of_decide_eq_true h2)⟩
      · rw [List.mem_filter, decide_eq_true_eq]
      · have := g.nodup
        rw [List.nodup_iff_pairwise_ne] at this ⊢
        exact this.filter _
    have c5 : ∀ s, s ∈ V → cl s ∈ W := fun s hs => (c3 _).2 ⟨(c1 s hs).1, c2 _ _ (c1 s hs).1 (c1 s hs).2⟩
    have c6 : ∀ s, s ∈ V → ∀ l, l < k → cl (D (cl s) l) = cl (D s l) := fun s hs l hl => c2 _ _ (gD.cl _ (c1 s hs).1 l hl) ((c1 s hs).2.step hl)
    have c7 : ∀ s t, s ∈ V → t ∈ V → cl s = cl t → Stab k D s t := fun s t hs ht e => (c1 s hs).2.symm.trans (e ▸ (c1 t ht).2)
    have gW : Gr W k (fun s l => cl (D s l)) := by
      refine ⟨c4, ?_, g.kpos, fun s hs l hl => c5 _ (gD.cl s ((c3 s).1 hs).1 l hl), fun s t hs ht => ?_⟩
      · have := c5 p hp
        exact List.length_pos_of_mem this
      · obtain ⟨w, hw, e⟩ := gD.conn s t ((c3 s).1 hs).1 ((c3 t).1 ht).1
        refine ⟨w, hw, ?_⟩
        have h1 : ∀ w s, s ∈ V → Lets k w → runN (fun s l => cl (D s l)) (cl s) w = cl (runN D s w) := fun w => by
          induction w with
          | nil => intro s _ _; rfl
          | cons l w ih =>
            intro s hs hw
            show runN (fun s l => cl (D s l)) (cl (D (cl s) l)) w = cl (runN D (D s l) w)
            rw [c6 s hs l hw.head.1]
            exact ih _ (gD.cl s hs l hw.head.1) hw.head.2
        have := h1 w s ((c3 s).1 hs).1 hw
        rw [((c3 s).1 hs).2, e, ((c3 t).1 ht).2] at this
        exact this
    obtain ⟨D2, ⟨a, b, hab⟩, m, m0, c, hc1, hc2, w, hw, L, hL, hrun⟩ := ih W.length (by omega) W _ rfl gW
    obtain ⟨F, hF⟩ : ∃ F : Nat → Nat → Nat, F = fun s l => D s (a (cl s) l) := ⟨_, rfl⟩
    have hDF : Recol V k D F := ⟨fun s => a (cl s), fun s => b (cl s), fun s hs l hl => by
      obtain ⟨x1, x2, x3, x4, _⟩ := hab (cl s) (c5 s hs) l hl
      exact ⟨x1, x2, x3, x4, by rw [hF]⟩⟩
    have gF := hDF.gr gD
    have hFc : ∀ s, s ∈ V → ∀ l, l < k → cl (F s l) = D2 (cl s) l := fun s hs l hl => by
      obtain ⟨x1, _, _, _, x5⟩ := hab (cl s) (c5 s hs) l hl
      rw [x5, hF]
      exact (c6 s hs _ x1).symm
    have hFr : ∀ w s, s ∈ V → Lets k w → cl (runN F s w) = runN D2 (cl s) w := fun w => by
      induction w with
      | nil => intro s _ _; rfl
      | cons l w ih =>
        intro s hs hw
        show cl (runN F (F s l) w) = runN D2 (D2 (cl s) l) w
        rw [ih _ (gF.cl s hs l hw.head.1) hw.head.2, hFc s hs l hw.head.1]
    have hmg : ∀ w s t, s ∈ V → t ∈ V → cl s = cl t → Lets k w → runN D s w = runN D t w → Mg k F s t := fun w => by
      induction w with
      | nil => intro s t _ _ _ _ e; have e : s = t := e; rw [e]; exact Mg.refl _ _ _
      | cons l w ih =>
        intro s t hs ht hst hw e
        obtain ⟨x1, x2, x3, _, _⟩ := hab (cl s) (c5 s hs) l hw.head.1
        have e1 : F s (b (cl s) l) = D s l := by rw [hF]; show D s (a (cl s) (b (cl s) l)) = D s l; rw [x3]
        have e2 : F t (b (cl s) l) = D t l := by rw [hF]; show D t (a (cl t) (b (cl s) l)) = D t l; rw [← hst, x3]
        obtain ⟨v, hv, e3⟩ := ih (D s l) (D t l) (gD.cl s hs l hw.head.1) (gD.cl t ht l hw.head.1) (by rw [← c6 s hs l hw.head.1, ← c6 t ht l hw.head.1, hst]) hw.head.2 e
        refine ⟨b (cl s) l :: v, fun x hx => ?_, ?_⟩
        · rcases List.mem_cons.1 hx with rfl | hx
          · exact x2
          · exact hv x hx
        · show runN F (F s (b (cl s) l)) v = runN F (F t (b (cl s) l)) v
          rw [e1, e2, e3]
    have hall : ∀ P : List Nat, (∀ s, s ∈ P → s ∈ V) → ∃ v, Lets k v ∧ ∀ s, s ∈ P → runN F s v = runN F (cl s) v := fun P => by
      induction P with
      | nil => intro _; exact ⟨[], Lets.nil k, fun _ h => by cases h⟩
      | cons s P ih =>
        intro hP
        obtain ⟨v, hv, h1⟩ := ih fun x hx => hP x (List.mem_cons_of_mem _ hx)
        have hs := hP s List.mem_cons_self
        have h2 := runN_mem gF.cl v s hs hv
        have h3 := runN_mem gF.cl v (cl s) (c1 s hs).1 hv
        have h4 : cl (runN F s v) = cl (runN F (cl s) v) := by
          rw [hFr v s hs hv, hFr v _ (c1 s hs).1 hv, ((c3 _).1 (c5 s hs)).2]
        obtain ⟨x, hx, e⟩ := c7 _ _ h2 h3 h4 [] (Lets.nil k)
        obtain ⟨y, hy, e2⟩ := hmg x _ _ h2 h3 h4 hx e
        refine ⟨v ++ y, hv.append hy, fun z hz => ?_⟩
        rw [runN_append, runN_append]
        rcases List.mem_cons.1 hz with rfl | hz
        · exact e2
        · rw [h1 z hz]
    obtain ⟨v, hv, h1⟩ := hall V fun _ h => h
    refine ⟨F, hD.trans hDF, m, m0, fun s => c (cl s), fun s hs => hc1 _ (c5 s hs), fun s hs l hl => ?_, w ++ v, hw.append hv, L.map fun x => runN F x v, by simpa using hL, fun s hs => ?_⟩
    · obtain ⟨⟨l2, hl2, e⟩, _⟩ := hD.some hs hl
      show c (cl (E s l)) = (c (cl s) + 1) % m
      rw [← e, ← c6 s hs l2 hl2]
      exact hc2 (cl s) (c5 s hs) l2 hl2
    · rw [runN_append, h1 _ (runN_mem gF.cl w s hs hw), hFr w s hs hw]
      exact List.mem_map.2 ⟨_, hrun _ (c5 s hs), rfl⟩
  · obtain ⟨m, m0, c, h1, h2, L, h3, h4⟩ := ring g fun s hs l hl => Classical.byContradiction fun h => hb ⟨s, l, hs, hl, h⟩
    exact ⟨E, Recol.refl V k E, m, m0, c, h1, h2, [], Lets.nil k, L, h3, h4⟩
end
section
theorem in_arrUp {n : Nat} {xs q : List Int} {i : Nat} (hs : skipB xs i = false) (hq : q ∈ arrF n (xs.eraseIdx i)) : ∀ k, i < k → nth xs i :: q ∈ arrUp n xs k
  | 0, h => by omega
  | k + 1, h => by
    rcases Nat.lt_succ_iff_lt_or_eq.1 h with h | h
    · have ih := in_arrUp hs hq k h
      cases hk : skipB xs k with
      | true => rw [arrUp_skip hk]; exact ih
      | false => rw [arrUp_take hk]; exact List.mem_append_left _ ih
    · subst h
      rw [arrUp_take hs]
      exact List.mem_append_right _ (List.mem_map.2 ⟨q, hq, rfl⟩)
theorem perm_erase (xs : List Int) (i : Nat) (h : i < xs.length) : (nth xs i :: xs.eraseIdx i).Perm xs := by
  induction xs generalizing i with
  | nil => simp at h
  | cons x xs ih =>
    cases i with
    | zero => exact List.Perm.refl _
    | succ i =>
      have h1 := ih i (by simpa using h)
      have e : nth (x :: xs) (i + 1) = nth xs i := rfl
      rw [e, List.eraseIdx_cons_succ]
      exact (List.Perm.swap x (nth xs i) (xs.eraseIdx i)).trans (List.Perm.cons x h1)
theorem arr_perm : ∀ (n : Nat) (xs : List Int), xs.length = n → ∀ r, r ∈ arrF n xs → r.Perm xs
  | 0, xs, hl, r, hr => by
    simp [arrF] at hr
    subst hr
    have : xs = [] := List.eq_nil_of_length_eq_zero hl
    subst this
    exact List.Perm.refl _
  | n + 1, xs, hl, r, hr => by
    rw [arrF_succ] at hr
    obtain ⟨i, hi, q, hq, rfl⟩ := mem_arrUp _ hr
    have he : (xs.eraseIdx i).length = n := by rw [List.length_eraseIdx, if_pos (by omega)]; omega
    exact (List.Perm.cons _ (arr_perm n _ he q hq)).trans (perm_erase xs i (by omega))
theorem arr_mem : ∀ (n : Nat) (xs : List Int), xs.length = n → ∀ ys : List Int, ys.Perm xs → ys ∈ arrF n xs
  | 0, xs, hl, ys, hp => by
    have e : xs = [] := List.eq_nil_of_length_eq_zero hl
    subst e
    have : ys = [] := List.Perm.eq_nil hp
    subst this
    simp [arrF]
  | n + 1, xs, hl, ys, hp => by
    cases ys with
    | nil => have := hp.length_eq; simp at this; omega
    | cons y q =>
      obtain ⟨i, ⟨hi, e⟩, hmin⟩ := tr_least (P := fun i => i < xs.length ∧ nth xs i = y) (mem_nth xs y (hp.subset List.mem_cons_self))
      have he : (xs.eraseIdx i).length = n := by rw [List.length_eraseIdx, if_pos hi]; omega
      have hs : skipB xs i = false := by
        unfold skipB
        by_cases h0 : 0 < i
        · have : nth xs i ≠ nth xs (i - 1) := fun e2 => hmin (i - 1) (by omega) ⟨by omega, by rw [← e2, e]⟩
          rw [decide_eq_false this, Bool.and_false]
        · rw [decide_eq_false h0, Bool.false_and]
      have hq : q.Perm (xs.eraseIdx i) := by
        have h1 := hp.trans (perm_erase xs i hi).symm
        rw [e] at h1
        exact List.Perm.cons_inv h1
      rw [arrF_succ, ← e]
      exact in_arrUp hs (arr_mem n _ he q hq) (n + 1) (by omega)
/-- The number of a colouring, out of the numbers of the arrangements. -/
def numD (cs : List (List (List Int))) (d : Nat → Nat) : Nat → Nat
  | 0 => 0
  | s + 1 => numD cs d s * (nth cs s).length + d s
theorem numD_lt {cs : List (List (List Int))} {d : Nat → Nat} (hd : ∀ p, p < cs.length → d p < (nth cs p).length) : ∀ s, s ≤ cs.length → numD cs d s < cntTo cs s
  | 0, _ => Nat.one_pos
  | s + 1, h => by
    have ih := numD_lt hd s (by omega)
    have h1 := hd s (by omega)
    show numD cs d s * (nth cs s).length + d s < cntTo cs s * (nth cs s).length
    have : (numD cs d s + 1) * (nth cs s).length ≤ cntTo cs s * (nth cs s).length := Nat.mul_le_mul_right _ ih
    rw [Nat.add_mul, Nat.one_mul] at this
    omega
theorem numAt_D {cs : List (List (List Int))} {d : Nat → Nat} (hd : ∀ p, p < cs.length → d p < (nth cs p).length) : ∀ j, j ≤ cs.length → numAt cs (numD cs d cs.length) j = numD cs d (cs.length - j)
  | 0, _ => rfl
  | j + 1, h => by
    show numAt cs (numD cs d cs.length) j / (nth cs (cs.length - 1 - j)).length = _
    rw [numAt_D hd j (by omega)]
    obtain ⟨s, hs⟩ : ∃ s, cs.length - j = s + 1 := ⟨cs.length - j - 1, by omega⟩
    have h1 := hd s (by omega)
    rw [hs, show cs.length - 1 - j = s by omega, show cs.length - (j + 1) = s by omega]
    show (numD cs d s * (nth cs s).length + d s) / (nth cs s).length = _
    rw [Nat.mul_comm, Nat.mul_add_div (by omega), Nat.div_eq_of_lt h1, Nat.add_zero]
theorem pick_D {cs : List (List (List Int))} {d : Nat → Nat} (hd : ∀ p, p < cs.length → d p < (nth cs p).length) (p : Nat) (hp : p < cs.length) : pickAt cs (numD cs d cs.length) p = nth (nth cs p) (d p) := by
  unfold pickAt
  rw [numAt_D hd _ (by omega), show cs.length - (cs.length - 1 - p) = p + 1 by omega]
  show nth (nth cs p) ((numD cs d p * (nth cs p).length + d p) % (nth cs p).length) = _
  rw [Nat.mul_comm, Nat.mul_add_mod, Nat.mod_eq_of_lt (hd p hp)]
/-- Where the road number l out of a town leads. -/
def rdE (r : Aut) (s l : Nat) : Nat := (nth (nth r.nx s) l).toNat
theorem colN_at {r : Aut} (N l p : Nat) (hl : l < (nth r.nx 0).length) (hp : p < r.nx.length) : nth (nth (colN r N).nx l) p = nth (pickAt (choicesOf r) N p) l := by
  show nth (nth (atRows (choicesOf r) N (nth r.nx 0).length) l) p = _
  unfold atRows
  rw [nth_tab _ _ _ _ hl, nth_rangeMap _ _ _ (by rw [choices_len]; exact hp)]
theorem pick_mem {r : Aut} (N p : Nat) (hp : p < r.nx.length) : pickAt (choicesOf r) N p ∈ arrOf (nth r.nx p) := by
  have h1 := choices_pos (r := r) p (by rw [choices_len]; exact hp)
  unfold pickAt
  rw [nth_choices r p hp] at h1 ⊢
  exact nth_mem _ _ (Nat.mod_lt _ h1)
/-- An edge of a colouring is a road. -/
theorem col_edge {r : Aut} (hr : RoadsFacts r) (N l p : Nat) (hl : l < (nth r.nx 0).length) (hp : p < r.nx.length) : ∃ m, m < (nth r.nx 0).length ∧ nth (nth (colN r N).nx l) p = (rdE r p m : Int) := by
  have h1 := arr_perm _ _ rfl _ (pick_mem N p hp)
  have h2 := h1.length_eq
  have h3 := hr.row p hp
  rw [colN_at N l p hl hp]
  obtain ⟨m, hm, e⟩ := mem_nth _ _ (h1.subset (nth_mem (pickAt (choicesOf r) N p) l (by omega)))
  refine ⟨m, by omega, ?_⟩
  have h4 := hr.mem p hp _ (nth_mem _ m hm)
  unfold rdE
  rw [e] at h4 ⊢
  omega
/-- Each road is an edge of a colouring. -/
theorem edge_col {r : Aut} (hr : RoadsFacts r) (N m p : Nat) (hm : m < (nth r.nx 0).length) (hp : p < r.nx.length) : ∃ l, l < (nth r.nx 0).length ∧ nth (nth (colN r N).nx l) p = (rdE r p m : Int) := by
  have h1 := arr_perm _ _ rfl _ (pick_mem N p hp)
  have h2 := h1.length_eq
  have h3 := hr.row p hp
  obtain ⟨l, hl, e⟩ := mem_nth _ _ (h1.symm.subset (nth_mem (nth r.nx p) m (by omega)))
  refine ⟨l, by omega, ?_⟩
  rw [colN_at N l p (by omega) hp, e]
  have h4 := hr.mem p hp _ (nth_mem _ m (by omega))
  unfold rdE
  omega
theorem rdE_lt {r : Aut} (hr : RoadsFacts r) (p m : Nat) (hm : m < (nth r.nx 0).length) (hp : p < r.nx.length) : rdE r p m < r.nx.length := by
  have h4 := hr.mem p hp _ (nth_mem _ m (by rw [hr.row p hp]; exact hm))
  have := hr.n
  unfold rdE
  omega
/-- Each choice of letters is a colouring with a number. -/
theorem col_of {r : Aut} (hr : RoadsFacts r) {D : Nat → Nat → Nat} (h : Recol (List.range r.nx.length) (nth r.nx 0).length (rdE r) D) : ∃ N, N < colCount r ∧ ∀ l p, l < (nth r.nx 0).length → p < r.nx.length → nth (nth (colN r N).nx l) p = (D p l : Int) := by
  obtain ⟨a, b, hab⟩ := h
  have hrow : ∀ p, p < r.nx.length → ((List.range (nth r.nx 0).length).map fun l => nth (nth r.nx p) (a p l)) ∈ arrOf (nth r.nx p) := fun p hp => by
    refine arr_mem _ _ rfl _ ?_
    have h3 := hr.row p hp
    have e : nth r.nx p = (List.range (nth r.nx 0).length).map fun l => nth (nth r.nx p) l := by
      refine ext_nth _ _ (by simp [h3]) (fun i hi => ?_)
      rw [nth_rangeMap _ _ _ (by omega)]
    have hperm : ((List.range (nth r.nx 0).length).map (a p)).Perm (List.range (nth r.nx 0).length) := by
      have hq := fun l (hl : l < (nth r.nx 0).length) => hab p (List.mem_range.2 hp) l hl
      refine perm_of_mem _ _ ?_ List.nodup_range fun x => ?_
      · rw [List.nodup_iff_pairwise_ne, List.pairwise_map]
        refine List.Pairwise.imp_of_mem ?_ List.pairwise_lt_range
        intro x y hx hy hxy e2
        have h1 := (hq x (List.mem_range.1 hx)).2.2.2.1
        have h2 := (hq y (List.mem_range.1 hy)).2.2.2.1
        rw [e2, h2] at h1
        omega
      · rw [List.mem_map, List.mem_range]
        constructor
        · rintro ⟨l, hl, rfl⟩; exact (hq l (List.mem_range.1 hl)).1
        · intro hx; exact ⟨b p x, List.mem_range.2 (hq x hx).2.1, (hq x hx).2.2.1⟩
    have := hperm.map fun l => nth (nth r.nx p) l
    rw [List.map_map] at this
    rw [← e] at this
    exact this
  have hd : ∀ p, ∃ i, p < r.nx.length → i < (nth (choicesOf r) p).length ∧ nth (nth (choicesOf r) p) i = (List.range (nth r.nx 0).length).map fun l => nth (nth r.nx p) (a p l) := fun p => by
    by_cases hp : p < r.nx.length
    · obtain ⟨i, hi, e⟩ := mem_nth _ _ (hrow p hp)
      exact ⟨i, fun _ => by rw [nth_choices r p hp]; exact ⟨hi, e⟩⟩
    · exact ⟨0, fun h => absurd h hp⟩
  obtain ⟨d, hd⟩ := Classical.axiomOfChoice hd
  have hcl := choices_len r
  have hd1 : ∀ p, p < (choicesOf r).length → d p < (nth (choicesOf r) p).length := fun p hp => (hd p (by omega)).1
  refine ⟨numD (choicesOf r) d (choicesOf r).length, ?_, fun l p hl hp => ?_⟩
  · have := numD_lt hd1 (choicesOf r).length (Nat.le_refl _)
    unfold colCount
    rwa [hcl] at this ⊢
  · rw [colN_at _ l p hl hp, pick_D hd1 p (by omega), (hd p hp).2, nth_rangeMap _ _ _ hl, (hab p (List.mem_range.2 hp) l hl).2.2.2.2]
    have h4 := hr.mem p hp _ (nth_mem _ (a p l) (by rw [hr.row p hp]; exact (hab p (List.mem_range.2 hp) l hl).1))
    unfold rdE
    omega
/-- The letters of a word as the automaton has them. -/
theorem run_lift {a : Aut} {D : Nat → Nat → Nat} {n k : Nat} (hD : ∀ l p, l < k → p < n → nth (nth a.nx l) p = (D p l : Int)) (hc : ∀ p, p < n → ∀ l, l < k → D p l < n) : ∀ (w : List Nat) (s : Nat), s < n → Lets k w → runOf a.nx (s : Int) (w.map (fun (l : Nat) => (l : Int))) = (runN D s w : Int)
  | [], _, _, _ => rfl
  | l :: w, s, hs, hw => by
    rw [List.map_cons, runOf_cons]
    have e : stepOf a.nx (s : Int) (l : Int) = (D s l : Int) := by
      unfold stepOf
      rw [Int.toNat_natCast, Int.toNat_natCast]
      exact hD l s hw.head.1 hs
    rw [e]
    exact run_lift hD hc w (D s l) (hc s hs l hw.head.1) hw.head.2
end
section
section
variable {α : Type} [DecidableEq α] [Inhabited α] {g : Nat → α → Option α} {L : Nat}
def WordsP (P : α → List Int → Prop) (t : Bfs α) : Prop := t.words.length = t.list.length ∧ ∀ i, i < t.list.length → P (nth t.list i) (nth t.words i)
theorem bStep_words {P : α → List Int → Prop} (hst : ∀ x w l y, l < L → P x w → g l x = some y → P y (w ++ [(l : Int)])) {t : Bfs α} (h : WordsP P t) (i l : Nat) (hi : i < t.list.length) (hl : l < L) : WordsP P (bStep g i l t) := by
  cases e : g l (nth t.list i) with
  | none => rw [bStep_none g i l t e]; exact h
  | some y =>
    by_cases hy : y ∈ t.list
    · rw [bStep_has g i l t y e hy]; exact h
    · rw [bStep_new g i l t y e hy]
      obtain ⟨h1, h2⟩ := h
      refine ⟨by simp [h1], fun j hj => ?_⟩
      simp only [List.length_append, List.length_singleton] at hj
      by_cases e2 : j < t.list.length
      · simp only
        rw [nth_append_left _ _ _ e2, nth_append_left _ _ _ (by omega)]
        exact h2 j e2
      · have e3 : j = t.list.length := by omega
        subst e3
        simp only
        rw [nth_append_here, ← h1, nth_append_here]
        exact hst _ _ l y hl (h2 i hi) e
theorem bRow_words {P : α → List Int → Prop} (hst : ∀ x w l y, l < L → P x w → g l x = some y → P y (w ++ [(l : Int)])) {t : Bfs α} (h : WordsP P t) (i : Nat) (hi : i < t.list.length) : ∀ l, l ≤ L → WordsP P (bRow g i t l)
  | 0, _ => h
  | l + 1, hl => by
    rw [bRow_succ]
    exact bStep_words hst (bRow_words hst h i hi l (by omega)) i l (Nat.lt_of_lt_of_le hi (bRow_pre' (g := g) i t l).1) (by omega)
theorem bTo_words {P : α → List Int → Prop} (s : α) (h0 : P s []) (hst : ∀ x w l y, l < L → P x w → g l x = some y → P y (w ++ [(l : Int)])) : ∀ k, WordsP P (bTo g L s k)
  | 0 => ⟨rfl, fun i hi => by
    have e : i = 0 := by simpa [bTo, bStart] using hi
    subst e
    exact h0⟩
  | k + 1 => by
    rw [bTo_succ]
    split
    · rename_i h
      exact bRow_words hst (bTo_words s h0 hst k) k h L (Nat.le_refl _)
    · exact bTo_words s h0 hst k
end
theorem md_succ {a b m : Nat} (h : a % m = b % m) : (a + 1) % m = (b + 1) % m := by
  rw [Nat.add_mod a, h, ← Nat.add_mod]
theorem gap_dvd {m x y : Nat} (h : (x + 1) % m = y % m) : m ∣ gapOf x y := by
  unfold gapOf
  refine Int.ofNat_dvd_left.1 ⟨((x + 1) / m : Nat) - (y / m : Nat), ?_⟩
  have e1 := Nat.div_add_mod (x + 1) m
  have e2 := Nat.div_add_mod y m
  rw [h] at e1
  rw [Int.mul_sub, ← Int.natCast_mul, ← Int.natCast_mul]
  omega
theorem dvd_gap {m x y : Nat} (h : m ∣ gapOf x y) : (x + 1) % m = y % m := by
  unfold gapOf at h
  have h2 := Int.ofNat_dvd_left.2 h
  have h3 := Int.emod_eq_emod_iff_emod_sub_eq_zero.2 (Int.emod_eq_zero_of_dvd h2)
  have h4 : (((x + 1) % m : Nat) : Int) = ((y % m : Nat) : Int) := by
    rw [Int.natCast_emod, Int.natCast_emod, ← h3]
    congr 1
  exact Int.ofNat.inj h4
/-- A numbering of the points that goes up by one along each edge, p by p: a word leaves p points apart at least. -/
theorem low_rank {a : Aut} {n k p : Nat} {E : Nat → Nat → Nat} {f : Nat → Nat} (hn : a.n = (n : Int)) (hk : a.nx.length = k) (hn0 : 0 < n) (hk0 : 0 < k)
    (hE : ∀ s l, s < n → l < k → E s l < n) (hf : ∀ s l, s < n → l < k → (f s + 1) % p = f (E s l) % p) (f0 : f 0 = 0)
    (he : ∀ l s, l < k → s < n → ∃ m, m < k ∧ nth (nth a.nx l) s = (E s m : Int)) (ws : List Int) (hw : letters a ws) : p ≤ dcnt (actOf a ws) := by
  have hx : ∀ i, ∃ x, x < n ∧ f x % p = i % p := fun i => by
    induction i with
    | zero => exact ⟨0, hn0, by rw [f0]⟩
    | succ i ih =>
      obtain ⟨x, hx, e⟩ := ih
      exact ⟨E x 0, hE x 0 hx hk0, by rw [← hf x 0 hx hk0, md_succ e]⟩
  have hrun : ∀ ws : List Int, letters a ws → ∀ s, s < n → ∃ t, t < n ∧ runOf a.nx (s : Int) ws = (t : Int) ∧ f t % p = (f s + ws.length) % p := fun ws => by
    induction ws with
    | nil => intro _ s hs; exact ⟨s, hs, rfl, rfl⟩
    | cons l ws ih =>
      intro hw s hs
      have h0 := hw 0 (by simp)
      rw [show nth (l :: ws) 0 = l from rfl] at h0
      obtain ⟨m, hm, e⟩ := he l.toNat s (by omega) hs
      obtain ⟨t, ht, e2, e3⟩ := ih (fun i hi => by have := hw (i + 1) (by simpa using hi); exact this) (E s m) (hE s m hs hm)
      refine ⟨t, ht, ?_, ?_⟩
      · rw [runOf_cons]
        have : stepOf a.nx (s : Int) l = (E s m : Int) := by unfold stepOf; rw [Int.toNat_natCast]; exact e
        rw [this, e2]
      · rw [e3, Nat.add_mod, ← hf s m hs hm, ← Nat.add_mod, List.length_cons]
        congr 1
        omega
  obtain ⟨x, hx⟩ := Classical.axiomOfChoice hx
  have h1 := nodup_sub ((List.range p).map fun i => runOf a.nx (x i : Int) ws) (firsts (actOf a ws)) (by
    rw [List.nodup_iff_pairwise_ne, List.pairwise_map]
    refine List.Pairwise.imp_of_mem ?_ List.pairwise_lt_range
    intro i j hi hj hij e
    obtain ⟨t, ht, e1, e2⟩ := hrun ws hw (x i) (hx i).1
    obtain ⟨u, hu, e3, e4⟩ := hrun ws hw (x j) (hx j).1
    rw [e1, e3] at e
    have e := Int.ofNat.inj e
    rw [← e, e2, Nat.add_mod, (hx i).2, ← Nat.add_mod, Nat.add_mod (f (x j)), (hx j).2, ← Nat.add_mod] at e4
    have h2 := Nat.sub_mod_eq_zero_of_mod_eq e4.symm
    rw [show j + ws.length - (i + ws.length) = j - i by omega, Nat.mod_eq_of_lt (by have := List.mem_range.1 hj; omega)] at h2
    omega) (fun y hy => by
    obtain ⟨i, _, rfl⟩ := List.mem_map.1 hy
    rw [mem_firsts]
    unfold actOf
    refine List.mem_map.2 ⟨(x i : Int), ?_, rfl⟩
    rw [mem_iota]
    have := (hx i).1
    omega)
  simpa [dcnt] using h1
/-- Where words lead from any town to any other. -/
theorem roads_gr {r : Aut} (hr : RoadsFacts r) (hj : joinedB (firstOf r) = true) : Gr (List.range r.nx.length) (nth r.nx 0).length (rdE r) where
  nodup := List.nodup_range
  pos := by rw [List.length_range]; have := hr.n1; omega
  kpos := by have := hr.l1; omega
  cl := fun s hs l hl => List.mem_range.2 (rdE_lt hr s l hl (List.mem_range.1 hs))
  conn := fun s t hs ht => by
    have hs := List.mem_range.1 hs
    have ht := List.mem_range.1 ht
    have ha := colN_ok hr 0
    have hnl : (firstOf r).nx.length = (nth r.nx 0).length := by show (atRows _ _ _).length = _; unfold atRows; rw [tab_length]
    have hsP : rcP (firstOf r) (s : Int) := ⟨by omega, by show (s : Int) < (r.nx.length : Int); omega⟩
    have htP : rcP (firstOf r) (t : Int) := ⟨by omega, by show (t : Int) < (r.nx.length : Int); omega⟩
    have hok := rc_bok (a := firstOf r) ha hsP 11
    have hlen : ((rcL (firstOf r) (s : Int)).length : Int) = (r.nx.length : Int) := by
      unfold joinedB at hj
      rw [List.all_eq_true] at hj
      exact of_decide_eq_true (hj (s : Int) (by rw [mem_iota]; show _ ∧ _ < 0 + (((r.nx.length : Int).toNat : Nat) : Int); omega))
    have hm : (t : Int) ∈ rcL (firstOf r) (s : Int) := by
      refine Classical.byContradiction fun hm => ?_
      have hb := nodup_bound r.nx.length (((t : Int) :: rcL (firstOf r) (s : Int)).map Int.toNat) ?_ ?_
      · simp at hb; omega
      · rw [List.nodup_iff_pairwise_ne, List.pairwise_map]
        have hnd : ((t : Int) :: rcL (firstOf r) (s : Int)).Nodup := List.nodup_cons.2 ⟨hm, hok.nodup⟩
        have hp := List.nodup_iff_pairwise_ne.1 hnd
        refine hp.imp_of_mem fun {u v} hu hv huv e => huv ?_
        have g : ∀ z, z ∈ (t : Int) :: rcL (firstOf r) (s : Int) → rcP (firstOf r) z := fun z hz => by
          rcases List.mem_cons.1 hz with q | q
          · subst q; exact htP
          · exact hok.ok z q
        have g1 := g u hu
        have g2 := g v hv
        unfold rcP at g1 g2
        omega
      · intro y hy
        obtain ⟨z, hz, rfl⟩ := List.mem_map.1 hy
        have hP : rcP (firstOf r) z := by
          rcases List.mem_cons.1 hz with q | q
          · subst q; exact htP
          · exact hok.ok z q
        have h2 : z < (r.nx.length : Int) := hP.2
        have := hP.1
        omega
    have hw := bTo_words (g := rcG (firstOf r).nx) (L := (firstOf r).nx.length) (P := fun x _ => ∃ u : Nat, x = (u : Int) ∧ u < r.nx.length ∧ ∃ w, Lets (nth r.nx 0).length w ∧ runN (rdE r) s w = u) (s : Int) ⟨s, rfl, hs, [], Lets.nil _, rfl⟩ (by
      rintro x _ l y hl ⟨u, rfl, hu, w, hw, e⟩ hy
      have hy : some (nth (nth (firstOf r).nx l) (u : Int).toNat) = some y := hy
      injection hy with hy
      rw [Int.toNat_natCast] at hy
      obtain ⟨m, hm, e2⟩ := col_edge hr 0 l u (by omega) hu
      refine ⟨rdE r u m, by rw [← hy]; exact e2, rdE_lt hr u m hm hu, w ++ [m], hw.append (fun z hz => by simp at hz; subst hz; exact hm), ?_⟩
      rw [runN_append, e]; rfl) 11
    obtain ⟨i, hi, e⟩ := mem_nth _ _ hm
    obtain ⟨u, e2, _, w, hw2, e3⟩ := hw.2 i hi
    refine ⟨w, hw2, ?_⟩
    have e4 : nth (bTo (rcG (firstOf r).nx) (firstOf r).nx.length (s : Int) 11).list i = (t : Int) := e
    rw [e2] at e4
    rw [e3]
    exact Int.ofNat.inj e4
theorem road_rank {r : Aut} (hok : roadsOk r = true) (hj : joinedB (firstOf r) = true) : (lrTo (rkN r) (colCount r)).1 = periodN (firstOf r) := by
  have hr := roads_facts hok
  have hn1 := hr.n1
  have hl1 := hr.l1
  have ha : autOk (firstOf r) = true := colN_ok hr 0
  have gr := roads_gr hr hj
  have hnl : ∀ N, (colN r N).nx.length = (nth r.nx 0).length := fun N => by show (atRows _ _ _).length = _; unfold atRows; rw [tab_length]
  have hrc0 : rcP (firstOf r) 0 := ⟨Int.le_refl _, by show (0 : Int) < (r.nx.length : Int); omega⟩
  have htk := rc_bok (a := firstOf r) ha hrc0 11
  obtain ⟨t, ht⟩ : ∃ t, t = rcT (firstOf r) 0 11 := ⟨_, rfl⟩
  rw [← ht] at htk
  obtain ⟨f, hf⟩ : ∃ f : Nat → Nat, f = fun (s : Nat) => farD t (s : Int) := ⟨_, rfl⟩
  obtain ⟨p, hp⟩ : ∃ p, p = periodN (firstOf r) := ⟨_, rfl⟩
  have hin : ∀ s : Nat, s < r.nx.length → ∃ i, i < t.list.length ∧ nth t.list i = (s : Int) := fun s hs => by
    have := joined_all ha hj (s : Int) ⟨by omega, by show (s : Int) < (r.nx.length : Int); omega⟩
    rw [ht]
    exact mem_nth _ _ this
  -- how far the first town is
  have hfirst : nth t.list 0 = 0 ∧ nth t.words 0 = [] := by
    have hw := bTo_words (g := rcG (firstOf r).nx) (L := (firstOf r).nx.length) (P := fun x w => True) (0 : Int) trivial (fun _ _ _ _ _ _ _ => trivial) 0
    have h2 : ∀ k, 0 < (bTo (rcG (firstOf r).nx) (firstOf r).nx.length (0 : Int) k).list.length ∧ nth (bTo (rcG (firstOf r).nx) (firstOf r).nx.length (0 : Int) k).list 0 = 0 ∧ nth (bTo (rcG (firstOf r).nx) (firstOf r).nx.length (0 : Int) k).words 0 = [] := fun k => by
      induction k with
      | zero => exact ⟨by simp [bTo, bStart], rfl, rfl⟩
      | succ k ih =>
        obtain ⟨i1, i2, i3⟩ := ih
        rw [bTo_succ]
        split
        · have hpre := bRow_pre' (g := rcG (firstOf r).nx) k (bTo (rcG (firstOf r).nx) (firstOf r).nx.length (0 : Int) k) (firstOf r).nx.length
          have hb := (rc_bok (a := firstOf r) ha hrc0 k).lw
          obtain ⟨q1, q2⟩ := hpre.2 0 i1
          exact ⟨by have := hpre.1; omega, by rw [q1, i2], by rw [q2 hb, i3]⟩
        · exact ⟨i1, i2, i3⟩
    rw [ht]
    exact ⟨(h2 11).2.1, (h2 11).2.2⟩
  have f0 : f 0 = 0 := by
    rw [hf]
    have := farD_nth htk.nodup 0 htk.pos
    rw [hfirst.1, hfirst.2] at this
    exact this
  -- the period and the roads
  have hps := period_states ha hj
  rw [← hp] at hps
  have hgap : ∀ (m : Nat), m ∣ p ↔ ∀ s l, s < r.nx.length → l < (nth r.nx 0).length → m ∣ gapOf (f s) (f (rdE r s l)) := fun m => by
    rw [← hps, dvd_gAll]
    have hsg : ∀ s l, s < r.nx.length → ∀ q, nth (nth (firstOf r).nx l) s = (rdE r s q : Int) → stateGap (firstOf r) s l = gapOf (f s) (f (rdE r s q)) := fun s l _ q e => by
      unfold stateGap
      rw [e, hf, ht]
    constructor
    · rintro ⟨_, h⟩ s l hs hl
      obtain ⟨q, hq, e⟩ := edge_col hr 0 l s hl hs
      have := h (stateGap (firstOf r) s q) (by
        rw [mem_upTo]
        exact ⟨s, q, by show s < ((r.nx.length : Int).toNat); omega, by show q < (colN r 0).nx.length; rw [hnl]; exact hq, rfl⟩)
      rwa [hsg s q hs l e] at this
    · intro h
      refine ⟨Nat.dvd_zero m, fun d hd => ?_⟩
      rw [mem_upTo] at hd
      obtain ⟨s, l, hs, hl, rfl⟩ := hd
      have hs : s < ((r.nx.length : Int).toNat) := hs
      have hl : l < (colN r 0).nx.length := hl
      rw [hnl] at hl
      obtain ⟨q, hq, e⟩ := col_edge hr 0 l s hl (by omega)
      rw [hsg s l (by omega) q e]
      exact h s q (by omega) hq
  have hpp := (hgap p).1 (Nat.dvd_refl p)
  have hlow : ∀ N, p ≤ rkN r N := fun N => by
    have hcN := colN_ok hr N
    obtain ⟨P, hP⟩ : ∃ P, P = rankP (colN r N) := ⟨_, rfl⟩
    have hq : letters (colN r N) P.1 ∧ dcnt (actOf (colN r N) P.1) = rankA (colN r N) := by rw [hP]; exact rankP_ok hcN
    have := low_rank (a := colN r N) (n := r.nx.length) (k := (nth r.nx 0).length) (p := p) (E := rdE r) (f := f) rfl (hnl N) (by omega) (by omega) (fun s l hs hl => rdE_lt hr s l hl hs) (fun s l hs hl => dvd_gap (hpp s l hs hl)) f0 (fun l s hl hs => col_edge hr N l s hl hs) P.1 hq.1
    unfold rkN
    omega
  -- the colouring
  obtain ⟨D, hD, m, m0, c, hc1, hc2, w, hw, L, hL, hrun⟩ := road_colouring _ _ _ _ rfl gr
  obtain ⟨N, hN, hcol⟩ := col_of hr hD
  have hDc : ∀ s, s < r.nx.length → ∀ l, l < (nth r.nx 0).length → D s l < r.nx.length := fun s hs l hl => List.mem_range.1 ((hD.gr gr).cl s (List.mem_range.2 hs) l hl)
  have hup : rkN r N ≤ m := by
    have h1 := rank_le (colN_ok hr N) (w.map (fun (l : Nat) => (l : Int))) (fun i hi => by
      rw [List.length_map] at hi
      rw [nth_map _ _ _ hi, hnl]
      have := hw _ (nth_mem w i hi)
      omega)
    have h2 : dcnt (actOf (colN r N) (w.map (fun (l : Nat) => (l : Int)))) ≤ dcnt (L.map (fun (l : Nat) => (l : Int))) := dcnt_le fun x hx => by
      unfold actOf at hx
      obtain ⟨s, hs, rfl⟩ := List.mem_map.1 hx
      rw [mem_iota] at hs
      have hs2 : s < 0 + (((r.nx.length : Int).toNat : Nat) : Int) := hs.2
      have e := run_lift hcol hDc w s.toNat (by omega) hw
      rw [show ((s.toNat : Nat) : Int) = s by omega] at e
      rw [e]
      exact List.mem_map.2 ⟨_, hrun s.toNat (List.mem_range.2 (by omega)), rfl⟩
    have h3 := firsts_len (L.map (fun (l : Nat) => (l : Int)))
    rw [List.length_map] at h3
    have h4 : dcnt (L.map (fun (l : Nat) => (l : Int))) ≤ L.length := h3
    unfold rkN
    omega
  have hcf : ∀ s, s < r.nx.length → c s % m = (c 0 + f s) % m := fun s hs => by
    obtain ⟨i, hi, e⟩ := hin s hs
    have hw := bTo_words (g := rcG (firstOf r).nx) (L := (firstOf r).nx.length) (P := fun x w => ∃ u : Nat, x = (u : Int) ∧ u < r.nx.length ∧ c u % m = (c 0 + w.length) % m) (0 : Int) ⟨0, rfl, by omega, rfl⟩ (by
      rintro x w l y hl ⟨u, rfl, hu, e⟩ hy
      have hy : some (nth (nth (firstOf r).nx l) (u : Int).toNat) = some y := hy
      injection hy with hy
      rw [Int.toNat_natCast] at hy
      have hl : l < (colN r 0).nx.length := hl
      rw [hnl] at hl
      obtain ⟨q, hq, e2⟩ := col_edge hr 0 l u hl hu
      refine ⟨rdE r u q, by rw [← hy]; exact e2, rdE_lt hr u q hq hu, ?_⟩
      rw [hc2 u (List.mem_range.2 hu) q hq, Nat.mod_mod, List.length_append, List.length_singleton]
      exact md_succ e) 11
    have h2 : WordsP (fun x w => ∃ u : Nat, x = (u : Int) ∧ u < r.nx.length ∧ c u % m = (c 0 + w.length) % m) t := by rw [ht]; exact hw
    obtain ⟨u, e2, _, e3⟩ := h2.2 i hi
    rw [e] at e2
    have e4 : s = u := Int.ofNat.inj e2
    subst e4
    rw [e3, hf]
    have := farD_nth htk.nodup i hi
    rw [e] at this
    simp only
    rw [this]
  have hmp : m ∣ p := (hgap m).2 fun s l hs hl => by
    refine gap_dvd ?_
    have h1 := hc2 s (List.mem_range.2 hs) l hl
    have h2 := hcf (rdE r s l) (rdE_lt hr s l hl hs)
    rw [h1, Nat.mod_mod, md_succ (hcf s hs)] at h2
    -- c 0 + f s + 1 and c 0 + f t
    have h3 : (c 0 + f s + 1 + (m - c 0 % m)) % m = (c 0 + f (rdE r s l) + (m - c 0 % m)) % m := by rw [Nat.add_mod, h2, ← Nat.add_mod]
    have hc0 : c 0 % m < m := Nat.mod_lt _ m0
    have h4 := Nat.div_add_mod (c 0) m
    have e1 : c 0 + f s + 1 + (m - c 0 % m) = (f s + 1) + m * (c 0 / m + 1) := by rw [Nat.mul_add, Nat.mul_one]; omega
    have e2 : c 0 + f (rdE r s l) + (m - c 0 % m) = f (rdE r s l) + m * (c 0 / m + 1) := by rw [Nat.mul_add, Nat.mul_one]; omega
    rw [e1, e2, Nat.add_mul_mod_self_left, Nat.add_mul_mod_self_left] at h3
    exact h3
  have hp0 : 0 < p := by
    refine Nat.pos_of_ne_zero fun e => ?_
    have hedge : ∃ s l, s < r.nx.length ∧ l < (nth r.nx 0).length ∧ rdE r s l = 0 := by
      obtain ⟨w, hw, e2⟩ := gr.conn (rdE r 0 0) 0 (List.mem_range.2 (rdE_lt hr 0 0 (by omega) (by omega))) (List.mem_range.2 (by omega))
      rcases List.eq_nil_or_concat w with h0 | ⟨w', l, h0⟩
      · subst h0; exact ⟨0, 0, by omega, by omega, e2⟩
      · have h1 : w = w' ++ [l] := by rw [h0]; simp
        subst h1
        rw [runN_append] at e2
        exact ⟨runN (rdE r) (rdE r 0 0) w', l, List.mem_range.1 (runN_mem gr.cl w' _ (List.mem_range.2 (rdE_lt hr 0 0 (by omega) (by omega))) fun x hx => hw x (List.mem_append_left _ hx)), hw l (List.mem_append_right _ (List.mem_singleton_self l)), e2⟩
    obtain ⟨s, l, hs, hl, e2⟩ := hedge
    have := hpp s l hs hl
    rw [e2, f0, e] at this
    have := Nat.eq_zero_of_zero_dvd this
    unfold gapOf at this
    omega
  have hle := Nat.le_of_dvd hp0 hmp
  have h1 := lr_le (rkN r) _ N hN
  have h2 := lr_hit (f := rkN r) (fun i => by have := (rkN_in hr i).2; omega) (colCount r) (by omega)
  have h3 := hlow (lrTo (rkN r) (colCount r)).2
  rw [h2.2] at h3
  omega
end
section
theorem colW_rank {r : Aut} (hf : RoadsFacts r) (n : Nat) : (colW r n).2 = true ↔ rkN r n = 1 := by
  have h1 := rkN_survey hf n
  constructor
  · intro h
    have := survey_yes (a := colN r n) h
    rw [this] at h1
    exact (Int.ofNat.inj h1).symm
  · intro h
    cases hw : (colW r n).2 with
    | true => rfl
    | false =>
      have := survey_no (colN_ok hf n) (colN_n hf n) hw
      rw [h1, h] at this
      exact absurd rfl this
theorem colCount_pos {r : Aut} : 0 < colCount r := by
  have h := numD_lt (cs := choicesOf r) (d := fun _ => 0) (fun p hp => choices_pos p hp) (choicesOf r).length (Nat.le_refl _)
  rw [choices_len] at h
  unfold colCount
  omega
theorem hit_rank {r : Aut} (hf : RoadsFacts r) : (hitTo (colW r) (colCount r) < 0) ↔ (lrTo (rkN r) (colCount r)).1 ≠ 1 := by
  have h2 := lr_hit (f := rkN r) (fun i => by have := (rkN_in hf i).2; omega) (colCount r) colCount_pos
  rw [hitTo_neg]
  constructor
  · intro h e
    have h3 := h _ h2.1
    rw [e] at h2
    rw [(colW_rank hf _).2 h2.2] at h3
    cases h3
  · intro h m hm
    cases hw : (colW r m).2 with
    | false => rfl
    | true =>
      have h3 := (colW_rank hf m).1 hw
      have h4 := lr_le (rkN r) _ m hm
      have h5 := (rkN_in hf (lrTo (rkN r) (colCount r)).2).1
      rw [h2.2] at h5
      omega
theorem lr_pick {r : Aut} (hf : RoadsFacts r) : (lrTo (rkN r) (colCount r)).2 < colCount r ∧ rankA (colN r (lrTo (rkN r) (colCount r)).2) = (lrTo (rkN r) (colCount r)).1 :=
  lr_hit (f := rkN r) (fun i => by have := (rkN_in hf i).2; omega) (colCount r) colCount_pos
end

end Go.Proofs.YtoeckejcmojeaaaGreat
