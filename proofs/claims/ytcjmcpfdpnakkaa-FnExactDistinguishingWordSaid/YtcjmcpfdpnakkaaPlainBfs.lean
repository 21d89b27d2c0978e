/- What is reached from a start, each thing once, in the order of first words. -/
import Derived.Test.YtcjmcpfdpnakkaaBase
import Derived.Test.YtcjmcpfdpnakkaaAut
import Derived.Test.YtcjmcpfdpnakkaaPlain1
import Derived.Test.YtcjmcpfdpnakkaaPlainRun
import Derived.Test.YtcjmcpfdpnakkaaPlainSet
import Derived.Test.YtcjmcpfdpnakkaaPlainBits
import Derived.Test.YtcjmcpfdpnakkaaPlainTour
import Derived.WalkKit
import Derived.WalkSpells
import Derived.WalkLawsBesides
import Derived.Deep.QuietTactic
import Derived.Deep.OwnRows
import Derived.BigQuiet
import Derived.KernelRfl
namespace Go.Proofs.Ytcjmcpfdpnakkaa
open Go.RowKit

structure Bfs (α : Type) where
  list : List α
  words : List (List Int)
section
variable {α : Type} [DecidableEq α] [Inhabited α] (g : Nat → α → Option α)
def bStep (i l : Nat) (t : Bfs α) : Bfs α := match g l (nth t.list i) with
  | none => t
  | some x => if x ∈ t.list then t else ⟨t.list ++ [x], t.words ++ [nth t.words i ++ [(l : Int)]]⟩
def bRow (i : Nat) (t : Bfs α) (k : Nat) : Bfs α := (List.range k).foldl (fun t l => bStep g i l t) t
def bStart (s : α) : Bfs α := ⟨[s], [[]]⟩
def bTo (L : Nat) (s : α) (k : Nat) : Bfs α := (List.range k).foldl (fun t i => if i < t.list.length then bRow g i t L else t) (bStart s)
theorem bRow_zero (i : Nat) (t : Bfs α) : bRow g i t 0 = t := rfl
theorem bRow_succ (i : Nat) (t : Bfs α) (k : Nat) : bRow g i t (k + 1) = bStep g i k (bRow g i t k) := by simp [bRow, List.range_succ]
theorem bTo_zero (L : Nat) (s : α) : bTo g L s 0 = bStart s := rfl
theorem bTo_succ (L : Nat) (s : α) (k : Nat) : bTo g L s (k + 1) = if k < (bTo g L s k).list.length then bRow g k (bTo g L s k) L else bTo g L s k := by
  unfold bTo; rw [List.range_succ, List.foldl_append]; rfl
theorem bTo_stop (L : Nat) (s : α) (k : Nat) (h : (bTo g L s k).list.length ≤ k) : ∀ d, bTo g L s (k + d) = bTo g L s k
  | 0 => rfl
  | d + 1 => by
    have ih := bTo_stop L s k h d
    rw [← Nat.add_assoc, bTo_succ, ih, if_neg (by omega)]
theorem bStep_none (i l : Nat) (t : Bfs α) (h : g l (nth t.list i) = none) : bStep g i l t = t := by unfold bStep; rw [h]
theorem bStep_has (i l : Nat) (t : Bfs α) (x : α) (h : g l (nth t.list i) = some x) (hx : x ∈ t.list) : bStep g i l t = t := by unfold bStep; rw [h]; simp only []; rw [if_pos hx]
theorem bStep_new (i l : Nat) (t : Bfs α) (x : α) (h : g l (nth t.list i) = some x) (hx : x ∉ t.list) : bStep g i l t = ⟨t.list ++ [x], t.words ++ [nth t.words i ++ [(l : Int)]]⟩ := by unfold bStep; rw [h]; simp only []; rw [if_neg hx]
/-- What holds at each moment: P of each thing that is reached. -/
structure BOk (P : α → Prop) (L : Nat) (t : Bfs α) : Prop where
  nodup : t.list.Nodup
  ok : ∀ x, x ∈ t.list → P x
  lw : t.words.length = t.list.length
  pos : 0 < t.list.length
  wl : ∀ i, i < t.list.length → (nth t.words i).length ≤ i
  lets : ∀ i, i < t.list.length → ∀ x, x ∈ nth t.words i → 0 ≤ x ∧ x < (L : Int)
variable {g} {P : α → Prop} {L : Nat}
omit [DecidableEq α] [Inhabited α] in
theorem BOk.start (s : α) (h : P s) : BOk P L (bStart s) where
  nodup := by simp [bStart]
  ok := by simp [bStart]; exact h
  lw := rfl
  pos := by simp [bStart]
  wl := by
    intro i hi
    simp [bStart] at hi
    subst hi
    simp [bStart, nth]
  lets := by
    intro i hi
    simp [bStart] at hi
    subst hi
    simp [bStart, nth]
theorem BOk.step (hg : ∀ l x y, l < L → P x → g l x = some y → P y) {t : Bfs α} (h : BOk P L t) (i l : Nat) (hi : i < t.list.length) (hl : l < L) : BOk P L (bStep g i l t) := by
  cases e : g l (nth t.list i) with
  | none => rw [bStep_none g i l t e]; exact h
  | some x =>
    by_cases hx : x ∈ t.list
    · rw [bStep_has g i l t x e hx]; exact h
    · rw [bStep_new g i l t x e hx]
      have hP := hg l _ x hl (h.ok _ (nth_mem _ _ hi)) e
      refine ⟨?_, ?_, by simp [h.lw], by simp, ?_, ?_⟩
      · rw [List.nodup_append]
        refine ⟨h.nodup, by simp, ?_⟩
        intro y hy z hz
        simp at hz
        subst hz
        rintro rfl
        exact hx hy
      · intro y hy
        rcases List.mem_append.1 hy with h1 | h1
        · exact h.ok y h1
        · simp at h1; subst h1; exact hP
      · intro k hk
        simp at hk
        simp only []
        by_cases e : k < t.list.length
        · rw [nth_append_left _ _ _ (by rw [h.lw]; exact e)]; exact h.wl k e
        · have e1 : k = t.words.length := by rw [h.lw]; omega
          have := h.wl i hi
          rw [e1, nth_append_here]
          rw [h.lw]
          simp; omega
      · intro k hk
        simp at hk
        simp only []
        by_cases e : k < t.list.length
        · rw [nth_append_left _ _ _ (by rw [h.lw]; exact e)]; exact h.lets k e
        · have e1 : k = t.words.length := by rw [h.lw]; omega
          rw [e1, nth_append_here]
          intro y hy
          rcases List.mem_append.1 hy with h1 | h1
          · exact h.lets i hi y h1
          · simp at h1; subst h1; omega
/-- t' goes on from t. -/
def BPre (t t' : Bfs α) : Prop := t.list.length ≤ t'.list.length ∧ ∀ j, j < t.list.length → nth t'.list j = nth t.list j ∧ (t.words.length = t.list.length → nth t'.words j = nth t.words j)
omit [DecidableEq α] in
theorem BPre.refl (t : Bfs α) : BPre t t := ⟨Nat.le_refl _, fun _ _ => ⟨rfl, fun _ => rfl⟩⟩
theorem bStep_lw (i l : Nat) (t : Bfs α) (h : t.words.length = t.list.length) : (bStep g i l t).words.length = (bStep g i l t).list.length := by
  unfold bStep
  split
  · exact h
  · split
    · exact h
    · simp [h]
omit [DecidableEq α] in
theorem BPre.trans {a b c : Bfs α} (h : BPre a b) (hb : a.words.length = a.list.length → b.words.length = b.list.length) (k : BPre b c) : BPre a c :=
  ⟨Nat.le_trans h.1 k.1, fun j hj => ⟨by rw [(k.2 j (by have := h.1; omega)).1, (h.2 j hj).1], fun e => by rw [(k.2 j (by have := h.1; omega)).2 (hb e), (h.2 j hj).2 e]⟩⟩
theorem bStep_pre (i l : Nat) (t : Bfs α) : BPre t (bStep g i l t) := by
  unfold bStep
  split
  · exact BPre.refl _
  · split
    · exact BPre.refl _
    · exact ⟨by simp, fun j hj => ⟨nth_append_left _ _ _ hj, fun e => nth_append_left _ _ _ (by rw [e]; exact hj)⟩⟩
theorem bRow_lw (i : Nat) (t : Bfs α) (h : t.words.length = t.list.length) : ∀ k, (bRow g i t k).words.length = (bRow g i t k).list.length
  | 0 => h
  | k + 1 => by rw [bRow_succ]; exact bStep_lw _ _ _ (bRow_lw i t h k)
theorem bRow_pre (i : Nat) (t : Bfs α) (k : Nat) : ∀ d, BPre (bRow g i t k) (bRow g i t (k + d))
  | 0 => BPre.refl _
  | d + 1 => by
    rw [← Nat.add_assoc, bRow_succ]
    refine (bRow_pre i t k d).trans (fun h => ?_) (bStep_pre _ _ _)
    induction d with
    | zero => exact h
    | succ d ih => rw [← Nat.add_assoc, bRow_succ]; exact bStep_lw _ _ _ ih
theorem bRow_pre' (i : Nat) (t : Bfs α) (k : Nat) : BPre t (bRow g i t k) := by
  have := bRow_pre (g := g) i t 0 k
  rwa [bRow_zero, Nat.zero_add] at this
theorem bTo_lw (s : α) : ∀ k, (bTo g L s k).words.length = (bTo g L s k).list.length
  | 0 => rfl
  | k + 1 => by
    rw [bTo_succ]
    split
    · exact bRow_lw _ _ (bTo_lw s k) _
    · exact bTo_lw s k
theorem bTo_pre (s : α) (k : Nat) : ∀ d, BPre (bTo g L s k) (bTo g L s (k + d))
  | 0 => BPre.refl _
  | d + 1 => by
    rw [← Nat.add_assoc]
    refine (bTo_pre s k d).trans (fun _ => bTo_lw _ _) ?_
    rw [bTo_succ]
    split
    · exact bRow_pre' _ _ _
    · exact BPre.refl _
/-- From the midst of row k to any later end. -/
theorem bMid_pre (s : α) (k l N : Nat) (hk : k < N) (hl : l ≤ L) (hlt : k < (bTo g L s k).list.length) : BPre (bRow g k (bTo g L s k) l) (bTo g L s N) := by
  have h1 := bRow_pre (g := g) k (bTo g L s k) l (L - l)
  have h2 := bTo_pre (g := g) (L := L) s (k + 1) (N - (k + 1))
  rw [show l + (L - l) = L by omega] at h1
  rw [show k + 1 + (N - (k + 1)) = N by omega, bTo_succ, if_pos hlt] at h2
  exact h1.trans (fun _ => bRow_lw _ _ (bTo_lw _ _) _) h2
theorem BOk.row (hg : ∀ l x y, l < L → P x → g l x = some y → P y) {t : Bfs α} (h : BOk P L t) (i : Nat) (hi : i < t.list.length) : ∀ k, k ≤ L → BOk P L (bRow g i t k)
  | 0, _ => h
  | k + 1, hk => by
    rw [bRow_succ]
    have := (bRow_pre' (g := g) i t k).1
    exact (BOk.row hg h i hi k (by omega)).step hg i k (by omega) (by omega)
theorem BOk.to (hg : ∀ l x y, l < L → P x → g l x = some y → P y) (s : α) (hs : P s) : ∀ k, BOk P L (bTo g L s k)
  | 0 => BOk.start s hs
  | k + 1 => by
    rw [bTo_succ]
    split
    · rename_i h; exact (BOk.to hg s hs k).row hg k h _ (Nat.le_refl _)
    · exact BOk.to hg s hs k
theorem bTo_end (s : α) (k N : Nat) (hk : k ≤ N) (h : (bTo g L s k).list.length = k) : bTo g L s N = bTo g L s k := by
  have := bTo_stop g L s k (by omega) (N - k)
  rwa [show k + (N - k) = N by omega] at this
omit [DecidableEq α] [Inhabited α] in
/-- Nothing is reached twice, so no more than there are numbers for. -/
theorem BOk.bound {t : Bfs α} (h : BOk P L t) (enc : α → Nat) (N : Nat) (he : ∀ x, P x → enc x < N) (hi : ∀ x y, P x → P y → enc x = enc y → x = y) : t.list.length ≤ N := by
  have := nodup_bound N (t.list.map enc) ?_ ?_
  · simpa using this
  · rw [List.nodup_iff_pairwise_ne, List.pairwise_map]
    have hp := List.nodup_iff_pairwise_ne.1 h.nodup
    exact hp.imp_of_mem fun {a b} ha hb hab e => hab (hi a b (h.ok a ha) (h.ok b hb) e)
  · intro x hx
    obtain ⟨y, hy, rfl⟩ := List.mem_map.1 hx
    exact he y (h.ok y hy)
/-- The first thing of which something is so, with its word. -/
def bFirst (p : α → Bool) (t : Bfs α) : List Int × Bool := match t.list.findIdx? p with
  | some i => (nth t.words i, true)
  | none => ([], false)
omit [DecidableEq α] in
theorem bFirst_hit (p : α → Bool) (t : Bfs α) (k : Nat) (hk : k < t.list.length) (h : p (nth t.list k) = true) (hb : ∀ j, j < k → p (nth t.list j) = false) : bFirst p t = (nth t.words k, true) := by
  have : t.list.findIdx? p = some k := by
    rw [List.findIdx?_eq_some_iff_getElem]
    refine ⟨hk, by rw [← nth_eq t.list k hk]; exact h, fun j hj => ?_⟩
    rw [← nth_eq t.list j (by omega)]; simp [hb j hj]
  simp [bFirst, this]
omit [DecidableEq α] in
theorem bFirst_none (p : α → Bool) (t : Bfs α) (hb : ∀ j, j < t.list.length → p (nth t.list j) = false) : bFirst p t = ([], false) := by
  have : t.list.findIdx? p = none := by
    rw [List.findIdx?_eq_none_iff]
    intro x hx; obtain ⟨i, hi, rfl⟩ := mem_nth t.list x hx; exact hb i hi
  simp [bFirst, this]
/-- The first letter behind the first thing for which something is so. -/
def bHit (hit : Nat → α → Bool) (L : Nat) (t : Bfs α) : List Int × Bool := match t.list.findIdx? (fun x => ((List.range L).find? fun l => hit l x).isSome) with
  | some i => match (List.range L).find? fun l => hit l (nth t.list i) with
    | some l => (nth t.words i ++ [(l : Int)], true)
    | none => ([], false)
  | none => ([], false)
omit [DecidableEq α] in
theorem bHit_hit (hit : Nat → α → Bool) (t : Bfs α) (k l : Nat) (hk : k < t.list.length) (hl : l < L) (h : hit l (nth t.list k) = true) (hb : ∀ m, m < l → hit m (nth t.list k) = false)
    (hbb : ∀ j m, j < k → m < L → hit m (nth t.list j) = false) : bHit hit L t = (nth t.words k ++ [(l : Int)], true) := by
  have h1 : (List.range L).find? (fun l => hit l (nth t.list k)) = some l := by
    rw [List.find?_eq_some_iff_getElem]
    refine ⟨h, l, by simpa using hl, by simp, fun j hj => ?_⟩
    simp [hb j hj]
  have : t.list.findIdx? (fun x => ((List.range L).find? fun l => hit l x).isSome) = some k := by
    rw [List.findIdx?_eq_some_iff_getElem]
    refine ⟨hk, by rw [← nth_eq t.list k hk, h1]; rfl, fun j hj => ?_⟩
    rw [← nth_eq t.list j (by omega)]
    simp only [List.find?_isSome, List.mem_range, not_exists, not_and]
    intro m hm
    rw [hbb j m hj hm]; simp
  unfold bHit
  rw [this]
  simp only [h1]
omit [DecidableEq α] in
theorem bHit_none (hit : Nat → α → Bool) (t : Bfs α) (hbb : ∀ j m, j < t.list.length → m < L → hit m (nth t.list j) = false) : bHit hit L t = ([], false) := by
  have : t.list.findIdx? (fun x => ((List.range L).find? fun l => hit l x).isSome) = none := by
    rw [List.findIdx?_eq_none_iff]
    intro x hx
    obtain ⟨i, hi, rfl⟩ := mem_nth t.list x hx
    rw [Bool.eq_false_iff]
    simp only [ne_eq, List.find?_isSome, List.mem_range, not_exists, not_and]
    intro m hm
    rw [hbb i m hi hm]; simp
  simp [bHit, this]
end

end Go.Proofs.Ytcjmcpfdpnakkaa
