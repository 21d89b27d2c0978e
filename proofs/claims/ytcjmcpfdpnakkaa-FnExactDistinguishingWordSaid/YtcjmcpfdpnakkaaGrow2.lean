/- Two lists of lists that are built by append, one beside the other. -/
import Derived.Test.YtcjmcpfdpnakkaaBase
import Derived.Test.YtcjmcpfdpnakkaaApp
import Derived.Test.YtcjmcpfdpnakkaaAppRows
import Derived.Test.YtcjmcpfdpnakkaaMapV
import Derived.Test.YtcjmcpfdpnakkaaTourV
import Derived.WalkKit
import Derived.WalkSpells
import Derived.WalkLawsBesides
import Derived.Deep.QuietTactic
import Derived.Deep.OwnRows
import Derived.BigQuiet
import Derived.KernelRfl
namespace Go.Proofs.Ytcjmcpfdpnakkaa
open Go.RowKit

/-- Two values lie in blocks apart. -/
def ApartV (a b : Value) : Prop := a.ownBlock ≠ b.ownBlock ∨ a.ownBlock = none
/-- Two lists of lists under construction; the rows may be written, and none lies in a frame. -/
def Grow2 (B : Nat) (e1 e2 : TypeId) (w : World) (v1 v2 : Value) (xs1 xs2 : List (List Int)) : Prop :=
  ∃ r1 r2 : Nat → Value, w.ownsRow B e1 1 v1 xs1.length ((List.range xs1.length).map r1) ∧ w.ownsRow B e2 1 v2 xs2.length ((List.range xs2.length).map r2) ∧ ApartV v1 v2 ∧
    (∀ i, i < xs1.length → OwnInts B w.heap.size w (r1 i) (nth xs1 i) ∧ ApartV (r1 i) v1 ∧ ApartV (r1 i) v2) ∧
    ∀ i, i < xs2.length → OwnInts B w.heap.size w (r2 i) (nth xs2 i) ∧ ApartV (r2 i) v1 ∧ ApartV (r2 i) v2
theorem ApartV.symm {a b : Value} (h : ApartV a b) : ApartV b a := by
  unfold ApartV at *
  cases e : b.ownBlock with
  | none => exact Or.inr rfl
  | some k =>
    left
    rw [e] at h
    rcases h with h | h
    · exact Ne.symm h
    · rw [h]; simp
theorem ApartV.of_lt {a b : Value} {M : Nat} (ha : ∀ k, a.ownBlock = some k → M ≤ k) (hb : ∀ k, b.ownBlock = some k → k < M) : ApartV a b := by
  unfold ApartV
  cases e : a.ownBlock with
  | none => exact Or.inr rfl
  | some k =>
    left
    intro e2
    have h1 := ha k e
    have h2 := hb k e2.symm
    omega
/-- The new frame is the old one's block, or newer than whatever is there. -/
theorem ApartV.frame {r v : Value} {g n cap M : Nat} (h : ApartV r v) (hr : ∀ k, r.ownBlock = some k → k < M) (hloc : v.ownBlock = some g ∨ M ≤ g) : ApartV r (.slice (some ⟨g, 0, none⟩) n cap) := by
  rcases hloc with hl | hl
  · unfold ApartV at *
    rw [hl] at h
    exact h
  · exact ApartV.symm (ApartV.of_lt (M := M) (fun k hk => by simp [Value.ownBlock] at hk; omega) hr)
theorem Grow2.new {B : Nat} {e1 e2 : TypeId} {w w' : World} {v1 v2 : Value} {xs1 xs2 : List (List Int)} (h : Grow2 B e1 e2 w v1 v2 xs1 xs2) (hn : New w w') : Grow2 B e1 e2 w' v1 v2 xs1 xs2 := by
  obtain ⟨r1, r2, h1, h2, h3, h4, h5⟩ := h
  exact ⟨r1, r2, ownsRow_new h1 hn, ownsRow_new h2 hn, h3, fun i hi => let ⟨a, b⟩ := h4 i hi; ⟨(a.new hn).widen (Nat.le_refl _) hn.size, b⟩, fun i hi => let ⟨a, b⟩ := h5 i hi; ⟨(a.new hn).widen (Nat.le_refl _) hn.size, b⟩⟩
theorem Grow2.form {B : Nat} {e1 e2 : TypeId} {w : World} {v1 v2 : Value} {xs1 xs2 : List (List Int)} (h : Grow2 B e1 e2 w v1 v2 xs1 xs2) : (∃ A c, v1 = .slice A xs1.length c) ∧ ∃ A c, v2 = .slice A xs2.length c :=
  let ⟨_, _, h1, h2, _⟩ := h; ⟨ownsRow_form h1, ownsRow_form h2⟩
theorem Grow2.blocks {B : Nat} {e1 e2 : TypeId} {w : World} {v1 v2 : Value} {xs1 xs2 : List (List Int)} (h : Grow2 B e1 e2 w v1 v2 xs1 xs2) : (∀ k, v1.ownBlock = some k → B ≤ k ∧ k < w.heap.size) ∧ ∀ k, v2.ownBlock = some k → B ≤ k ∧ k < w.heap.size :=
  let ⟨_, _, h1, h2, _⟩ := h; ⟨World.ownsRow.lt h1, World.ownsRow.lt h2⟩
theorem Grow2.spine {B : Nat} {e1 e2 : TypeId} {w : World} {v1 v2 : Value} {xs1 xs2 : List (List Int)} (h : Grow2 B e1 e2 w v1 v2 xs1 xs2) :
    (∃ l1, w.ownsRow B e1 1 v1 xs1.length l1 ∧ l1.length = xs1.length) ∧ ∃ l2, w.ownsRow B e2 1 v2 xs2.length l2 ∧ l2.length = xs2.length :=
  let ⟨_, _, h1, h2, _⟩ := h; ⟨⟨_, h1, by simp⟩, ⟨_, h2, by simp⟩⟩
theorem rows_of_spine {B : Nat} {e : TypeId} {w : World} {v : Value} {xss : List (List Int)} {r : Nat → Value} (h1 : w.ownsRow B e 1 v xss.length ((List.range xss.length).map r)) (h2 : ∀ i, i < xss.length → IntsAt w (r i) (nth xss i)) (hl : xss.length ≤ 1099511627776) : RowsAt w v xss := by
  obtain ⟨A, c, rfl⟩ := ownsRow_form h1
  refine ⟨A, c, rfl, by omega, fun i hi => ?_⟩
  obtain ⟨b, hb, ⟨c', e⟩, hB, hlt, hc, _⟩ := ownsRow_cells h1 i (by simpa using hi)
  cases e
  refine ⟨b, 0, r i, rfl, ?_, h2 i hi⟩
  rw [Nat.zero_add, hc]; simp
theorem Grow2.rows {B : Nat} {e1 e2 : TypeId} {w : World} {v1 v2 : Value} {xs1 xs2 : List (List Int)} (h : Grow2 B e1 e2 w v1 v2 xs1 xs2) (hl1 : xs1.length ≤ 1099511627776) (hl2 : xs2.length ≤ 1099511627776) : RowsAt w v1 xs1 ∧ RowsAt w v2 xs2 :=
  let ⟨_, _, h1, h2, _, h4, h5⟩ := h; ⟨rows_of_spine h1 (fun i hi => (h4 i hi).1.at) hl1, rows_of_spine h2 (fun i hi => (h5 i hi).1.at) hl2⟩
/-- A row that lies apart from both frames. -/
def RowIn (B : Nat) (w : World) (v1 v2 r : Value) (ys : List Int) : Prop := OwnInts B w.heap.size w r ys ∧ ApartV r v1 ∧ ApartV r v2
theorem RowIn.new {B : Nat} {w w' : World} {v1 v2 r : Value} {ys : List Int} (h : RowIn B w v1 v2 r ys) (hn : New w w') : RowIn B w' v1 v2 r ys := ⟨(h.1.new hn).widen (Nat.le_refl _) hn.size, h.2⟩
theorem RowIn.low {B b : Nat} {w w' : World} {v1 v2 r : Value} {ys : List Int} (h : RowIn B w v1 v2 r ys) (hg : w.grownBy w' (some b)) (hb : b < B) : RowIn B w' v1 v2 r ys := by
  refine ⟨(h.1.grown hg ?_).widen (Nat.le_refl _) hg.size, h.2⟩
  cases e : r.ownBlock with
  | none => exact Or.inr rfl
  | some k => left; have := h.1.block k e; simp; omega
theorem RowIn.app1 {B g n cap : Nat} {w w' : World} {v1 v2 r : Value} {ys : List Int} (h : RowIn B w v1 v2 r ys) (hg : w.grownBy w' v1.ownBlock) (hloc : v1.ownBlock = some g ∨ w.heap.size ≤ g) : RowIn B w' (.slice (some ⟨g, 0, none⟩) n cap) v2 r ys :=
  ⟨(h.1.grown hg h.2.1).widen (Nat.le_refl _) hg.size, h.2.1.frame (fun k hk => (h.1.block k hk).2) hloc, h.2.2⟩
theorem RowIn.app2 {B g n cap : Nat} {w w' : World} {v1 v2 r : Value} {ys : List Int} (h : RowIn B w v1 v2 r ys) (hg : w.grownBy w' v2.ownBlock) (hloc : v2.ownBlock = some g ∨ w.heap.size ≤ g) : RowIn B w' v1 (.slice (some ⟨g, 0, none⟩) n cap) r ys :=
  ⟨(h.1.grown hg h.2.2).widen (Nat.le_refl _) hg.size, h.2.1, h.2.2.frame (fun k hk => (h.1.block k hk).2) hloc⟩
/-- What is newer than both frames. -/
theorem RowIn.fresh {B M : Nat} {w : World} {v1 v2 r : Value} {ys : List Int} (hr : OwnInts M w.heap.size w r ys) (hB : B ≤ M) (h1 : ∀ k, v1.ownBlock = some k → k < M) (h2 : ∀ k, v2.ownBlock = some k → k < M) : RowIn B w v1 v2 r ys :=
  ⟨hr.widen hB (Nat.le_refl _), ApartV.of_lt (fun k hk => (hr.block k hk).1) h1, ApartV.of_lt (fun k hk => (hr.block k hk).1) h2⟩
/-- One row of the first list, of the second. -/
theorem Grow2.row1 {B : Nat} {e1 e2 : TypeId} {w : World} {v1 v2 : Value} {xs1 xs2 : List (List Int)} (h : Grow2 B e1 e2 w v1 v2 xs1 xs2) (i : Nat) (hi : i < xs1.length) :
    ∃ b c A cr, v1 = .slice (some ⟨b, 0, none⟩) xs1.length c ∧ w.cell? ⟨b, i, none⟩ = some (.slice A (nth xs1 i).length cr) ∧ RowIn B w v1 v2 (.slice A (nth xs1 i).length cr) (nth xs1 i) := by
  obtain ⟨r1, r2, h1, h2, _, h4, h5⟩ := h
  obtain ⟨b, hb, ⟨c', e⟩, hB, hlt, hc, _⟩ := ownsRow_cells h1 i (by simpa using hi)
  have ho := h4 i hi
  obtain ⟨A, cr, er⟩ := ho.1.form
  simp at hc
  exact ⟨b, c', A, cr, e, er ▸ hc, er ▸ ho⟩
theorem Grow2.row2 {B : Nat} {e1 e2 : TypeId} {w : World} {v1 v2 : Value} {xs1 xs2 : List (List Int)} (h : Grow2 B e1 e2 w v1 v2 xs1 xs2) (i : Nat) (hi : i < xs2.length) :
    ∃ b c A cr, v2 = .slice (some ⟨b, 0, none⟩) xs2.length c ∧ w.cell? ⟨b, i, none⟩ = some (.slice A (nth xs2 i).length cr) ∧ RowIn B w v1 v2 (.slice A (nth xs2 i).length cr) (nth xs2 i) := by
  obtain ⟨r1, r2, h1, h2, _, h4, h5⟩ := h
  obtain ⟨b, hb, ⟨c', e⟩, hB, hlt, hc, _⟩ := ownsRow_cells h2 i (by simpa using hi)
  have ho := h5 i hi
  obtain ⟨A, cr, er⟩ := ho.1.form
  simp at hc
  exact ⟨b, c', A, cr, e, er ▸ hc, er ▸ ho⟩
/-- What else is written, below B, leaves both lists as they are. -/
theorem Grow2.low {B b : Nat} {e1 e2 : TypeId} {w w' : World} {v1 v2 : Value} {xs1 xs2 : List (List Int)} (h : Grow2 B e1 e2 w v1 v2 xs1 xs2) (hg : w.grownBy w' (some b)) (hb : b < B) : Grow2 B e1 e2 w' v1 v2 xs1 xs2 := by
  obtain ⟨r1, r2, h1, h2, h3, h4, h5⟩ := h
  have ne : ∀ v : Value, (∀ k, v.ownBlock = some k → B ≤ k) → v.ownBlock ≠ some b ∨ v.ownBlock = none := fun v hv => by
    cases e : v.ownBlock with
    | none => exact Or.inr rfl
    | some k => left; have := hv k e; simp; omega
  have a1 := World.ownsRow.lt h1
  have a2 := World.ownsRow.lt h2
  refine ⟨r1, r2, ownsRow_grown h1 hg (ne _ fun k hk => (a1 k hk).1), ownsRow_grown h2 hg (ne _ fun k hk => (a2 k hk).1), h3, fun i hi => ?_, fun i hi => ?_⟩
  · obtain ⟨a, b⟩ := h4 i hi
    exact ⟨(a.grown hg (ne _ fun k hk => (a.block k hk).1)).widen (Nat.le_refl _) hg.size, b⟩
  · obtain ⟨a, b⟩ := h5 i hi
    exact ⟨(a.grown hg (ne _ fun k hk => (a.block k hk).1)).widen (Nat.le_refl _) hg.size, b⟩
theorem range_pick {n : Nat} (r : Nat → Value) (x : Value) : (List.range (n + 1)).map (fun i => if i < n then r i else x) = (List.range n).map r ++ [x] := by
  rw [list_range_snoc]
  congr 1
  · apply List.map_congr_left
    intro i hi
    rw [if_pos (List.mem_range.1 hi)]
  · rw [if_neg (Nat.lt_irrefl _)]
/-- A row is appended to the first list. -/
theorem Grow2.app1 {B g cap : Nat} {e1 e2 : TypeId} {w w' : World} {v1 v2 r : Value} {xs1 xs2 : List (List Int)} {ys : List Int} {l : List Value} (h : Grow2 B e1 e2 w v1 v2 xs1 xs2) (hl : w.ownsRow B e1 1 v1 xs1.length l) (hr : OwnInts B w.heap.size w r ys) (a1 : ApartV r v1) (a2 : ApartV r v2)
    (ho : w'.ownsRow B e1 1 (.slice (some ⟨g, 0, none⟩) (xs1.length + 1) cap) (xs1.length + 1) (l ++ [r])) (hg : w.grownBy w' v1.ownBlock) (hloc : v1.ownBlock = some g ∨ w.heap.size ≤ g) :
    Grow2 B e1 e2 w' (.slice (some ⟨g, 0, none⟩) (xs1.length + 1) cap) v2 (xs1 ++ [ys]) xs2 := by
  obtain ⟨r1, r2, h1, h2, h3, h4, h5⟩ := h
  have hll : l = (List.range xs1.length).map r1 := by
    obtain ⟨A, c, rfl⟩ := ownsRow_form hl
    apply List.ext_getElem
    · have e1 := hl.1
      have e2 := h1.1
      simp at e1 e2 ⊢; omega
    · intro i k1 k2
      obtain ⟨b, _, ⟨c', e⟩, _, _, hc, _⟩ := ownsRow_cells hl i k1
      obtain ⟨b2, _, ⟨c2, e'⟩, _, _, hc2, _⟩ := ownsRow_cells h1 i k2
      cases e
      cases e'
      rw [hc] at hc2
      exact Option.some.inj hc2
  subst hll
  have hs := hg.size
  have b2 := World.ownsRow.lt h2
  refine ⟨fun i => if i < xs1.length then r1 i else r, r2, ?_, ownsRow_grown h2 hg ?_, ?_, fun i hi => ?_, fun i hi => ?_⟩
  · rw [List.length_append, List.length_singleton, range_pick]
    exact ho
  · exact ApartV.symm h3
  · exact ApartV.symm (ApartV.frame (ApartV.symm h3) (fun k hk => (b2 k hk).2) hloc)
  · rw [List.length_append, List.length_singleton] at hi
    by_cases hlt : i < xs1.length
    · simp only [if_pos hlt]
      rw [nth_append_left _ _ _ hlt]
      obtain ⟨k1, k2, k3⟩ := h4 i hlt
      exact ⟨(k1.grown hg k2).widen (Nat.le_refl _) hs, k2.frame (fun k hk => (k1.block k hk).2) hloc, k3⟩
    · have e : i = xs1.length := by omega
      subst e
      simp only [if_neg (Nat.lt_irrefl _)]
      rw [nth_append_here]
      exact ⟨(hr.grown hg a1).widen (Nat.le_refl _) hs, a1.frame (fun k hk => (hr.block k hk).2) hloc, a2⟩
  · obtain ⟨k1, k2, k3⟩ := h5 i hi
    exact ⟨(k1.grown hg k2).widen (Nat.le_refl _) hs, k2.frame (fun k hk => (k1.block k hk).2) hloc, k3⟩
theorem Grow2.swap {B : Nat} {e1 e2 : TypeId} {w : World} {v1 v2 : Value} {xs1 xs2 : List (List Int)} (h : Grow2 B e1 e2 w v1 v2 xs1 xs2) : Grow2 B e2 e1 w v2 v1 xs2 xs1 := by
  obtain ⟨r1, r2, h1, h2, h3, h4, h5⟩ := h
  exact ⟨r2, r1, h2, h1, h3.symm, fun i hi => let ⟨a, b, c⟩ := h5 i hi; ⟨a, c, b⟩, fun i hi => let ⟨a, b, c⟩ := h4 i hi; ⟨a, c, b⟩⟩
/-- A row is appended to the second list. -/
theorem Grow2.app2 {B g cap : Nat} {e1 e2 : TypeId} {w w' : World} {v1 v2 r : Value} {xs1 xs2 : List (List Int)} {ys : List Int} {l : List Value} (h : Grow2 B e1 e2 w v1 v2 xs1 xs2) (hl : w.ownsRow B e2 1 v2 xs2.length l) (hr : OwnInts B w.heap.size w r ys) (a1 : ApartV r v1) (a2 : ApartV r v2)
    (ho : w'.ownsRow B e2 1 (.slice (some ⟨g, 0, none⟩) (xs2.length + 1) cap) (xs2.length + 1) (l ++ [r])) (hg : w.grownBy w' v2.ownBlock) (hloc : v2.ownBlock = some g ∨ w.heap.size ≤ g) :
    Grow2 B e1 e2 w' v1 (.slice (some ⟨g, 0, none⟩) (xs2.length + 1) cap) xs1 (xs2 ++ [ys]) :=
  (h.swap.app1 hl hr a2 a1 ho hg hloc).swap
theorem ownsRow_one {B : Nat} {e : TypeId} {w : World} {x : Value} (h : B ≤ w.heap.size) : (w.alloc (.cells #[x] e)).ownsRow B e 1 (.slice (some ⟨w.heap.size, 0, none⟩) 1 1) 1 [x] :=
  ⟨rfl, .inr ⟨w.heap.size, 1, #[x], rfl, h, heap_alloc_new w _, Nat.le_refl _, by decide, rfl, rfl⟩⟩
/-- Two lists of one row each, just made: a pair, and an empty list. -/
theorem Grow2.start (wq : World) (n : Nat) (hn : wq.heap.size = n) (s t : Int) (T1 T2 : TypeId) :
    Grow2 n T2 T2 ((((wq.alloc (.cells #[.int .i64 s, .int .i64 t] T1)).alloc (.cells #[.slice (some ⟨n, 0, none⟩) 2 2] T2)).alloc (.cells #[] T1)).alloc (.cells #[.slice (some ⟨n + 1 + 1, 0, none⟩) 0 0] T2)) (.slice (some ⟨n + 1, 0, none⟩) 1 1) (.slice (some ⟨n + 1 + 1 + 1, 0, none⟩) 1 1) [[s, t]] [[]] := by
  subst hn
  have s1 : (wq.alloc (.cells #[.int .i64 s, .int .i64 t] T1)).heap.size = wq.heap.size + 1 := size_alloc _ _
  have s3 : (((wq.alloc (.cells #[.int .i64 s, .int .i64 t] T1)).alloc (.cells #[.slice (some ⟨wq.heap.size, 0, none⟩) 2 2] T2)).alloc (.cells #[] T1)).heap.size = wq.heap.size + 1 + 1 + 1 := by simp only [size_alloc]
  refine ⟨fun _ => .slice (some ⟨wq.heap.size, 0, none⟩) 2 2, fun _ => .slice (some ⟨wq.heap.size + 1 + 1, 0, none⟩) 0 0, ?_, ?_, ?_, fun i hi => ?_, fun i hi => ?_⟩
  · have := ownsRow_one (B := wq.heap.size) (e := T2) (w := wq.alloc (.cells #[.int .i64 s, .int .i64 t] T1)) (x := .slice (some ⟨wq.heap.size, 0, none⟩) 2 2) (by omega)
    rw [s1] at this
    exact ownsRow_new this (((New.refl _).alloc _).alloc _)
  · have := ownsRow_one (B := wq.heap.size) (e := T2) (w := ((wq.alloc (.cells #[.int .i64 s, .int .i64 t] T1)).alloc (.cells #[.slice (some ⟨wq.heap.size, 0, none⟩) 2 2] T2)).alloc (.cells #[] T1)) (x := .slice (some ⟨wq.heap.size + 1 + 1, 0, none⟩) 0 0) (by omega)
    rw [s3] at this
    exact this
  · left; simp [Value.ownBlock]
  · simp at hi
    subst hi
    refine ⟨?_, Or.inl (by simp [Value.ownBlock]), Or.inl (by simp [Value.ownBlock]; omega)⟩
    have hb : OwnInts wq.heap.size (wq.heap.size + 1) (wq.alloc (.cells #[.int .i64 s, .int .i64 t] T1)) (.slice (some ⟨wq.heap.size, 0, none⟩) 2 2) [s, t] := by
      refine ⟨_, 2, rfl, by simp, fun a e => by cases e; exact ⟨Nat.le_refl _, Nat.lt_succ_self _⟩, fun i hi => ⟨wq.heap.size, 0, rfl, ?_, by unfold World.frozen?; rw [heap_alloc_new]; simp <;> omega⟩⟩
      have : i = 0 ∨ i = 1 := by simp at hi; omega
      rcases this with rfl | rfl <;> (unfold World.cell?; rw [heap_alloc_new]; rfl)
    exact (hb.new ((((New.refl _).alloc _).alloc _).alloc _)).widen (Nat.le_refl _) (by simp only [size_alloc]; omega)
  · simp at hi
    subst hi
    exact ⟨OwnInts.none' _ (by omega) (by simp only [size_alloc] <;> omega), Or.inl (by simp [Value.ownBlock] <;> omega), Or.inl (by simp [Value.ownBlock])⟩
/-- A list of two numbers, just made. -/
theorem OwnInts.pair (w : World) (x y : Int) (T : TypeId) : OwnInts w.heap.size (w.alloc (.cells #[.int .i64 x, .int .i64 y] T)).heap.size (w.alloc (.cells #[.int .i64 x, .int .i64 y] T)) (.slice (some ⟨w.heap.size, 0, none⟩) 2 2) [x, y] := by
  refine ⟨_, 2, rfl, by simp, fun a e => by cases e; exact ⟨Nat.le_refl _, by rw [size_alloc]; exact Nat.lt_succ_self _⟩, fun i hi => ⟨w.heap.size, 0, rfl, ?_, by unfold World.frozen?; rw [heap_alloc_new]; simp <;> omega⟩⟩
  have : i = 0 ∨ i = 1 := by simp at hi; omega
  rcases this with rfl | rfl <;> (unfold World.cell?; rw [heap_alloc_new]; rfl)

end Go.Proofs.Ytcjmcpfdpnakkaa
