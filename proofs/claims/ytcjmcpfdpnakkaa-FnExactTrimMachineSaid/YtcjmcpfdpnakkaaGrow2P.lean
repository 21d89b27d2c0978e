/- Two lists of lists that are built side by side, no two rows in one block. -/
import Derived.Test.YtcjmcpfdpnakkaaCore
import Derived.Test.YtcjmcpfdpnakkaaMaps
import Derived.WalkKit
import Derived.WalkSpells
import Derived.WalkLawsBesides
import Derived.Deep.QuietTactic
import Derived.Deep.OwnRows
import Derived.BigQuiet
import Derived.KernelRfl
namespace Go.Proofs.Ytcjmcpfdpnakkaa
open Go.RowKit

/-- What the rows of two frames owe each other. -/
structure RowsP (B : Nat) (e1 e2 : TypeId) (w : World) (v1 v2 : Value) (xs1 xs2 : List (List Int)) (r1 r2 : Nat → Value) : Prop where
  o1 : w.ownsRow B e1 1 v1 xs1.length ((List.range xs1.length).map r1)
  o2 : w.ownsRow B e2 1 v2 xs2.length ((List.range xs2.length).map r2)
  av : ApartV v1 v2
  w1 : ∀ i, i < xs1.length → OwnInts B w.heap.size w (r1 i) (nth xs1 i) ∧ ApartV (r1 i) v1 ∧ ApartV (r1 i) v2
  w2 : ∀ i, i < xs2.length → OwnInts B w.heap.size w (r2 i) (nth xs2 i) ∧ ApartV (r2 i) v1 ∧ ApartV (r2 i) v2
  p1 : ∀ i j, i < j → j < xs1.length → ApartV (r1 i) (r1 j)
  p2 : ∀ i j, i < j → j < xs2.length → ApartV (r2 i) (r2 j)
  p3 : ∀ i j, i < xs1.length → j < xs2.length → ApartV (r1 i) (r2 j)
def Grow2P (B : Nat) (e1 e2 : TypeId) (w : World) (v1 v2 : Value) (xs1 xs2 : List (List Int)) : Prop := ∃ r1 r2, RowsP B e1 e2 w v1 v2 xs1 xs2 r1 r2
/-- A row beside them, that is to be the second list's. -/
def Grow2R (B : Nat) (e1 e2 : TypeId) (w : World) (v1 v2 : Value) (xs1 xs2 : List (List Int)) (r : Value) (ys : List Int) : Prop :=
  ∃ r1 r2, RowsP B e1 e2 w v1 v2 xs1 xs2 r1 r2 ∧ (OwnInts B w.heap.size w r ys ∧ ApartV r v1 ∧ ApartV r v2) ∧ (∀ i, i < xs1.length → ApartV (r1 i) r) ∧ ∀ i, i < xs2.length → ApartV (r2 i) r
section
variable {B : Nat} {e1 e2 : TypeId} {w w' : World} {v1 v2 r : Value} {xs1 xs2 : List (List Int)} {ys : List Int} {r1 r2 : Nat → Value}
theorem RowsP.new (h : RowsP B e1 e2 w v1 v2 xs1 xs2 r1 r2) (hn : New w w') : RowsP B e1 e2 w' v1 v2 xs1 xs2 r1 r2 where
  o1 := ownsRow_new h.o1 hn
  o2 := ownsRow_new h.o2 hn
  av := h.av
  w1 := fun i hi => let ⟨a, b⟩ := h.w1 i hi; ⟨(a.new hn).widen (Nat.le_refl _) hn.size, b⟩
  w2 := fun i hi => let ⟨a, b⟩ := h.w2 i hi; ⟨(a.new hn).widen (Nat.le_refl _) hn.size, b⟩
  p1 := h.p1
  p2 := h.p2
  p3 := h.p3
theorem ne_low {v : Value} {b : Nat} (hv : ∀ k, v.ownBlock = some k → B ≤ k) (hb : b < B) : v.ownBlock ≠ some b ∨ v.ownBlock = none := by
  cases e : v.ownBlock with
  | none => exact Or.inr rfl
  | some k => left; have := hv k e; simp; omega
theorem RowsP.low {b : Nat} (h : RowsP B e1 e2 w v1 v2 xs1 xs2 r1 r2) (hg : w.grownBy w' (some b)) (hb : b < B) : RowsP B e1 e2 w' v1 v2 xs1 xs2 r1 r2 where
  o1 := ownsRow_grown h.o1 hg (ne_low (fun k hk => (World.ownsRow.lt h.o1 k hk).1) hb)
  o2 := ownsRow_grown h.o2 hg (ne_low (fun k hk => (World.ownsRow.lt h.o2 k hk).1) hb)
  av := h.av
  w1 := fun i hi => let ⟨a, c⟩ := h.w1 i hi; ⟨(a.grown hg (ne_low (fun k hk => (a.block k hk).1) hb)).widen (Nat.le_refl _) hg.size, c⟩
  w2 := fun i hi => let ⟨a, c⟩ := h.w2 i hi; ⟨(a.grown hg (ne_low (fun k hk => (a.block k hk).1) hb)).widen (Nat.le_refl _) hg.size, c⟩
  p1 := h.p1
  p2 := h.p2
  p3 := h.p3
theorem RowsP.swap (h : RowsP B e1 e2 w v1 v2 xs1 xs2 r1 r2) : RowsP B e2 e1 w v2 v1 xs2 xs1 r2 r1 where
  o1 := h.o2
  o2 := h.o1
  av := h.av.symm
  w1 := fun i hi => let ⟨a, b, c⟩ := h.w2 i hi; ⟨a, c, b⟩
  w2 := fun i hi => let ⟨a, b, c⟩ := h.w1 i hi; ⟨a, c, b⟩
  p1 := h.p2
  p2 := h.p1
  p3 := fun i j hi hj => (h.p3 j i hj hi).symm
/-- A row is appended to the first list. -/
theorem RowsP.app1 {g cap : Nat} (h : RowsP B e1 e2 w v1 v2 xs1 xs2 r1 r2) (hr : OwnInts B w.heap.size w r ys) (a1 : ApartV r v1) (a2 : ApartV r v2) (b1 : ∀ i, i < xs1.length → ApartV (r1 i) r) (b2 : ∀ i, i < xs2.length → ApartV (r2 i) r)
    (ho : w'.ownsRow B e1 1 (.slice (some ⟨g, 0, none⟩) (xs1.length + 1) cap) (xs1.length + 1) ((List.range xs1.length).map r1 ++ [r])) (hg : w.grownBy w' v1.ownBlock) (hloc : v1.ownBlock = some g ∨ w.heap.size ≤ g) :
    RowsP B e1 e2 w' (.slice (some ⟨g, 0, none⟩) (xs1.length + 1) cap) v2 (xs1 ++ [ys]) xs2 (fun i => if i < xs1.length then r1 i else r) r2 := by
  have hs := hg.size
  have q2 := World.ownsRow.lt h.o2
  have hl : (xs1 ++ [ys]).length = xs1.length + 1 := by simp
  refine ⟨?_, ownsRow_grown h.o2 hg h.av.symm, ApartV.symm (ApartV.frame h.av.symm (fun k hk => (q2 k hk).2) hloc), fun i hi => ?_, fun i hi => ?_, fun i j hij hj => ?_, h.p2, fun i j hi hj => ?_⟩
  · rw [hl, range_pick]; exact ho
  · rw [hl] at hi
    by_cases e : i < xs1.length
    · simp only [if_pos e]
      rw [nth_append_left _ _ _ e]
      obtain ⟨k1, k2, k3⟩ := h.w1 i e
      exact ⟨(k1.grown hg k2).widen (Nat.le_refl _) hs, k2.frame (fun k hk => (k1.block k hk).2) hloc, k3⟩
    · have e' : i = xs1.length := by omega
      subst e'
      simp only [if_neg (Nat.lt_irrefl _)]
      rw [nth_append_here]
      exact ⟨(hr.grown hg a1).widen (Nat.le_refl _) hs, a1.frame (fun k hk => (hr.block k hk).2) hloc, a2⟩
  · obtain ⟨k1, k2, k3⟩ := h.w2 i hi
    exact ⟨(k1.grown hg k2).widen (Nat.le_refl _) hs, k2.frame (fun k hk => (k1.block k hk).2) hloc, k3⟩
  · rw [hl] at hj
    have e1 : i < xs1.length := by omega
    simp only [if_pos e1]
    by_cases e : j < xs1.length
    · simp only [if_pos e]; exact h.p1 i j hij e
    · simp only [if_neg e]; exact b1 i e1
  · rw [hl] at hi
    by_cases e : i < xs1.length
    · simp only [if_pos e]; exact h.p3 i j e hj
    · simp only [if_neg e]; exact (b2 j hj).symm
theorem Grow2P.new (h : Grow2P B e1 e2 w v1 v2 xs1 xs2) (hn : New w w') : Grow2P B e1 e2 w' v1 v2 xs1 xs2 := let ⟨r1, r2, h⟩ := h; ⟨r1, r2, h.new hn⟩
theorem Grow2P.low {b : Nat} (h : Grow2P B e1 e2 w v1 v2 xs1 xs2) (hg : w.grownBy w' (some b)) (hb : b < B) : Grow2P B e1 e2 w' v1 v2 xs1 xs2 := let ⟨r1, r2, h⟩ := h; ⟨r1, r2, h.low hg hb⟩
theorem Grow2P.form (h : Grow2P B e1 e2 w v1 v2 xs1 xs2) : (∃ A c, v1 = .slice A xs1.length c) ∧ ∃ A c, v2 = .slice A xs2.length c := let ⟨_, _, h⟩ := h; ⟨ownsRow_form h.o1, ownsRow_form h.o2⟩
theorem Grow2P.blocks (h : Grow2P B e1 e2 w v1 v2 xs1 xs2) : (∀ k, v1.ownBlock = some k → B ≤ k ∧ k < w.heap.size) ∧ ∀ k, v2.ownBlock = some k → B ≤ k ∧ k < w.heap.size := let ⟨_, _, h⟩ := h; ⟨World.ownsRow.lt h.o1, World.ownsRow.lt h.o2⟩
theorem Grow2P.nil (B : Nat) (e1 e2 : TypeId) (w : World) : Grow2P B e1 e2 w (.slice none 0 0) (.slice none 0 0) [] [] :=
  ⟨fun _ => default, fun _ => default, World.ownsRow_nil _ _ _ _, World.ownsRow_nil _ _ _ _, Or.inr rfl, fun i hi => by simp at hi, fun i hi => by simp at hi, fun i j _ hj => by simp at hj, fun i j _ hj => by simp at hj, fun i j hi => by simp at hi⟩
/-- The first append: two new rows, apart from each other; the second one waits. -/
theorem RowsP.app1R {w0 : World} {ro : Value} {yo : List Int} (h : RowsP B e1 e2 w0 v1 v2 xs1 xs2 r1 r2) (hn : New w0 w) (hB : B ≤ w0.heap.size) (hr : OwnInts w0.heap.size w.heap.size w r ys) (ho' : OwnInts w0.heap.size w.heap.size w ro yo) (hap : ApartV r ro)
    (g cap : Nat) (w' : World) (ho : w'.ownsRow B e1 1 (.slice (some ⟨g, 0, none⟩) (xs1.length + 1) cap) (xs1.length + 1) ((List.range xs1.length).map r1 ++ [r])) (hg : w.grownBy w' v1.ownBlock) (hloc : v1.ownBlock = some g ∨ w.heap.size ≤ g) :
      Grow2R B e1 e2 w' (.slice (some ⟨g, 0, none⟩) (xs1.length + 1) cap) v2 (xs1 ++ [ys]) xs2 ro yo := by
  have hN := h.new hn
  have q1 := World.ownsRow.lt h.o1
  have q2 := World.ownsRow.lt h.o2
  have fr : ∀ {x : Value} {zs : List Int} {u : Value}, OwnInts w0.heap.size w.heap.size w x zs → (∀ k, u.ownBlock = some k → k < w0.heap.size) → ApartV x u := fun hx hu => ApartV.of_lt (fun k hk => (hx.block k hk).1) hu
  have a1 := fr hr (fun k hk => (q1 k hk).2)
  have a2 := fr hr (fun k hk => (q2 k hk).2)
  have c1 := fr ho' (fun k hk => (q1 k hk).2)
  have c2 := fr ho' (fun k hk => (q2 k hk).2)
  have old1 : ∀ i, i < xs1.length → ∀ k, (r1 i).ownBlock = some k → k < w0.heap.size := fun i hi k hk => ((h.w1 i hi).1.block k hk).2
  have old2 : ∀ i, i < xs2.length → ∀ k, (r2 i).ownBlock = some k → k < w0.heap.size := fun i hi k hk => ((h.w2 i hi).1.block k hk).2
  have hA := hN.app1 (hr.widen hB (Nat.le_refl _)) a1 a2 (fun i hi => (fr hr (old1 i hi)).symm) (fun i hi => (fr hr (old2 i hi)).symm) ho hg hloc
  refine ⟨_, _, hA, ⟨((ho'.widen hB (Nat.le_refl _)).grown hg c1).widen (Nat.le_refl _) hg.size, c1.frame (fun k hk => (ho'.block k hk).2) hloc, c2⟩, fun i hi => ?_, fun i hi => (fr ho' (old2 i hi)).symm⟩
  rw [List.length_append, List.length_singleton] at hi
  by_cases e : i < xs1.length
  · simp only [if_pos e]; exact (fr ho' (old1 i e)).symm
  · simp only [if_neg e]; exact hap
theorem Grow2P.app1 {w0 : World} {ro : Value} {yo : List Int} (h : Grow2P B e1 e2 w0 v1 v2 xs1 xs2) (hn : New w0 w) (hB : B ≤ w0.heap.size) (hr : OwnInts w0.heap.size w.heap.size w r ys) (ho' : OwnInts w0.heap.size w.heap.size w ro yo) (hap : ApartV r ro) :
    ∃ l, w.ownsRow B e1 1 v1 xs1.length l ∧ ∀ (g cap : Nat) (w' : World), w'.ownsRow B e1 1 (.slice (some ⟨g, 0, none⟩) (xs1.length + 1) cap) (xs1.length + 1) (l ++ [r]) → w.grownBy w' v1.ownBlock → (v1.ownBlock = some g ∨ w.heap.size ≤ g) →
      Grow2R B e1 e2 w' (.slice (some ⟨g, 0, none⟩) (xs1.length + 1) cap) v2 (xs1 ++ [ys]) xs2 ro yo :=
  let ⟨_, _, h⟩ := h
  ⟨_, (h.new hn).o1, fun g cap w' ho hg hloc => h.app1R hn hB hr ho' hap g cap w' ho hg hloc⟩
/-- The first append, in a world that has grown since. -/
theorem Grow2P.app1N {w0 : World} {ro : Value} {yo : List Int} (h : Grow2P B e1 e2 w0 v1 v2 xs1 xs2) (hn : New w0 w) (hB : B ≤ w0.heap.size) (hr : OwnInts w0.heap.size w.heap.size w r ys) (ho' : OwnInts w0.heap.size w.heap.size w ro yo) (hap : ApartV r ro) :
    ∃ l, w.ownsRow B e1 1 v1 xs1.length l ∧ ∀ (W1 : World) (g cap : Nat) (w' : World), New w W1 → w'.ownsRow B e1 1 (.slice (some ⟨g, 0, none⟩) (xs1.length + 1) cap) (xs1.length + 1) (l ++ [r]) → W1.grownBy w' v1.ownBlock → (v1.ownBlock = some g ∨ W1.heap.size ≤ g) →
      Grow2R B e1 e2 w' (.slice (some ⟨g, 0, none⟩) (xs1.length + 1) cap) v2 (xs1 ++ [ys]) xs2 ro yo :=
  let ⟨_, _, h⟩ := h
  ⟨_, (h.new hn).o1, fun _ g cap w' hW ho hg hloc => h.app1R (hn.trans hW) hB ((hr.new hW).widen (Nat.le_refl _) hW.size) ((ho'.new hW).widen (Nat.le_refl _) hW.size) hap g cap w' ho hg hloc⟩
theorem Grow2R.new (h : Grow2R B e1 e2 w v1 v2 xs1 xs2 r ys) (hn : New w w') : Grow2R B e1 e2 w' v1 v2 xs1 xs2 r ys :=
  let ⟨r1, r2, h, ⟨a, b⟩, c⟩ := h; ⟨r1, r2, h.new hn, ⟨(a.new hn).widen (Nat.le_refl _) hn.size, b⟩, c⟩
theorem Grow2R.low {b : Nat} (h : Grow2R B e1 e2 w v1 v2 xs1 xs2 r ys) (hg : w.grownBy w' (some b)) (hb : b < B) : Grow2R B e1 e2 w' v1 v2 xs1 xs2 r ys :=
  let ⟨r1, r2, h, ⟨a, d⟩, c⟩ := h; ⟨r1, r2, h.low hg hb, ⟨(a.grown hg (ne_low (fun k hk => (a.block k hk).1) hb)).widen (Nat.le_refl _) hg.size, d⟩, c⟩
theorem Grow2R.form (h : Grow2R B e1 e2 w v1 v2 xs1 xs2 r ys) : (∃ A c, v1 = .slice A xs1.length c) ∧ ∃ A c, v2 = .slice A xs2.length c := let ⟨_, _, h, _⟩ := h; ⟨ownsRow_form h.o1, ownsRow_form h.o2⟩
theorem Grow2R.blocks (h : Grow2R B e1 e2 w v1 v2 xs1 xs2 r ys) : (∀ k, v1.ownBlock = some k → B ≤ k ∧ k < w.heap.size) ∧ ∀ k, v2.ownBlock = some k → B ≤ k ∧ k < w.heap.size := let ⟨_, _, h, _⟩ := h; ⟨World.ownsRow.lt h.o1, World.ownsRow.lt h.o2⟩
/-- The second append. -/
theorem Grow2R.app2 (h : Grow2R B e1 e2 w v1 v2 xs1 xs2 r ys) :
    ∃ l, w.ownsRow B e2 1 v2 xs2.length l ∧ ∀ (g cap : Nat) (w' : World), w'.ownsRow B e2 1 (.slice (some ⟨g, 0, none⟩) (xs2.length + 1) cap) (xs2.length + 1) (l ++ [r]) → w.grownBy w' v2.ownBlock → (v2.ownBlock = some g ∨ w.heap.size ≤ g) →
      Grow2P B e1 e2 w' v1 (.slice (some ⟨g, 0, none⟩) (xs2.length + 1) cap) xs1 (xs2 ++ [ys]) := by
  obtain ⟨r1, r2, h, ⟨a, b, c⟩, d1, d2⟩ := h
  exact ⟨_, h.o2, fun g cap w' ho hg hloc => ⟨_, _, (h.swap.app1 a c b d2 d1 ho hg hloc).swap⟩⟩
/-- The second append, in a world that has grown since. -/
theorem Grow2R.app2N (h : Grow2R B e1 e2 w v1 v2 xs1 xs2 r ys) :
    ∃ l, w.ownsRow B e2 1 v2 xs2.length l ∧ ∀ (W1 : World) (g cap : Nat) (w' : World), New w W1 → w'.ownsRow B e2 1 (.slice (some ⟨g, 0, none⟩) (xs2.length + 1) cap) (xs2.length + 1) (l ++ [r]) → W1.grownBy w' v2.ownBlock → (v2.ownBlock = some g ∨ W1.heap.size ≤ g) →
      Grow2P B e1 e2 w' v1 (.slice (some ⟨g, 0, none⟩) (xs2.length + 1) cap) xs1 (xs2 ++ [ys]) := by
  obtain ⟨r1, r2, h, ⟨a, b, c⟩, d1, d2⟩ := h
  exact ⟨_, h.o2, fun W1 g cap w' hn ho hg hloc => ⟨_, _, ((h.new hn).swap.app1 ((a.new hn).widen (Nat.le_refl _) hn.size) c b d2 d1 ho hg hloc).swap⟩⟩
theorem RowsP.own1 (h : RowsP B e1 e2 w v1 v2 xs1 xs2 r1 r2) (hl : xs1.length ≤ 1099511627776) : OwnRows B w.heap.size w v1 xs1 :=
  GrowRows.own (e := e1) ⟨r1, h.o1, fun i hi => ⟨(h.w1 i hi).1, (h.w1 i hi).2.1⟩, h.p1⟩ hl
theorem RowsP.foot (h : RowsP B e1 e2 w v1 v2 xs1 xs2 r1 r2) (k : Nat) (hk : Foot w v1 k) : v1.ownBlock = some k ∨ ∃ i, i < xs1.length ∧ (r1 i).ownBlock = some k := by
  rcases hk with hk | ⟨b, off, n, c, i, rv, e, hi, hx, hb⟩
  · exact Or.inl hk
  · right
    obtain ⟨A, c', e'⟩ := ownsRow_form h.o1
    rw [e'] at e
    cases e
    obtain ⟨b2, _, ⟨c2, e2⟩, _, _, hc, _⟩ := ownsRow_cells h.o1 i (by simpa using hi)
    rw [e'] at e2
    cases e2
    rw [Nat.zero_add, hc] at hx
    simp at hx
    subst hx
    exact ⟨i, hi, hb⟩
/-- The two lists as a machine's tables. -/
theorem Grow2P.mach {m : Mach} (h : Grow2P B e1 e2 w v1 v2 m.nx m.out) (h1 : m.nx.length ≤ 1099511627776) (h2 : m.out.length ≤ 1099511627776) : OwnMach B w.heap.size w (.agg #[.int .i64 m.n, .int .i64 m.o, v1, v2]) m := by
  obtain ⟨r1, r2, h⟩ := h
  refine ⟨v1, v2, rfl, h.own1 h1, h.swap.own1 h2, fun k k1 k2 => ?_⟩
  have ne : ∀ {a b : Value}, ApartV a b → a.ownBlock = some k → b.ownBlock = some k → False := fun hab ha hb => by
    rcases hab with q | q
    · exact q (ha.trans hb.symm)
    · rw [q] at ha; cases ha
  rcases h.foot k k1 with q1 | ⟨i, hi, q1⟩ <;> rcases h.swap.foot k k2 with q2 | ⟨j, hj, q2⟩
  · exact ne h.av q1 q2
  · exact ne (h.w2 j hj).2.1 q2 q1
  · exact ne (h.w1 i hi).2.2 q1 q2
  · exact ne (h.p3 i j hi hj) q1 q2
end

end Go.Proofs.Ytcjmcpfdpnakkaa
