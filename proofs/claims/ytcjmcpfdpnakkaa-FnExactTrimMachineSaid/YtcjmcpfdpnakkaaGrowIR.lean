/- A list of numbers and a list of lists, built side by side; two lists of numbers, built side by side. -/
import Derived.Test.YtcjmcpfdpnakkaaCore
import Derived.Test.YtcjmcpfdpnakkaaMaps
import Derived.WalkKit
import Derived.WalkSpells
import Derived.WalkLawsBesides
import Derived.Deep.QuietTactic
import Derived.Deep.OwnRows
import Derived.BigQuiet
import Derived.KernelRfl
namespace Go.Proofs.Ytcjmcpfdpnakkaa
open Go.RowKit

section
variable {B : Nat} {e1 e2 : TypeId} {w w' : World} {v1 v2 r : Value} {xs1 : List Int} {xs2 : List (List Int)} {ys : List Int}
def GrowIR (B : Nat) (e1 e2 : TypeId) (w : World) (v1 v2 : Value) (xs1 : List Int) (xs2 : List (List Int)) : Prop :=
  Grow B e1 w v1 xs1 ∧ ∃ r2 : Nat → Value, w.ownsRow B e2 1 v2 xs2.length ((List.range xs2.length).map r2) ∧ ApartV v1 v2 ∧ ∀ i, i < xs2.length → RowIn B w v1 v2 (r2 i) (nth xs2 i)
theorem GrowIR.new (h : GrowIR B e1 e2 w v1 v2 xs1 xs2) (hn : New w w') : GrowIR B e1 e2 w' v1 v2 xs1 xs2 :=
  let ⟨h1, r2, h2, h3, h4⟩ := h; ⟨h1.new hn, r2, ownsRow_new h2 hn, h3, fun i hi => (h4 i hi).new hn⟩
theorem GrowIR.form (h : GrowIR B e1 e2 w v1 v2 xs1 xs2) : (∃ A c, v1 = .slice A xs1.length c) ∧ ∃ A c, v2 = .slice A xs2.length c := let ⟨h1, _, h2, _⟩ := h; ⟨h1.form, ownsRow_form h2⟩
theorem GrowIR.blocks (h : GrowIR B e1 e2 w v1 v2 xs1 xs2) : (∀ k, v1.ownBlock = some k → B ≤ k ∧ k < w.heap.size) ∧ ∀ k, v2.ownBlock = some k → B ≤ k ∧ k < w.heap.size := let ⟨h1, _, h2, _⟩ := h; ⟨h1.block, World.ownsRow.lt h2⟩
theorem GrowIR.app1 {g cap : Nat} {z : Int} (h : GrowIR B e1 e2 w v1 v2 xs1 xs2) (ho : w'.ownsRow B e1 1 (.slice (some ⟨g, 0, none⟩) (xs1.length + 1) cap) (xs1.length + 1) (xs1.map (Value.int .i64) ++ [.int .i64 z])) (hg : w.grownBy w' v1.ownBlock) (hloc : v1.ownBlock = some g ∨ w.heap.size ≤ g) :
    GrowIR B e1 e2 w' (.slice (some ⟨g, 0, none⟩) (xs1.length + 1) cap) v2 (xs1 ++ [z]) xs2 := by
  obtain ⟨h1, r2, h2, h3, h4⟩ := h
  have b2 := World.ownsRow.lt h2
  exact ⟨by simpa [Grow] using ho, r2, ownsRow_grown h2 hg h3.symm, ApartV.symm (ApartV.frame h3.symm (fun k hk => (b2 k hk).2) hloc), fun i hi => (h4 i hi).app1 hg hloc⟩
theorem GrowIR.spine (h : GrowIR B e1 e2 w v1 v2 xs1 xs2) : ∃ l, w.ownsRow B e2 1 v2 xs2.length l ∧ ∀ (g cap : Nat) (w5 w6 w' : World) (r : Value) (ys : List Int), New w w5 → New w5 w6 → OwnInts w5.heap.size w6.heap.size w6 r ys → w'.ownsRow B e2 1 (.slice (some ⟨g, 0, none⟩) (xs2.length + 1) cap) (xs2.length + 1) (l ++ [r]) → w6.grownBy w' v2.ownBlock → (v2.ownBlock = some g ∨ w6.heap.size ≤ g) → B ≤ w.heap.size →
    GrowIR B e1 e2 w' v1 (.slice (some ⟨g, 0, none⟩) (xs2.length + 1) cap) xs1 (xs2 ++ [ys]) := by
  obtain ⟨h1, r2, h2, h3, h4⟩ := h
  refine ⟨_, h2, fun g cap w5 w6 w' r ys n5 n6 hr ho hg hloc hB => ?_⟩
  have hn := n5.trans n6
  have s5 := n5.size
  have b1 := h1.block
  have b2 := World.ownsRow.lt h2
  have hr' : RowIn B w6 v1 v2 r ys := RowIn.fresh hr (by omega) (fun k hk => by have := (b1 k hk).2; omega) (fun k hk => by have := (b2 k hk).2; omega)
  have hl : (xs2 ++ [ys]).length = xs2.length + 1 := by simp
  have s6 := hn.size
  refine ⟨ownsRow_grown (ownsRow_new h1 hn) hg h3, fun i => if i < xs2.length then r2 i else r, by rw [hl, range_pick]; exact ho, h3.frame (fun k hk => by have := (b1 k hk).2; omega) hloc, fun i hi => ?_⟩
  rw [hl] at hi
  by_cases e : i < xs2.length
  · simp only [if_pos e]
    rw [nth_append_left _ _ _ e]
    exact ((h4 i e).new hn).app2 hg hloc
  · have e' : i = xs2.length := by omega
    subst e'
    simp only [if_neg (Nat.lt_irrefl _)]
    rw [nth_append_here]
    exact hr'.app2 hg hloc
theorem GrowIR.row (h : GrowIR B e1 e2 w v1 v2 xs1 xs2) (i : Nat) (hi : i < xs2.length) :
    ∃ b c A cr, v2 = .slice (some ⟨b, 0, none⟩) xs2.length c ∧ w.cell? ⟨b, i, none⟩ = some (.slice A (nth xs2 i).length cr) ∧ RowIn B w v1 v2 (.slice A (nth xs2 i).length cr) (nth xs2 i) := by
  obtain ⟨_, r2, h2, _, h4⟩ := h
  obtain ⟨b, hb, ⟨c', e⟩, hB, hlt, hc, _⟩ := ownsRow_cells h2 i (by simpa using hi)
  have ho := h4 i hi
  obtain ⟨A, cr, er⟩ := ho.1.form
  simp at hc
  exact ⟨b, c', A, cr, e, er ▸ hc, er ▸ ho⟩
/-- A list of one number and a list of one empty list, just made. -/
theorem GrowIR.start (wq : World) (n : Nat) (hn : wq.heap.size = n) (s : Int) (T1 T2 : TypeId) :
    GrowIR n T1 T2 (((wq.alloc (.cells #[.int .i64 s] T1)).alloc (.cells #[] T1)).alloc (.cells #[.slice (some ⟨n + 1, 0, none⟩) 0 0] T2)) (.slice (some ⟨n, 0, none⟩) 1 1) (.slice (some ⟨n + 1 + 1, 0, none⟩) 1 1) [s] [[]] := by
  subst hn
  have s2 : ((wq.alloc (.cells #[.int .i64 s] T1)).alloc (.cells #[] T1)).heap.size = wq.heap.size + 1 + 1 := by simp only [size_alloc]
  refine ⟨?_, fun _ => .slice (some ⟨wq.heap.size + 1, 0, none⟩) 0 0, ?_, ?_, fun i hi => ?_⟩
  · have := ownsRow_one (B := wq.heap.size) (e := T1) (w := wq) (x := .int .i64 s) (Nat.le_refl _)
    exact ownsRow_new this (((New.refl _).alloc _).alloc _)
  · have := ownsRow_one (B := wq.heap.size) (e := T2) (w := (wq.alloc (.cells #[.int .i64 s] T1)).alloc (.cells #[] T1)) (x := .slice (some ⟨wq.heap.size + 1, 0, none⟩) 0 0) (by omega)
    rw [s2] at this
    exact this
  · left; simp [Value.ownBlock] <;> omega
  · simp at hi
    subst hi
    exact ⟨OwnInts.none' _ (by omega) (by simp only [size_alloc] <;> omega), Or.inl (by simp [Value.ownBlock] <;> omega), Or.inl (by simp [Value.ownBlock])⟩
/-- Two lists of numbers. -/
def GrowII (B : Nat) (e : TypeId) (w : World) (v1 v2 : Value) (xs ys : List Int) : Prop := Grow B e w v1 xs ∧ Grow B e w v2 ys ∧ ApartV v1 v2
theorem GrowII.new {e : TypeId} {xs ys : List Int} (h : GrowII B e w v1 v2 xs ys) (hn : New w w') : GrowII B e w' v1 v2 xs ys := ⟨h.1.new hn, h.2.1.new hn, h.2.2⟩
theorem GrowII.form {e : TypeId} {xs ys : List Int} (h : GrowII B e w v1 v2 xs ys) : (∃ A c, v1 = .slice A xs.length c) ∧ ∃ A c, v2 = .slice A ys.length c := ⟨h.1.form, h.2.1.form⟩
theorem GrowII.app1 {e : TypeId} {xs ys : List Int} {g cap n : Nat} {z : Int} (h : GrowII B e w v1 v2 xs ys) (hl : xs.length = n) (ho : w'.ownsRow B e 1 (.slice (some ⟨g, 0, none⟩) (n + 1) cap) (n + 1) (xs.map (Value.int .i64) ++ [.int .i64 z])) (hg : w.grownBy w' v1.ownBlock) (hloc : v1.ownBlock = some g ∨ w.heap.size ≤ g) :
    GrowII B e w' (.slice (some ⟨g, 0, none⟩) (n + 1) cap) v2 (xs ++ [z]) ys :=
  ⟨by simpa [Grow, hl] using ho, ownsRow_grown h.2.1 hg h.2.2.symm, ApartV.symm (ApartV.frame h.2.2.symm (fun k hk => (h.2.1.block k hk).2) hloc)⟩
theorem GrowII.swap {e : TypeId} {xs ys : List Int} (h : GrowII B e w v1 v2 xs ys) : GrowII B e w v2 v1 ys xs := ⟨h.2.1, h.1, h.2.2.symm⟩
theorem GrowII.app2 {e : TypeId} {xs ys : List Int} {g cap n : Nat} {z : Int} (h : GrowII B e w v1 v2 xs ys) (hl : ys.length = n) (ho : w'.ownsRow B e 1 (.slice (some ⟨g, 0, none⟩) (n + 1) cap) (n + 1) (ys.map (Value.int .i64) ++ [.int .i64 z])) (hg : w.grownBy w' v2.ownBlock) (hloc : v2.ownBlock = some g ∨ w.heap.size ≤ g) :
    GrowII B e w' v1 (.slice (some ⟨g, 0, none⟩) (n + 1) cap) xs (ys ++ [z]) := (h.swap.app1 hl ho hg hloc).swap
/-- Two empty lists, just made. -/
theorem GrowII.start (w : World) (T : TypeId) (n : Nat) (hn : w.heap.size = n) : GrowII n T ((w.alloc (.cells #[] T)).alloc (.cells #[] T)) (.slice (some ⟨n, 0, none⟩) 0 0) (.slice (some ⟨n + 1, 0, none⟩) 0 0) [] [] := by
  subst hn
  refine ⟨(Grow.empty w.heap.size T w (Nat.le_refl _)).new ((New.refl _).alloc _), ?_, Or.inl (by simp [Value.ownBlock])⟩
  have := Grow.empty w.heap.size T (w.alloc (.cells #[] T)) (by rw [size_alloc]; omega)
  rw [size_alloc] at this
  exact this
theorem Grow.grown {B : Nat} {e : TypeId} {w w' : World} {v u : Value} {xs : List Int} (h : Grow B e w v xs) (hg : w.grownBy w' u.ownBlock) (ha : ApartV v u) : Grow B e w' v xs := ownsRow_grown h hg ha
end
theorem GrowII.row1 {B n : Nat} {e : TypeId} {w : World} {v1 v2 : Value} {xs ys : List Int} (h : GrowII B e w v1 v2 xs ys) (hl : xs.length = n) : w.ownsRow B e 1 v1 n (xs.map (Value.int .i64)) := by subst hl; exact h.1
theorem GrowII.row2 {B n : Nat} {e : TypeId} {w : World} {v1 v2 : Value} {xs ys : List Int} (h : GrowII B e w v1 v2 xs ys) (hl : ys.length = n) : w.ownsRow B e 1 v2 n (ys.map (Value.int .i64)) := by subst hl; exact h.2.1
theorem GrowII.appN1 {B n g cap : Nat} {e : TypeId} {w wx w' : World} {v1 v2 : Value} {xs ys : List Int} {z : Int} (hg : wx.grownBy w' v1.ownBlock) (hn : New w wx) (h : GrowII B e w v1 v2 xs ys) (hl : xs.length = n) (ho : w'.ownsRow B e 1 (.slice (some ⟨g, 0, none⟩) (n + 1) cap) (n + 1) (xs.map (Value.int .i64) ++ [.int .i64 z])) (hloc : v1.ownBlock = some g ∨ wx.heap.size ≤ g) :
    GrowII B e w' (.slice (some ⟨g, 0, none⟩) (n + 1) cap) v2 (xs ++ [z]) ys := (h.new hn).app1 hl ho hg hloc
theorem GrowII.appN2 {B n g cap : Nat} {e : TypeId} {w wx w' : World} {v1 v2 : Value} {xs ys : List Int} {z : Int} (hg : wx.grownBy w' v2.ownBlock) (hn : New w wx) (h : GrowII B e w v1 v2 xs ys) (hl : ys.length = n) (ho : w'.ownsRow B e 1 (.slice (some ⟨g, 0, none⟩) (n + 1) cap) (n + 1) (ys.map (Value.int .i64) ++ [.int .i64 z])) (hloc : v2.ownBlock = some g ∨ wx.heap.size ≤ g) :
    GrowII B e w' v1 (.slice (some ⟨g, 0, none⟩) (n + 1) cap) xs (ys ++ [z]) := (h.new hn).app2 hl ho hg hloc

end Go.Proofs.Ytcjmcpfdpnakkaa
