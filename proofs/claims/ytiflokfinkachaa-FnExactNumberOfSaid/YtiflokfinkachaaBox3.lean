/- A box of three cells; one more solid element. -/
import Derived.Test.YtiflokfinkachaaCore
import Derived.Test.YtiflokfinkachaaMaps
import Derived.Test.YtiflokfinkachaaCho
import Derived.Test.YtiflokfinkachaaSolid
import Derived.WalkKit
import Derived.WalkSpells
import Derived.WalkLawsBesides
import Derived.Deep.QuietTactic
import Derived.Deep.OwnRows
import Derived.BigQuiet
import Derived.KernelRfl
namespace Go.Proofs.Ytiflokfinkachaa
open Go.RowKit

section
variable {S S' : Nat → Prop} {w w' : World} {b : Nat} {v : Value}
/-- A box of three cells, all of which may be written. -/
def Box3 (w : World) (b : Nat) (u0 u1 u2 : Value) : Prop := (w.cell? ⟨b, 0, none⟩ = some u0 ∧ w.cell? ⟨b, 1, none⟩ = some u1 ∧ w.cell? ⟨b, 2, none⟩ = some u2) ∧ (w.frozen? ⟨b, 0, none⟩ = false ∧ w.frozen? ⟨b, 1, none⟩ = false ∧ w.frozen? ⟨b, 2, none⟩ = false)
theorem Box3.lt {u0 u1 u2 : Value} (h : Box3 w b u0 u1 u2) : b < w.heap.size := World.block_lt_of_cell? w _ h.1.1
theorem Box3.but {u0 u1 u2 : Value} (h : Box3 w b u0 u1 u2) (hb : But S w w') (hS : ¬ S b) : Box3 w' b u0 u1 u2 :=
  let ⟨⟨a0, a1, a2⟩, f0, f1, f2⟩ := h
  ⟨⟨hb.cell a0 hS, hb.cell a1 hS, hb.cell a2 hS⟩, by rw [hb.frozen a0 hS]; exact f0, by rw [hb.frozen a1 hS]; exact f1, by rw [hb.frozen a2 hS]; exact f2⟩
theorem Box3.new {u0 u1 u2 : Value} (h : Box3 w b u0 u1 u2) (hn : New w w') : Box3 w' b u0 u1 u2 := h.but (S := fun _ => False) (But.of_new hn) id
theorem Box3.set0 {u0 u1 u2 : Value} (h : Box3 w b u0 u1 u2) (x : Value) : Box3 (w.setCell ⟨b, 0, none⟩ x) b x u1 u2 :=
  ⟨⟨World.cell?_setCell_same _ _ _ h.1.1, by rw [World.cell?_setCell_other]; exact h.1.2.1; simp, by rw [World.cell?_setCell_other]; exact h.1.2.2; simp⟩, by simpa using h.2.1, by simpa using h.2.2.1, by simpa using h.2.2.2⟩
theorem Box3.set1 {u0 u1 u2 : Value} (h : Box3 w b u0 u1 u2) (x : Value) : Box3 (w.setCell ⟨b, 1, none⟩ x) b u0 x u2 :=
  ⟨⟨by rw [World.cell?_setCell_other]; exact h.1.1; simp, World.cell?_setCell_same _ _ _ h.1.2.1, by rw [World.cell?_setCell_other]; exact h.1.2.2; simp⟩, by simpa using h.2.1, by simpa using h.2.2.1, by simpa using h.2.2.2⟩
theorem Box3.set2 {u0 u1 u2 : Value} (h : Box3 w b u0 u1 u2) (x : Value) : Box3 (w.setCell ⟨b, 2, none⟩ x) b u0 u1 x :=
  ⟨⟨by rw [World.cell?_setCell_other]; exact h.1.1; simp, by rw [World.cell?_setCell_other]; exact h.1.2.1; simp, World.cell?_setCell_same _ _ _ h.1.2.2⟩, by simpa using h.2.1, by simpa using h.2.2.1, by simpa using h.2.2.2⟩
end
section
variable {α : Type} [Inhabited α] {R : World → Value → α → Prop} {S : Nat → Prop} {B : Nat} {e : TypeId} {w : World} {v : Value} {xs : List α}
/-- One more element: the list's frame before the append, and what the list is behind it. -/
theorem GrowS.appT (h : GrowS R S B e w v xs) : ∃ l, w.ownsRow B e 1 v xs.length l ∧ ∀ (T S' : Nat → Prop) (w1 w' : World) (g cap : Nat) (r : Value) (x : α),
    But T w w1 → (∀ k, T k → S k ∨ w.heap.size ≤ k) → (∀ k, v.ownBlock = some k → S k) → Solid S w1 (fun w => R w r x) → w'.ownsRow B e 1 (.slice (some ⟨g, 0, none⟩) (xs.length + 1) cap) (xs.length + 1) (l ++ [r]) → w1.grownBy w' v.ownBlock → (∀ k, S' k → S k ∨ w1.heap.size ≤ k) →
    GrowS R S' B e w' (.slice (some ⟨g, 0, none⟩) (xs.length + 1) cap) (xs ++ [x]) := by
  obtain ⟨rr, h1, h2⟩ := h
  refine ⟨_, h1, fun T S' w1 w' g cap r x hb hT hv hr ho hg hS => ?_⟩
  have hs := hb.size
  have hb2 : But S w1 w' := But.of_grown hg hv
  refine ⟨fun i => if i < xs.length then rr i else r, by rw [List.length_append, List.length_singleton, range_pick]; exact ho, fun i hi => ?_⟩
  rw [List.length_append, List.length_singleton] at hi
  by_cases e : i < xs.length
  · simp only [if_pos e]
    rw [nth_append_left _ _ _ e]
    exact ((h2 i e).step (S' := S) (But.trans But.refl hb hT) (fun k hk => Or.inl hk)).step hb2 hS
  · have e' : i = xs.length := by omega
    subst e'
    simp only [if_neg (Nat.lt_irrefl _)]
    rw [nth_append_here]
    exact hr.step hb2 hS
end
theorem But.of_within {B E : Nat} {w w' : World} (h : Within B E w w') : But (fun k => B ≤ k ∧ k < E) w w' := ⟨h.1, h.2.1, h.2.2.1, h.2.2.2.1, fun k hk hn => h.2.2.2.2 k hk (by omega)⟩
theorem But.mono {S S' : Nat → Prop} {w w' : World} (h : But S w w') (hS : ∀ k, S k → S' k) : But S' w w' := ⟨h.1, h.2.1, h.2.2.1, h.2.2.2.1, fun k hk hn => h.2.2.2.2 k hk (fun q => hn (hS k q))⟩

end Go.Proofs.Ytiflokfinkachaa
