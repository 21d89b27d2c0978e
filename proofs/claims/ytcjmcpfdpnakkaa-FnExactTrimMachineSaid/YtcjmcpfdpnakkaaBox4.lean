/- A box of four cells, all of which may be written. -/
import Derived.Test.YtcjmcpfdpnakkaaCore
import Derived.WalkKit
import Derived.WalkSpells
import Derived.WalkLawsBesides
import Derived.Deep.QuietTactic
import Derived.Deep.OwnRows
import Derived.BigQuiet
import Derived.KernelRfl
namespace Go.Proofs.Ytcjmcpfdpnakkaa
open Go.RowKit

def Box4 (w : World) (b : Nat) (u0 u1 u2 u3 : Value) : Prop :=
  (w.cell? ⟨b, 0, none⟩ = some u0 ∧ w.cell? ⟨b, 1, none⟩ = some u1 ∧ w.cell? ⟨b, 2, none⟩ = some u2 ∧ w.cell? ⟨b, 3, none⟩ = some u3) ∧ (w.frozen? ⟨b, 0, none⟩ = false ∧ w.frozen? ⟨b, 1, none⟩ = false ∧ w.frozen? ⟨b, 2, none⟩ = false ∧ w.frozen? ⟨b, 3, none⟩ = false)
section
variable {w w' : World} {b : Nat} {u0 u1 u2 u3 : Value}
theorem Box4.lt (h : Box4 w b u0 u1 u2 u3) : b < w.heap.size := World.block_lt_of_cell? w _ h.1.1
theorem Box4.new (h : Box4 w b u0 u1 u2 u3) (hn : New w w') : Box4 w' b u0 u1 u2 u3 :=
  let ⟨⟨a0, a1, a2, a3⟩, f0, f1, f2, f3⟩ := h
  ⟨⟨hn.cell a0, hn.cell a1, hn.cell a2, hn.cell a3⟩, by rw [hn.frozen a0]; exact f0, by rw [hn.frozen a1]; exact f1, by rw [hn.frozen a2]; exact f2, by rw [hn.frozen a3]; exact f3⟩
theorem Box4.block (h : Box4 w b u0 u1 u2 u3) (hb : w'.heap[b]? = w.heap[b]?) : Box4 w' b u0 u1 u2 u3 := by
  obtain ⟨⟨a0, a1, a2, a3⟩, f0, f1, f2, f3⟩ := h
  refine ⟨⟨?_, ?_, ?_, ?_⟩, ?_, ?_, ?_, ?_⟩ <;> first | rw [World.cell?_of_block (w := w) hb]; assumption | rw [World.frozen?_of_block (w := w) hb]; assumption
theorem Box4.grown {r : Option Nat} (h : Box4 w b u0 u1 u2 u3) (hg : w.grownBy w' r) (hr : ∀ k, r = some k → k ≠ b) : Box4 w' b u0 u1 u2 u3 :=
  h.block (hg.block b h.lt (fun e => hr b e.symm rfl))
theorem Box4.other (h : Box4 w b u0 u1 u2 u3) (p : Addr) (hp : p.block ≠ b) (x : Value) : Box4 (w.setCell p x) b u0 u1 u2 u3 := h.block (Below.heap_setCell _ _ _ _ (Ne.symm hp))
theorem Box4.set0 (h : Box4 w b u0 u1 u2 u3) (x : Value) : Box4 (w.setCell ⟨b, 0, none⟩ x) b x u1 u2 u3 :=
  ⟨⟨World.cell?_setCell_same _ _ _ h.1.1, by rw [World.cell?_setCell_other]; exact h.1.2.1; simp, by rw [World.cell?_setCell_other]; exact h.1.2.2.1; simp, by rw [World.cell?_setCell_other]; exact h.1.2.2.2; simp⟩, by simpa using h.2.1, by simpa using h.2.2.1, by simpa using h.2.2.2.1, by simpa using h.2.2.2.2⟩
theorem Box4.set1 (h : Box4 w b u0 u1 u2 u3) (x : Value) : Box4 (w.setCell ⟨b, 1, none⟩ x) b u0 x u2 u3 :=
  ⟨⟨by rw [World.cell?_setCell_other]; exact h.1.1; simp, World.cell?_setCell_same _ _ _ h.1.2.1, by rw [World.cell?_setCell_other]; exact h.1.2.2.1; simp, by rw [World.cell?_setCell_other]; exact h.1.2.2.2; simp⟩, by simpa using h.2.1, by simpa using h.2.2.1, by simpa using h.2.2.2.1, by simpa using h.2.2.2.2⟩
theorem Box4.set2 (h : Box4 w b u0 u1 u2 u3) (x : Value) : Box4 (w.setCell ⟨b, 2, none⟩ x) b u0 u1 x u3 :=
  ⟨⟨by rw [World.cell?_setCell_other]; exact h.1.1; simp, by rw [World.cell?_setCell_other]; exact h.1.2.1; simp, World.cell?_setCell_same _ _ _ h.1.2.2.1, by rw [World.cell?_setCell_other]; exact h.1.2.2.2; simp⟩, by simpa using h.2.1, by simpa using h.2.2.1, by simpa using h.2.2.2.1, by simpa using h.2.2.2.2⟩
theorem Box4.set3 (h : Box4 w b u0 u1 u2 u3) (x : Value) : Box4 (w.setCell ⟨b, 3, none⟩ x) b u0 u1 u2 x :=
  ⟨⟨by rw [World.cell?_setCell_other]; exact h.1.1; simp, by rw [World.cell?_setCell_other]; exact h.1.2.1; simp, by rw [World.cell?_setCell_other]; exact h.1.2.2.1; simp, World.cell?_setCell_same _ _ _ h.1.2.2.2⟩, by simpa using h.2.1, by simpa using h.2.2.1, by simpa using h.2.2.2.1, by simpa using h.2.2.2.2⟩
theorem Box4.fill (h : Box4 w b u0 u1 u2 u3) (x0 x1 x2 x3 : Value) : Box4 ((((w.setCell ⟨b, 0, none⟩ x0).setCell ⟨b, 1, none⟩ x1).setCell ⟨b, 2, none⟩ x2).setCell ⟨b, 3, none⟩ x3) b x0 x1 x2 x3 := (((h.set0 x0).set1 x1).set2 x2).set3 x3
theorem Within.fill4 (w : World) (b : Nat) (x0 x1 x2 x3 : Value) : Within b (b + 1) w ((((w.setCell ⟨b, 0, none⟩ x0).setCell ⟨b, 1, none⟩ x1).setCell ⟨b, 2, none⟩ x2).setCell ⟨b, 3, none⟩ x3) :=
  ((((Within.refl _ _ _).setCell (p := ⟨b, 0, none⟩) (Nat.le_refl _) (Nat.lt_succ_self _) _).setCell (p := ⟨b, 1, none⟩) (Nat.le_refl _) (Nat.lt_succ_self _) _).setCell (p := ⟨b, 2, none⟩) (Nat.le_refl _) (Nat.lt_succ_self _) _).setCell (p := ⟨b, 3, none⟩) (Nat.le_refl _) (Nat.lt_succ_self _) _
end

end Go.Proofs.Ytcjmcpfdpnakkaa
