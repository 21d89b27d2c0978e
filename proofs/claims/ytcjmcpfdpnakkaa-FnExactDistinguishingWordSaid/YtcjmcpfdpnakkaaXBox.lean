/- A box of four cells, two of which are written. -/
import Derived.Test.YtcjmcpfdpnakkaaBase
import Derived.Test.YtcjmcpfdpnakkaaApp
import Derived.Test.YtcjmcpfdpnakkaaAppRows
import Derived.WalkKit
import Derived.WalkSpells
import Derived.WalkLawsBesides
import Derived.Deep.QuietTactic
import Derived.Deep.OwnRows
import Derived.BigQuiet
import Derived.KernelRfl
namespace Go.Proofs.Ytcjmcpfdpnakkaa
open Go.RowKit

def XBox (w : World) (b : Nat) (u0 u1 v1 v2 : Value) : Prop :=
  w.cell? ⟨b, 0, none⟩ = some u0 ∧ w.cell? ⟨b, 1, none⟩ = some u1 ∧ w.cell? ⟨b, 2, none⟩ = some v1 ∧ w.cell? ⟨b, 3, none⟩ = some v2 ∧ w.frozen? ⟨b, 2, none⟩ = false ∧ w.frozen? ⟨b, 3, none⟩ = false
theorem XBox.lt {w : World} {b : Nat} {u0 u1 v1 v2 : Value} (h : XBox w b u0 u1 v1 v2) : b < w.heap.size := World.block_lt_of_cell? w _ h.1
theorem XBox.new {w w' : World} {b : Nat} {u0 u1 v1 v2 : Value} (h : XBox w b u0 u1 v1 v2) (hn : New w w') : XBox w' b u0 u1 v1 v2 :=
  ⟨hn.cell h.1, hn.cell h.2.1, hn.cell h.2.2.1, hn.cell h.2.2.2.1, by rw [hn.frozen h.2.2.1]; exact h.2.2.2.2.1, by rw [hn.frozen h.2.2.2.1]; exact h.2.2.2.2.2⟩
theorem XBox.block {w w' : World} {b : Nat} {u0 u1 v1 v2 : Value} (h : XBox w b u0 u1 v1 v2) (hb : w'.heap[b]? = w.heap[b]?) : XBox w' b u0 u1 v1 v2 :=
  ⟨by rw [World.cell?_of_block (w := w) hb]; exact h.1, by rw [World.cell?_of_block (w := w) hb]; exact h.2.1, by rw [World.cell?_of_block (w := w) hb]; exact h.2.2.1, by rw [World.cell?_of_block (w := w) hb]; exact h.2.2.2.1, by rw [World.frozen?_of_block (w := w) hb]; exact h.2.2.2.2.1, by rw [World.frozen?_of_block (w := w) hb]; exact h.2.2.2.2.2⟩
theorem XBox.grown {w w' : World} {b : Nat} {u0 u1 v1 v2 : Value} {r : Option Nat} (h : XBox w b u0 u1 v1 v2) (hg : w.grownBy w' r) (hr : ∀ k, r = some k → k ≠ b) : XBox w' b u0 u1 v1 v2 :=
  h.block (hg.block b h.lt (fun e => hr b e.symm rfl))
theorem XBox.set2 {w : World} {b : Nat} {u0 u1 v1 v2 : Value} (h : XBox w b u0 u1 v1 v2) (x : Value) : XBox (w.setCell ⟨b, 2, none⟩ x) b u0 u1 x v2 :=
  ⟨by rw [World.cell?_setCell_other]; exact h.1; simp, by rw [World.cell?_setCell_other]; exact h.2.1; simp, World.cell?_setCell_same _ _ _ h.2.2.1, by rw [World.cell?_setCell_other]; exact h.2.2.2.1; simp, by simpa using h.2.2.2.2.1, by simpa using h.2.2.2.2.2⟩
theorem XBox.set3 {w : World} {b : Nat} {u0 u1 v1 v2 : Value} (h : XBox w b u0 u1 v1 v2) (x : Value) : XBox (w.setCell ⟨b, 3, none⟩ x) b u0 u1 v1 x :=
  ⟨by rw [World.cell?_setCell_other]; exact h.1; simp, by rw [World.cell?_setCell_other]; exact h.2.1; simp, by rw [World.cell?_setCell_other]; exact h.2.2.1; simp, World.cell?_setCell_same _ _ _ h.2.2.2.1, by simpa using h.2.2.2.2.1, by simpa using h.2.2.2.2.2⟩
theorem Within.app {B E : Nat} {a w w' : World} {r : Option Nat} (h : Within B E a w) (hg : w.grownBy w' r) (hr : ∀ k, r = some k → a.heap.size ≤ k) : Within B E a w' :=
  ⟨hg.os.trans h.1, hg.tape.trans h.2.1, hg.output.trans h.2.2.1, Nat.le_trans h.2.2.2.1 hg.size, fun k hk ho => (hg.block k (Nat.lt_of_lt_of_le hk h.2.2.2.1) (fun e => by have := hr k e.symm; omega)).trans (h.2.2.2.2 k hk ho)⟩

end Go.Proofs.Ytcjmcpfdpnakkaa
