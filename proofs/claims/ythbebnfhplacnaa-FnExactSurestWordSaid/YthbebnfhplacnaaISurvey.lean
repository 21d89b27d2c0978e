/- The program's survey of an automaton. -/
import Derived.Test.YthbebnfhplacnaaRows
import Derived.Test.YthbebnfhplacnaaCore
import Derived.Test.YthbebnfhplacnaaInfos
import Derived.Test.YthbebnfhplacnaaPlains
import Derived.Test.YthbebnfhplacnaaQuicks
import Derived.Test.YthbebnfhplacnaaMaps
import Derived.Test.YthbebnfhplacnaaArrs
import Derived.WalkKit
import Derived.WalkSpells
import Derived.WalkLawsBesides
import Derived.Deep.QuietTactic
import Derived.Deep.OwnRows
import Derived.BigQuiet
import Derived.KernelRfl
import Derived.Carry
import Derived.Deep.WholeRow
import Derived.Deep.RegionLaw
import Derived.Deep.Cut
import Derived.Deep.RegionHeld3
namespace Go.Proofs.Ythbebnfhplacnaa
open Go.RowKit

theorem info_flockS : (Try.prog.info? 55).map (fun i => (i.zero, i.size, i.bytes)) = some (some (.int .u64 0), 1, 8) := by kernel_rfl
/-- A block of small numbers that may be written. -/
def I16At (w : World) (b n : Nat) (F : Nat → Int) : Prop := ∀ x, x < n → w.cell? ⟨b, x, none⟩ = some (.int .i16 (F x)) ∧ w.frozen? ⟨b, x, none⟩ = false
theorem I16At.block {w w' : World} {b n : Nat} {F : Nat → Int} (h : I16At w b n F) (hb : w'.heap[b]? = w.heap[b]?) : I16At w' b n F := fun x hx =>
  ⟨by rw [World.cell?_of_block (w := w) hb]; exact (h x hx).1, by rw [World.frozen?_of_block (w := w) hb]; exact (h x hx).2⟩
theorem I16At.lt {w : World} {b n : Nat} {F : Nat → Int} (h : I16At w b n F) (hn : 0 < n) : b < w.heap.size := World.block_lt_of_cell? w _ (h 0 hn).1
theorem I16At.new {w w' : World} {b n : Nat} {F : Nat → Int} (h : I16At w b n F) (hn : New w w') (h0 : 0 < n) : I16At w' b n F := h.block (hn.block b (h.lt h0))
theorem I16At.grown {w w' : World} {b n : Nat} {F : Nat → Int} {r : Option Nat} (h : I16At w b n F) (h0 : 0 < n) (hg : w.grownBy w' r) (hr : some b ≠ r) : I16At w' b n F := h.block (hg.block b (h.lt h0) hr)
theorem I16At.set {w : World} {b n : Nat} {F : Nat → Int} (h : I16At w b n F) (x : Nat) (v : Int) : I16At (w.setCell ⟨b, x, none⟩ (.int .i16 v)) b n (fun y => if y = x then v else F y) := fun y hy => by
  by_cases e : y = x
  · subst e
    refine ⟨?_, by simpa using (h y hy).2⟩
    show _ = some (Value.int .i16 (if y = y then v else F y))
    rw [if_pos rfl]; exact World.cell?_setCell_same _ _ _ (h y hy).1
  · refine ⟨?_, by simpa using (h y hy).2⟩
    show _ = some (Value.int .i16 (if y = x then v else F y))
    rw [if_neg e, World.cell?_setCell_other]
    · exact (h y hy).1
    · intro h; injection h with _ h _; exact e (by omega)
theorem I16At.congr {w : World} {b n : Nat} {F G : Nat → Int} (h : I16At w b n F) (e : ∀ x, x < n → F x = G x) : I16At w b n G := fun x hx => by rw [← e x hx]; exact h x hx
theorem I16At.made (w : World) (t : TypeId) (n : Nat) : I16At (w.alloc (.cells (List.replicate n (Value.int .i16 0)).toArray t)) w.heap.size n (fun _ => 0) := fun x hx => by
  constructor
  · unfold World.cell?
    rw [heap_alloc_new]
    simp [hx]
  · unfold World.frozen?
    rw [heap_alloc_new]
    simp

end Go.Proofs.Ythbebnfhplacnaa
