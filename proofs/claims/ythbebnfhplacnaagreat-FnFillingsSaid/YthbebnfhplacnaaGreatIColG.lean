/- Parts of the proof that lean on no program: IAt, ISurvey, ICol. -/
import Derived.Test.YthbebnfhplacnaaGreatRows
import Derived.Test.YthbebnfhplacnaaGreatCore
import Derived.Test.YthbebnfhplacnaaGreatInfos
import Derived.Test.YthbebnfhplacnaaGreatPlains
import Derived.Test.YthbebnfhplacnaaGreatMaps
import Derived.Test.YthbebnfhplacnaaGreatArrs
import Derived.Test.YthbebnfhplacnaaGreatJoins
import Derived.Test.YthbebnfhplacnaaGreatIArrs
import Derived.Test.YthbebnfhplacnaaGreatIBase
import Derived.Test.YthbebnfhplacnaaGreatIRdss
import Derived.Test.YthbebnfhplacnaaGreatQuicks
import Derived.WalkKit
import Derived.WalkSpells
import Derived.WalkLawsBesides
import Derived.Deep.QuietTactic
import Derived.Deep.OwnRows
import Derived.BigQuiet
import Derived.KernelRfl
import Derived.Carry
import Derived.Deep.RegionLaw
import Derived.Deep.RegionHeld3
import Derived.Deep.WholeRow
import Derived.Deep.Cut
import Derived.Laws.EntriesVeiled
namespace Go.Proofs.YthbebnfhplacnaaGreat
open Go.RowKit

section
theorem OwnInts.madeZ (w : World) (T : TypeId) (n : Nat) (h : n ≤ 1099511627776) : OwnInts w.heap.size (w.heap.size + 1) (w.alloc (.cells (madeCells #[.int .i64 0] n) T)) (.slice (some ⟨w.heap.size, 0, none⟩) n n) (List.replicate n 0) := by
  have hr : (w.alloc (.cells (madeCells #[.int .i64 0] n) T)).rowIs w.heap.size T n (fun _ => .int .i64 0) := World.rowIs_made _ _ _ _
  refine ⟨some ⟨w.heap.size, 0, none⟩, n, by simp, by simpa using h, fun a ha => by cases ha; exact ⟨Nat.le_refl _, Nat.lt_succ_self _⟩, fun i hi => ⟨_, _, rfl, ?_, hr.frozen _⟩⟩
  have hi' : 0 + i < n := by simpa using hi
  rw [nth_eq _ _ hi, List.getElem_replicate]
  have := hr.cell hi'
  simpa using this
end
section
theorem info_flockS : (Tryz.prog.info? 63).map (fun i => (i.zero, i.size, i.bytes)) = some (some (.int .u64 0), 1, 8) := by kernel_rfl
/-- A block of small numbers that may be written. -/
def I16At (w : World) (b n : Nat) (F : Nat → Int) : Prop := ∀ x, x < n → w.cell? ⟨b, x, none⟩ = some (.int .i16 (F x)) ∧ w.frozen? ⟨b, x, none⟩ = false
theorem I16At.block {w w' : World} {b n : Nat} {F : Nat → Int} (h : I16At w b n F) (hb : w'.heap[b]? = w.heap[b]?) : I16At w' b n F := fun x hx =>
  ⟨by rw [World.cell?_of_block (w := w) hb]; exact (h x hx).1, by rw [World.frozen?_of_block (w := w) hb]; exact (h x hx).2⟩
theorem I16At.lt {w : World} {b n : Nat} {F : Nat → Int} (h : I16At w b n F) (hn : 0 < n) : b < w.heap.size := World.block_lt_of_cell? w _ (h 0 hn).1
theorem I16At.new {w w' : World} {b n : Nat} {F : Nat → Int} (h : I16At w b n F) (hn : New w w') (h0 : 0 < n) : I16At w' b n F := h.block (hn.block b (h.lt h0))
theorem I16At.grown {w w' : World} {b n : Nat} {F : Nat → Int} {r : Option Nat} (h : I16At w b n F) (h0 : 0 < n) (hg : w.grownBy w' r) (hr : some b ≠ r) : I16At w' b n F := h.block (hg.block b (h.lt h0) hr)
theorem I16At.set {w : World} {b n : Nat} {F : Nat → Int} (h : I16At w b n F) (x : Nat) (v : Int) : I16At (w.setCell ⟨b, x, none⟩ (.int .i16 v)) b n (fun y => if y = x then v else F y) := fun y hy => by
  by_cases e : y = x
  · subst e
    refine ⟨?_, by simpa using (h y hy).2⟩
    show _ = some (Value.int .i16 (if y = y then v else F y))
    rw [if_pos rfl]; exact World.cell?_setCell_same _ _ _ (h y hy).1
  · refine ⟨?_, by simpa using (h y hy).2⟩
    show _ = some (Value.int .i16 (if y = x then v else F y))
    rw [if_neg e, World.cell?_setCell_other]
    · exact (h y hy).1
    · intro h; injection h with _ h _; exact e (by omega)
theorem I16At.congr {w : World} {b n : Nat} {F G : Nat → Int} (h : I16At w b n F) (e : ∀ x, x < n → F x = G x) : I16At w b n G := fun x hx => by rw [← e x hx]; exact h x hx
theorem I16At.made (w : World) (t : TypeId) (n : Nat) : I16At (w.alloc (.cells (List.replicate n (Value.int .i16 0)).toArray t)) w.heap.size n (fun _ => 0) := fun x hx => by
  constructor
  · unfold World.cell?
    rw [heap_alloc_new]
    simp [hx]
  · unfold World.frozen?
    rw [heap_alloc_new]
    simp
end
section
def colCode (r : Aut) : Int := if roadsOk r = true then (if 50000 < colCount r then 3 else 0) else 1
theorem RowsAt.solidOld {w0 w : World} {S : Nat → Prop} {v : Value} {xss : List (List Int)} (h : RowsAt w0 v xss) (hn : New w0 w) (hS : ∀ q, S q → w0.heap.size ≤ q) : Solid S w (fun w => RowsAt w v xss) := fun _ hb => h.new (But.new hn hb hS)
end

end Go.Proofs.YthbebnfhplacnaaGreat
