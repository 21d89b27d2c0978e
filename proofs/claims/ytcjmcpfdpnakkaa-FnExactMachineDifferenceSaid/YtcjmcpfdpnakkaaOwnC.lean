/- The cells of an own list, and what they read. -/
import Derived.Test.YtcjmcpfdpnakkaaBase
import Derived.WalkKit
import Derived.WalkSpells
import Derived.WalkLawsBesides
import Derived.Deep.QuietTactic
import Derived.Deep.OwnRows
import Derived.BigQuiet
import Derived.KernelRfl
namespace Go.Proofs.Ytcjmcpfdpnakkaa
open Go.RowKit

theorem OwnInts.cells {B E b off n c : Nat} {w : World} {m : List Int} (h : OwnInts B E w (.slice (some ⟨b, off, none⟩) n c) m) :
    n = m.length ∧ B ≤ b ∧ b < E ∧ ∀ i, i < m.length → w.cell? ⟨b, off + i, none⟩ = some (.int .i64 (nth m i)) ∧ w.frozen? ⟨b, off + i, none⟩ = false := by
  obtain ⟨A, c', e, hl, ha, hc⟩ := h
  cases e
  have := ha _ rfl
  refine ⟨rfl, this.1, this.2, fun i hi => ?_⟩
  obtain ⟨b', off', e, hx, hf⟩ := hc i hi
  cases e
  exact ⟨hx, hf⟩
/-- What the cells of a row read. -/
def readC (w : World) (b off n : Nat) : List Int := (List.range n).map fun i => match w.cell? ⟨b, off + i, none⟩ with
  | some (.int _ x) => x
  | _ => 0
theorem OwnInts.read {B E b off n c : Nat} {w : World} {m : List Int} (h : OwnInts B E w (.slice (some ⟨b, off, none⟩) n c) m) : readC w b off n = m := by
  obtain ⟨rfl, _, _, hc⟩ := h.cells
  apply ext_nth _ _ (by simp [readC])
  intro i hi
  have hi' : i < m.length := by simpa [readC] using hi
  rw [nth_eq _ _ hi]
  simp [readC, (hc i hi').1]
theorem OwnInts.addr {B E : Nat} {w : World} {v : Value} {m : List Int} (h : OwnInts B E w v m) (hm : 0 < m.length) : ∃ b off c, v = .slice (some ⟨b, off, none⟩) m.length c := by
  obtain ⟨A, c, rfl, hl, ha, hc⟩ := h
  obtain ⟨b, off, rfl, _⟩ := hc 0 hm
  exact ⟨b, off, c, rfl⟩
theorem OwnInts.made (w : World) (n : Nat) (e : TypeId) (hn : n ≤ 1099511627776) : OwnInts w.heap.size (w.heap.size + 1) (w.alloc (.cells (madeCells #[.int .i64 0] n) e)) (.slice (some ⟨w.heap.size, 0, none⟩) n n) (List.replicate n 0) := by
  have hrow := World.rowIs_made w (.int .i64 0) n e
  refine ⟨some ⟨w.heap.size, 0, none⟩, n, by rw [List.length_replicate], by rw [List.length_replicate]; exact hn, fun a h => by cases h; exact ⟨Nat.le_refl _, Nat.lt_succ_self _⟩, fun i hi => ⟨_, _, rfl, ?_, hrow.frozen _⟩⟩
  have hi' : i < n := by simpa using hi
  rw [Nat.zero_add, hrow.cell hi']
  simp [nth, hi']
theorem OwnInts.cell_at {B E b off n c : Nat} {w : World} {m : List Int} (h : OwnInts B E w (.slice (some ⟨b, off, none⟩) n c) m) (i : Nat) (hi : i < m.length) : w.cell? ⟨b, off + i, none⟩ = some (.int .i64 (nth m i)) ∧ w.frozen? ⟨b, off + i, none⟩ = false := h.cells.2.2.2 i hi

end Go.Proofs.Ytcjmcpfdpnakkaa
