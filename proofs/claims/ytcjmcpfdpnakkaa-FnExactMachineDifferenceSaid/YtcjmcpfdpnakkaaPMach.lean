/- A pointer to a machine; when a machine is valid. -/
import Derived.Test.YtcjmcpfdpnakkaaBase
import Derived.Test.YtcjmcpfdpnakkaaAut
import Derived.Test.YtcjmcpfdpnakkaaMach
import Derived.Test.YtcjmcpfdpnakkaaPlain1
import Derived.WalkKit
import Derived.WalkSpells
import Derived.WalkLawsBesides
import Derived.Deep.QuietTactic
import Derived.Deep.OwnRows
import Derived.BigQuiet
import Derived.KernelRfl
namespace Go.Proofs.Ytcjmcpfdpnakkaa
open Go.RowKit

def PMach (w : World) (v : Value) (m : Mach) : Prop := ∃ b r1 r2, v = .pointer (some ⟨b, 0, none⟩) ∧ w.cell? ⟨b, 0, none⟩ = some (.int .i64 m.n) ∧ w.cell? ⟨b, 1, none⟩ = some (.int .i64 m.o) ∧ w.cell? ⟨b, 2, none⟩ = some r1 ∧ w.cell? ⟨b, 3, none⟩ = some r2 ∧ RowsAt w r1 m.nx ∧ RowsAt w r2 m.out
theorem PMach.new {w w' : World} {v : Value} {m : Mach} (h : PMach w v m) (hw : New w w') : PMach w' v m :=
  let ⟨b, r1, r2, e, h0, h1, h2, h3, h4, h5⟩ := h; ⟨b, r1, r2, e, hw.cell h0, hw.cell h1, hw.cell h2, hw.cell h3, h4.new hw, h5.new hw⟩
theorem PMach.box {w : World} {A1 A2 : Option Addr} {c1 c2 : Nat} {m : Mach} (h1 : RowsAt w (.slice A1 m.nx.length c1) m.nx) (h2 : RowsAt w (.slice A2 m.out.length c2) m.out) (t : TypeId) :
    PMach (w.alloc (.cells #[.int .i64 m.n, .int .i64 m.o, .slice A1 m.nx.length c1, .slice A2 m.out.length c2] t)) (.pointer (some ⟨w.heap.size, 0, none⟩)) m :=
  ⟨_, _, _, rfl, by unfold World.cell?; rw [heap_alloc_new]; rfl, by unfold World.cell?; rw [heap_alloc_new]; rfl, by unfold World.cell?; rw [heap_alloc_new]; rfl, by unfold World.cell?; rw [heap_alloc_new]; rfl, h1.new ((New.refl _).alloc _), h2.new ((New.refl _).alloc _)⟩
def Mach.aut (m : Mach) : Aut := ⟨m.n, m.nx⟩
/-- A row of outputs. -/
def outOk (xs : List Int) (n o : Int) : Bool := decide ((xs.length : Int) = n) && allIn xs 0 (o - 1)
def outsOk (m : Mach) : Bool := m.out.all fun r => outOk r m.n m.o
def machOk (m : Mach) : Bool := autOk m.aut && (inB m.o 1 3 && (decide (m.out.length = m.nx.length) && outsOk m))
theorem outsOk_iff (m : Mach) : outsOk m = true ↔ ∀ i, i < m.out.length → outOk (nth m.out i) m.n m.o = true := by
  unfold outsOk
  rw [List.all_eq_true]
  constructor
  · intro h i hi; exact h _ (nth_mem m.out i hi)
  · intro h x hx; obtain ⟨i, hi, rfl⟩ := mem_nth m.out x hx; exact h i hi
theorem outsOk_false (m : Mach) (i : Nat) (hi' : i < m.out.length) (h : outOk (nth m.out i) m.n m.o = false) : outsOk m = false := by
  cases e : outsOk m with
  | false => rfl
  | true => rw [(outsOk_iff m).1 e i hi'] at h; cases h

end Go.Proofs.Ytcjmcpfdpnakkaa
