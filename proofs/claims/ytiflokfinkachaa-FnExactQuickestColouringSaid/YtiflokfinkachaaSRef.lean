/- The reference's colouring of right roads with a number. -/
import Derived.Test.YtiflokfinkachaaRows
import Derived.Test.YtiflokfinkachaaCore
import Derived.Test.YtiflokfinkachaaInfos
import Derived.Test.YtiflokfinkachaaPlains
import Derived.Test.YtiflokfinkachaaJoins
import Derived.Test.YtiflokfinkachaaMaps
import Derived.Test.YtiflokfinkachaaArrs
import Derived.Test.YtiflokfinkachaaSBase
import Derived.Test.YtiflokfinkachaaS05a
import Derived.Test.YtiflokfinkachaaSArr
import Derived.Test.YtiflokfinkachaaSChoices
import Derived.Test.YtiflokfinkachaaSAt
import Derived.WalkKit
import Derived.WalkSpells
import Derived.WalkLawsBesides
import Derived.Deep.QuietTactic
import Derived.Deep.OwnRows
import Derived.BigQuiet
import Derived.KernelRfl
namespace Go.Proofs.Ytiflokfinkachaa
open Go.RowKit

/-- Roads whose rows are not longer than their capacities. -/
def CapAut (w : World) (v : Value) (r : Aut) : Prop := ∃ rv, v = .agg #[.int .i64 r.n, rv] ∧ CapRows w rv r.nx
theorem CapAut.at {w : World} {v : Value} {r : Aut} (h : CapAut w v r) : AutAt w v r := let ⟨rv, e, h⟩ := h; ⟨rv, e, h.rows⟩
theorem CapAut.new {w w' : World} {v : Value} {r : Aut} (h : CapAut w v r) (hn : New w w') : CapAut w' v r := let ⟨rv, e, h⟩ := h; ⟨rv, e, h.new hn⟩
theorem choices_small {r : Aut} (hr : RoadsFacts r) (p : Nat) (h : p < (choicesOf r).length) : (nth (choicesOf r) p).length ≤ 1000 := by
  rw [choices_len] at h
  rw [nth_choices _ _ h]
  have h1 := arr_len (nth r.nx p).length (nth r.nx p)
  have h2 : ∀ n, n ≤ 3 → arrB n ≤ 6 := by decide
  have h3 := h2 (nth r.nx p).length (by rw [hr.row p h]; exact hr.l3)
  show (arrF (nth r.nx p).length (nth r.nx p)).length ≤ 1000
  omega
/-- The reference's colouring of right roads with a number. -/
theorem refAt_any (cv : Value) (r : Aut) (N : Nat) (w : World) (hc : ListAt RowsAt w cv (choicesOf r)) (hf : RoadsFacts r) (hN : N ≤ 4611686018427387904) :
    Calls Try.prog 103 #[cv, .int .i64 N] w fun e w' => ∃ r2, e = .returned r2 ∧ New w w' ∧ OwnAut w.heap.size w'.heap.size w' r2 ⟨r.nx.length, atRows (choicesOf r) N (nth r.nx 0).length⟩ := by
  have hl := choices_len r
  have h := l05At_any cv (choicesOf r) (nth r.nx 0).length N w hc (by rw [hl]; exact hf.n1) (by rw [hl]; exact hf.n7) ⟨hf.l1, hf.l3⟩ (fun p hp => choices_pos p hp) (fun p hp i hi => choices_row hf p hp i hi) (fun p hp => choices_small hf p hp) hN
  have e : (((choicesOf r).length : Nat) : Int) = ((r.nx.length : Nat) : Int) := by rw [hl]
  rw [e] at h
  exact h

end Go.Proofs.Ytiflokfinkachaa
