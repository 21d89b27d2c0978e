/- How an automaton with choices, as an argument of a law, reads as lists in memory. -/
import Derived.Test.YtnoajdhofdfafaaBase
import Derived.Test.YtnoajdhofdfafaaAut
import Derived.Test.YtnoajdhofdfafaaMach
import Derived.Test.YtnoajdhofdfafaaCho
import Derived.Test.YtnoajdhofdfafaaOpen
import Derived.WalkKit
import Derived.WalkSpells
import Derived.WalkLawsBesides
import Derived.Deep.QuietTactic
import Derived.Deep.OwnRows
import Derived.BigQuiet
import Derived.KernelRfl
import Derived.ProofKit
import Derived.Lib.SmallJoins
import Derived.Deep.Matrix
namespace Go.Proofs.Ytnoajdhofdfafaa
open Go.RowKit

open Go.ChangeShapes Go.WideShapes Go.ChangeAt Go.Joins Go.Deep
section
variable {H : Type} {enc : TypeId × Value → H} {P : Program} {w : World} {base : Nat} {held : Bool}
theorem open_cubeAt {t e q z : TypeId} {fuel : Nat} {cs : List Value} {x : DataW H × List MemPlace} (ht : P.underlying t = some (.slice e)) (he : P.underlying e = some (.slice q)) (hq : P.underlying q = some (.slice z)) (hz : P.underlying z = some (.int .i64))
    (ce : P.cellsOf e = 1) (cq : P.cellsOf q = 1) (cz : P.cellsOf z = 1) (h : DataW.trod enc P w base (fun _ => true) held fuel t cs = some x) : ∃ v c, cs = [v] ∧ CubeAt w v c := by
  rcases open_slice1 ht ce h with ⟨rfl, _⟩ | ⟨a, len, cap, m, n, V, D, Pl, rfl, hb, hl, hm, hmm, rfl, hx⟩
  · exact ⟨_, [], rfl, none, 0, rfl, by simp, by simp⟩
  · simp only [if_true] at hmm
    have hmm' := hmm.symm
    subst hmm'
    have each : ∀ r, r < cap → ∃ xss : List (List Int), RowsAt w (V r) xss := fun r hr => by
      obtain ⟨v', xss, e', hr'⟩ := open_rowsAt he hq hz cq cz (hx r hr).2
      simp at e'
      subst e'
      exact ⟨xss, hr'⟩
    obtain ⟨y, hy⟩ := choose_lt each
    refine ⟨_, (List.range len).map y, rfl, some a, cap, by simp, by simp; unfold maxLen at hm; omega, fun i hi => ?_⟩
    simp at hi
    have h0 := spot_none (hx 0 (by omega)).1 rfl
    have h1 := (hx i (by omega)).1
    rw [h0, add_none] at h1
    refine ⟨a.block, a.off, _, by rw [← h0], h1, ?_⟩
    have e : nth ((List.range len).map y) i = y i := by rw [nth_eq _ _ (by simpa using hi)]; simp
    rw [e]; exact hy i (by omega)
/-- An automaton with choices by value, as it came in. -/
theorem open_choAt {r : Reach} {b0 : Nat} {t t1 t2 e q z : TypeId} {f0 f1 : Field} {v : Value} {d : DataW H} {p : List MemPlace} (hs : P.underlying t = some (.struct #[f0, f1])) (hone : oneCellFields P #[f0, f1] = true) (hC : P.cellsOf t = 2)
    (h1 : f0.type = t1) (h2 : f1.type = t2) (h3 : P.underlying t1 = some (.int .i64)) (ht : P.underlying t2 = some (.slice e)) (he : P.underlying e = some (.slice q)) (hq : P.underlying q = some (.slice z)) (hz : P.underlying z = some (.int .i64))
    (ce : P.cellsOf e = 1) (cq : P.cellsOf q = 1) (cz : P.cellsOf z = 1)
    (hv : Value.okWide P w r b0 t v) (h : DataW.Trod enc P w base (fun _ => true) held t v d p) : ∃ a, ChoAt w v a := by
  obtain ⟨v0, v1, y0, y1, n, rfl, _, _, k0, k1⟩ := open_agg2 hs hone hC hv h
  subst h1 h2
  obtain ⟨z, e0, _, _⟩ := DataW.trod_int h3 k0
  cases e0
  obtain ⟨v', xss, e', hr⟩ := open_cubeAt ht he hq hz ce cq cz k1
  cases e'
  exact ⟨⟨z, xss⟩, _, rfl, hr⟩
end

end Go.Proofs.Ytnoajdhofdfafaa
